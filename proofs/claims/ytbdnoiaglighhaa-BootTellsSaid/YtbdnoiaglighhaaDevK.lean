/- make of bytes, copy into a block that is known whole, slices.Clone of bytes. No statement is proved here. -/
import Derived.Test.YtbdnoiaglighhaaDevW
namespace Go.Proofs.Ytbdnoiaglighhaa
set_option linter.unusedVariables false
set_option linter.unusedSimpArgs false
open Go.RowKit Go.Maps

theorem make_bytes (n : Nat) (hn : n ≤ 60000) (W : World) : (Instr.makeSlice 41 (.int .i64 (n : Int)) (.int .i64 (n : Int))).run Try.prog W = .ok (.slice (some ⟨W.heap.size, 0, none⟩) n n) (W.alloc (.cells (bs (List.replicate n 0)).toArray 5)) := by
  obtain ⟨i, hi, hz0, hz1, hz2⟩ := info_parts S41.2.1
  have := run_make (P := Try.prog) W 41 5 i (.int .u8 0) Try.underlying41 hi hz0 .i64 .i64 n n (by omega) (by omega) (by rw [hz2]; omega) (by omega)
  have e : madeCells (Value.int .u8 0).cells (Int.toNat n * i.size) = (bs (List.replicate n 0)).toArray := by
    rw [hz1]
    apply Array.ext
    · simp [madeCells]
    · intro j h1 h2
      have hl : (madeCells (Value.int .u8 0).cells (Int.toNat n * 1))[j] = .int .u8 0 := by simp [madeCells, Value.cells, Nat.mod_one]
      rw [hl]
      simp only [List.getElem_toArray, List.getElem_map, List.getElem_replicate]
      rfl
  rw [e] at this
  simpa using this

section
variable {P : Program} {w : World}
theorem lay_nil (cs : List Value) (o : Nat) : lay cs o [] = cs := by simp [lay]
/-- The builtin copy into a block that is known whole. -/
theorem wpList_copyAt {ops : Array Oper} {rest : List Oper} {o : Oper} {a : Act} {Q : Exit → Act → World → Prop} (hgd : o.guard = none) (x y : Operand) (dT sT elem : TypeId)
    (ho : o.op = .call { callee := .builtin .copy, args := #[x, y], argTypes := #[dT, sT] }) (hu : P.underlying dT = some (.slice elem)) (hsz : (P.info? elem).map (·.size) = some 1)
    {g off dLen dCap sLen sCap : Nat} {t : TypeId} {cs : List Value} {A : Option Addr} {l : List UInt8} (hx : a.eval x = .slice (some ⟨g, off, none⟩) dLen dCap) (hy : a.eval y = .slice A sLen sCap) (hr : Rd w A (bs l)) (hl : l.length = sLen)
    (hb : Blk w g t cs) (hfit : off + (l.take dLen).length ≤ cs.length)
    (h : ∀ w', Blk w' g t (lay cs off (bs (l.take dLen))) → w.grownBy w' (some g) → wpList P ops Q rest (a.put o.dst (goInt (l.take dLen).length)) w') : wpList P ops Q (o :: rest) a w := by
  by_cases h0 : (l.take dLen).length = 0
  · have hnil : l.take dLen = [] := List.eq_nil_of_length_eq_zero h0
    refine wpList_copy_nothing hgd x y dT sT ho elem hu hsz _ _ dLen dCap sLen sCap hx hy (by
      rw [List.length_take] at h0
      subst hl
      show min l.length dLen = 0
      omega) ?_
    have := h w (by rw [hnil]; exact (lay_nil cs off).symm ▸ hb) ⟨rfl, rfl, rfl, Nat.le_refl _, fun _ _ _ => rfl⟩
    rw [h0] at this
    exact this
  · have hr' : Rd w A (bs (l.take dLen)) := by rw [bs, List.map_take]; exact hr.take dLen
    obtain ⟨b, q, hA, _⟩ := hr'.cell (k := 0) (by rw [bs_length]; omega)
    subst hA
    have hn : (bs (l.take dLen)).length = Nat.min sLen dLen := by
      rw [bs_length, List.length_take, hl]
      show min dLen sLen = min sLen dLen
      omega
    refine wpList_copy_own hgd x y dT sT ho elem hu hsz g off dLen dCap ⟨b, q, none⟩ sLen sCap hx hy cs.toArray t hb (bs (l.take dLen)) hn (hr'.cells _ rfl) (by rw [bs_length]; simpa using hfit) (bs_one _) ?_
    have := h (w.setRow g (lay cs off (bs (l.take dLen))).toArray) (setRow_heap w g _ _ t _ hb) ⟨rfl, rfl, rfl, by simp [World.setRow], fun k _ hk => setRow_other w g k _ (fun e => hk (by rw [e]))⟩
    rw [bs_length]
    simpa [lay] using this
end
theorem lay_fit (n : Nat) (b : List UInt8) : lay (bs (List.replicate n 0)) 0 (bs (b.take n)) = bs (fit n b) := by
  unfold lay fit
  rw [List.take_zero, List.nil_append, Nat.zero_add, bs_append, bs_length]
  congr 1
  rw [bs, ← List.map_drop, List.drop_replicate]
  congr 2
  simp
  omega

section
variable {w : World} {F : Nat → Prop}
theorem clone_nil (w : World) : Calls Try.prog 76 #[.slice none 0 0] w fun e w' => e = .returned (.slice none 0 0) ∧ w = w' := by
  have hq := fun (wx : World) => Lib.run_eql_slice_nil (P := Try.prog) wx
  go_enter Try.func76, Try.ntmps76
  go_wp2
  go_ret
  exact ⟨rfl, rfl⟩
set_option maxRecDepth 100000 in
theorem clone_calls (g o c : Nat) (l : List UInt8) (n : Nat) (hn : l.length = n) (h0 : 0 < n) (hm : n ≤ 16777216) (w : World) (hr : Rd w (some ⟨g, o, none⟩) (bs l)) :
    Calls Try.prog 76 #[.slice (some ⟨g, o, none⟩) n c] w fun e w' => ∃ g' c', e = .returned (.slice (some ⟨g', 0, none⟩) n c') ∧ w'.ownsRow w.heap.size 5 1 (.slice (some ⟨g', 0, none⟩) n c') n (bs l) ∧ Below w.heap.size w w' := by
  have hown0 := own_empty w w.heap.size (Nat.le_refl _)
  have bE := (Below.refl w.heap.size w).alloc (Nat.le_refl _) (.cells #[] 5)
  have hq := fun (wx : World) => Lib.run_eql_slice_nil (P := Try.prog) wx
  go_enter Try.func76, Try.ntmps76
  go_wp2_with (first
    | (at_builtin; refine wpList_appAny (v := .slice (some ⟨w.heap.size, 0, none⟩) 0 0) S41 rfl (.tmp 5) (.tmp 6) rfl rfl rfl hown0 (hr.alloc _) (by rw [bs_length, hn]; omega) (bs_one _) (by omega) (by unfold maxLen; omega) (by simp) ?_; intro v1 w1 hown1 hg1 hl1))
  go_ret
  rw [List.nil_append, Nat.zero_add] at hown1
  obtain ⟨A1, c1, rfl⟩ := own_slice hown1
  obtain ⟨g1, rfl, _, _, _⟩ := own_at hown1 h0
  exact ⟨g1, c1, rfl, hown1, below_grown bE hown0 hg1 (by simp)⟩
theorem _root_.Go.RowKit.Below.trans' {w w1 w2 : World} (h : Below w.heap.size w w1) (hg : w1.grownBy w2 (some w.heap.size)) : Below w.heap.size w w2 := h.grown hg h.size (fun j hj => by cases hj; exact Nat.le_refl _)
theorem block_in (S : Dev) (f : Int → Option (List UInt8)) {x : Int} (h : S.has x) : S.block f x = (f x).getD (List.replicate S.size 0) := by unfold Dev.block; rw [if_pos h]
set_option maxHeartbeats 400000 in
set_option maxRecDepth 100000 in
theorem dblock_calls {db mS mN mb : Nat} {S : Dev} {vL vT : Value} {f : Int → Option (List UInt8)} (h : Blk w db 102 (devCells S mS mN vL vT)) (hF : Lies F w) (hm : MapIs w F mb S.blocks S.size f) (hok : S.Ok) (x : Int) :
    Calls Try.prog 78 #[.pointer (some ⟨db, 0, none⟩), .map (some mb), .int .i64 x] w fun e w' =>
      (¬ S.has x ∧ e = .returned (.slice none 0 0) ∧ w = w') ∨
      (S.has x ∧ e = .returned (.slice (some ⟨w.heap.size, 0, none⟩) S.size S.size) ∧ Blk w' w.heap.size 5 (bs (S.block f x)) ∧ Below w.heap.size w w') := by
  have c1 := h.dev.2.1
  have H := Lib.hid h
  by_cases hx : S.has x
  · have hd : decide (S.has x) = true := by simpa using hx
    have hmk := make_bytes S.size hok.size
    have h0 := hx.1
    have h1 := hx.2
    obtain ⟨O, hO⟩ : ∃ O : Obj, O = .cells (bs (List.replicate S.size 0)).toArray 5 := ⟨_, rfl⟩
    rw [← hO] at hmk
    have HM := Lib.hid (hm.same (Same.alloc hF O))
    have HB := Lib.hid (show Blk (w.alloc O) w.heap.size 5 (bs (List.replicate S.size 0)) by rw [hO]; exact Blk.new w 5 _)
    have BB := Lib.hid ((Below.refl w.heap.size w).alloc (Nat.le_refl _) O)
    obtain ⟨v, hrun, hv⟩ := HM.out.look hok.blocks h0 h1
    have HV := Lib.hid hv
    have HX := Lib.hid hx
    clear h hm hv hx hO
    rcases HV.out with ⟨hn, rfl⟩ | ⟨l, hf, hl, hdat⟩
    · have HN := Lib.hid hn
      clear hn HV h0 h1
      go_enter Try.func78, Try.ntmps78
      go_wp2_with (first
        | (go_at_call 77; refine (dhas_calls H.out x).mono ?_; rintro e w' ⟨rfl, rfl⟩; rw [hd])
        | (refine wpList_copyAt rfl (.tmp 17) (.tmp 20) 41 41 5 rfl Try.underlying41 info5 (l := []) rfl rfl (.nil _ _) rfl HB.out (by simp) ?_; intro w2 hb2 hg2))
      go_ret
      refine .inr ⟨HX.out, rfl, ?_, BB.out.trans' hg2⟩
      rw [block_in S f HX.out, HN.out]
      simpa [lay] using hb2
    · obtain ⟨A, c, rfl, hrd⟩ := hdat.rd
      have HN := Lib.hid hf
      have HR := Lib.hid hrd
      have HL := Lib.hid hl
      clear hf hdat hrd HV h0 h1 hl
      go_enter Try.func78, Try.ntmps78
      go_wp2_with (first
        | (go_at_call 77; refine (dhas_calls H.out x).mono ?_; rintro e w' ⟨rfl, rfl⟩; rw [hd])
        | (refine wpList_copyAt rfl (.tmp 17) (.tmp 20) 41 41 5 rfl Try.underlying41 info5 (l := l) rfl rfl HR.out rfl HB.out (by rw [bs_length, List.length_replicate, List.length_take]; omega) ?_; intro w2 hb2 hg2))
      go_ret
      refine .inr ⟨HX.out, rfl, ?_, BB.out.trans' hg2⟩
      rw [block_in S f HX.out, HN.out]
      rw [lay_fit, fit_same _ _ HL.out] at hb2
      exact hb2
  · have hd : decide (S.has x) = false := by simpa using hx
    have HX := Lib.hid hx
    clear h hm hx
    go_enter Try.func78, Try.ntmps78
    go_wp2_with (first
      | (go_at_call 77; refine (dhas_calls H.out x).mono ?_; rintro e w' ⟨rfl, rfl⟩; rw [hd]))
    go_ret
    exact .inl ⟨HX.out, rfl, rfl⟩
end
end Go.Proofs.Ytbdnoiaglighhaa
