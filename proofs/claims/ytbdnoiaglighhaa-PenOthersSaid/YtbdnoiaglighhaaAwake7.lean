/- The walk of dumbwaiterlaw7.awake. No statement is proved here. -/
import Derived.Test.YtbdnoiaglighhaaBack
import Derived.Lib.SlBytesConst
import Derived.Test.YtbdnoiaglighhaaByteEq
namespace Go.Proofs.Ytbdnoiaglighhaa
set_option linter.unusedVariables false
set_option linter.unusedSimpArgs false
open Go.RowKit

theorem head_at (boot seq : Nat) (B Q : Int) (hB : B = (boot : Int)) (hQ : Q = (seq : Int)) (hb : boot < 4294967296) (w : World) :
    Calls Try.prog 38 #[.int .u32 B, .int .u64 Q] w fun e w' => e = .returned (.agg (bs (hdB boot seq)).toArray) ∧ Below w.heap.size w w' := by
  subst hB hQ; exact head_calls boot seq hb w
theorem seal_at (key : List UInt8) (hk : key.length = 32) (boot seq : Nat) (B Q : Int) (hB : B = (boot : Int)) (hQ : Q = (seq : Int)) (hb : boot < 4294967296) (l : List UInt8) (A : Option Addr) (n c : Nat) (hn : l.length = n) (size : Int) (hs : size ≤ 60000) (w : World) (hr : Rd w A (bs l)) :
    Calls Try.prog 33 #[.agg (bs key).toArray, .int .u32 B, .int .u64 Q, .slice A n c, .int .i64 size] w (Sealed key boot seq l size w) := by
  subst hB hQ; exact seal_calls key hk boot seq hb l A n c hn size hs w hr
def key0 : List UInt8 := List.replicate 32 0
def zkey : List Value := bs key0
theorem Sealed.yes {key : List UInt8} {boot seq : Nat} {l : List UInt8} {s : Nat} {w : World} {e : Ending} {w' : World} (h : Sealed key boot seq l (s : Int) w e w') (hl : l.length + 22 ≤ s) :
    ∃ A c, e = .returned (.tuple #[.slice A s c, .bool true]) ∧ w'.ownsRow w.heap.size 5 1 (.slice A s c) s (bs (sealB key boot seq l s)) ∧ Below w.heap.size w w' := by
  rcases h with ⟨s', v, hs, _, he, ho, hb⟩ | ⟨h1, _, _⟩
  · obtain rfl : s = s' := by omega
    obtain ⟨A, c, rfl⟩ := own_slice ho
    exact ⟨A, c, he, ho, hb⟩
  · omega
theorem Sealed.no {key : List UInt8} {boot seq : Nat} {l : List UInt8} {size : Int} {w : World} {e : Ending} {w' : World} (h : Sealed key boot seq l size w e w') (hl : size < (l.length : Int) + 22) :
    e = .returned (.tuple #[.slice none 0 0, .bool false]) ∧ Below w.heap.size w w' := by
  rcases h with ⟨s', v, hs, h2, _⟩ | ⟨_, he, hb⟩
  · omega
  · exact ⟨he, hb⟩
theorem Opened.yes {key raw : List UInt8} {w : World} {e : Ending} {w' : World} (h : Opened key raw w e w') {t : List UInt8} {b q : Nat} (ho : openB key raw = some (t, b, q)) :
    ∃ A c, e = .returned (.tuple #[.slice A t.length c, .int .u32 (b : Int), .int .u64 (q : Int), .bool true]) ∧ w'.ownsRow w.heap.size 5 1 (.slice A t.length c) t.length (bs t) ∧ Below w.heap.size w w' := by
  rcases h with ⟨t', b', q', v, h1, _, _, he, hw, hb⟩ | ⟨h1, _, _⟩
  · rw [ho] at h1
    injection h1 with h1
    injection h1 with h1 h2
    injection h2 with h2 h3
    subst h1 h2 h3
    obtain ⟨A, c, rfl⟩ := own_slice hw
    exact ⟨A, c, he, hw, hb⟩
  · rw [ho] at h1; cases h1

theorem make19 (W : World) : (Instr.makeSlice 41 (.int .i64 19) (.int .i64 19)).run Try.prog W = .ok (.slice (some ⟨W.heap.size, 0, none⟩) 19 19) (W.alloc (.cells (bs (List.replicate 19 0)).toArray 5)) := by
  obtain ⟨i, hi, hz0, hz1, hz2⟩ := info_parts S41.2.1
  have := run_make (P := Try.prog) W 41 5 i (.int .u8 0) Try.underlying41 hi hz0 .i64 .i64 19 19 (by decide) (by decide) (by rw [hz2]; decide) (by decide)
  have e : madeCells (Value.int .u8 0).cells (Int.toNat 19 * i.size) = (bs (List.replicate 19 0)).toArray := by
    rw [hz1]
    apply Array.ext
    · simp [madeCells]
    · intro j h1 h2
      have hl : (madeCells (Value.int .u8 0).cells (Int.toNat 19 * 1))[j] = .int .u8 0 := by simp [madeCells, Value.cells, Nat.mod_one]
      rw [hl]
      simp only [List.getElem_toArray, List.getElem_map, List.getElem_replicate]
      rfl
  rw [e] at this
  exact this
set_option maxHeartbeats 1000000 in
set_option maxRecDepth 100000 in
theorem awake7_calls (w : World) : Calls Try.prog 32 #[] w fun e w' => e = .returned (.bool true) ∧ Below w.heap.size w w' := by
  have hk : key0.length = 32 := rfl
  have HK := Lib.hid hk
  have B0 := Lib.hid (Blk.new w 58 zkey)
  have BB := Lib.hid ((Below.refl w.heap.size w).alloc (Nat.le_refl _) (.cells zkey.toArray 58))
  clear hk
  go_enter Try.func32, Try.ntmps32
  go_wp2_with fail
  refine (head_at 258 3 _ _ rfl rfl (by decide) _).mono ?_
  rintro e w1 ⟨rfl, hb1⟩
  have C0 := Lib.hid ((show Blk (w.alloc (.cells zkey.toArray 58)) w.heap.size 58 zkey from B0.out).below hb1 (by simp))
  have CB := Lib.hid (BB.out.trans (hb1.mono (by simp)))
  clear hb1 B0 BB
  obtain ⟨h, hh⟩ : ∃ h, h = hdB 258 3 := ⟨_, rfl⟩
  rw [← hh]
  have hhl : (bs h).length = 12 := by rw [hh, bs_length, hdB_length]
  have Hh := Lib.hid hh
  have HHl := Lib.hid hhl
  clear hh hhl
  have hP := Blk.new w1 48 noughts12
  obtain ⟨g, hg⟩ : ∃ g, g = w1.heap.size := ⟨_, rfl⟩
  rw [← hg] at hP
  have HP := Lib.hid hP
  have Hg := Lib.hid hg
  have D0 := Lib.hid (C0.out.alloc (.cells noughts12.toArray 48))
  have DB := Lib.hid (CB.out.alloc CB.out.size (.cells noughts12.toArray 48))
  have hg0 : w.heap.size < g := by rw [hg]; exact C0.out.lt
  clear hP hg C0 CB
  go_wp2_with (first
    | (refine wpList_putAll rfl 48 (.tmp 2) (.tmp 11) rfl (vs := bs h) rfl rfl (by rw [← Hg.out]; exact HP.out) info48 HHl.out (by decide) (bs_one _) ?_
       intro w5 hP5 hg5
       have E0 := Lib.hid (D0.out.grown hg5 (by have := Hg.out; simp; omega))
       have EB := Lib.hid (DB.out.grown hg5 DB.out.size (fun j hj => by cases hj; have := Hg.out; omega))
       have E1 := Lib.hid (show Blk w5 g 48 (bs h) by rw [Hg.out]; exact hP5)
       clear hP5 hg5 D0 DB HP)
    | (refine wpList_getAll rfl 58 (.tmp 1) rfl rfl E0.out Try.underlying58 rfl info58 rfl ?_))
  rw [Lib.run_convert_bytes_const w5 41 5 _ _ _ Try.underlying41 Try.underlying5]
  have F0 := Lib.hid (E0.out.alloc (.cells #[.int .u8 97, .int .u8 98] 5 (2, 3)))
  have F1 := Lib.hid (E1.out.alloc (.cells #[.int .u8 97, .int .u8 98] 5 (2, 3)))
  have FB := Lib.hid (EB.out.alloc EB.out.size (.cells #[.int .u8 97, .int .u8 98] 5 (2, 3)))
  have FR := Lib.hid (show Rd (w5.alloc (.cells #[.int .u8 97, .int .u8 98] 5 (2, 3))) (some ⟨w5.heap.size, 0, none⟩) (bs [97, 98]) from fun _ => ⟨_, 0, rfl, _, _, _, heap_alloc_new w5 _, fun i hi => by
    rw [Nat.zero_add]
    match i, hi with
    | 0, _ => rfl
    | 1, _ => rfl
    | i + 2, hi => exact absurd hi (by simp)⟩)
  clear E0 E1 EB
  go_wp2_with fail
  refine (seal_at key0 rfl 258 3 _ _ rfl rfl (by decide) [97, 98] _ _ _ rfl 40 (by decide) _ FR.out).mono ?_
  intro e w6 hS
  obtain ⟨A6, c6, rfl, hown6, hb6⟩ := Sealed.yes (s := 40) hS (by decide)
  have G0 := Lib.hid (F0.out.below hb6 F0.out.lt)
  have G1 := Lib.hid (F1.out.below hb6 F1.out.lt)
  have GB := Lib.hid (FB.out.trans (hb6.mono FB.out.size))
  have GO := Lib.hid (Joins.ownsRow_le (base' := w.heap.size) hown6 FB.out.size)
  clear hb6 F0 F1 FB FR hown6 hS
  have hc6 : 40 ≤ c6 := (own_at GO.out (by decide)).choose_spec.2.1
  obtain ⟨raw, hraw⟩ : ∃ raw, raw = sealB key0 258 3 [97, 98] 40 := ⟨_, rfl⟩
  have hrl : raw.length = 40 := by rw [hraw]; exact sealB_length _ _ _ _ _ (by decide)
  have hop : openB key0 raw = some ([97, 98], 258, 3) := by rw [hraw]; exact open_seal key0 258 3 [97, 98] 40 (by decide) (by decide) (by decide) (by decide)
  have hrt : raw.take 12 = h := by rw [hraw, Hh.out]; unfold sealB; rw [List.take_left' (hdB_length _ _)]
  rw [← hraw] at GO
  have HRL := Lib.hid hrl
  have HOP := Lib.hid hop
  have HRT := Lib.hid hrt
  clear hraw hrl hop hrt
  go_wp2_with (first
    | (refine wpList_getAll rfl 58 (.tmp 1) rfl rfl G0.out Try.underlying58 rfl info58 rfl ?_))
  refine (open_calls key0 rfl raw A6 40 c6 HRL.out hc6 (by decide) _ (.of_own GO.out)).mono ?_
  intro e w7 hS
  obtain ⟨A7, c7, rfl, hown7, hb7⟩ := Opened.yes hS HOP.out
  have I0 := Lib.hid (G0.out.below hb7 G0.out.lt)
  have I1 := Lib.hid (G1.out.below hb7 G1.out.lt)
  have IB := Lib.hid (GB.out.trans (hb7.mono GB.out.size))
  have IO := Lib.hid (own_below GO.out hb7)
  have IP := Lib.hid (Joins.ownsRow_le (base' := w.heap.size) hown7 GB.out.size)
  clear hb7 G0 G1 GB GO hown7 hS
  go_wp2_with fail
  try simp only [Act.put]
  refine wp_region_mixR [(false, 0)] [1, 2] [3, 4, 5, 6, 7] (by kernel_rfl) (by kernel_rfl) (fun w' => Below w7.heap.size w7 w') (Below.refl _ _).drew ?_
  refine wpHead_late rfl (fun K hK => ⟨.agg zkey.toArray, fun w' hC => ⟨rfl, exec_getAll 58 (.tmp 1) rfl rfl (I0.out.below hC I0.out.lt) Try.underlying58 rfl info58 rfl⟩, hK _ ?_⟩)
  clear hK K
  simp only [Act.put, List.getElem_toArray, List.getElem_cons_succ, List.getElem_cons_zero, List.setIfInBounds_toArray, List.set_cons_zero, List.set_cons_succ]
  unfold wpHead
  refine wpStores_turn (v := .slice (some ⟨w7.heap.size, 0, none⟩) 19 19) (w' := w7.drew.alloc (.cells (bs (List.replicate 19 0)).toArray 5)) rfl rfl (by go_simp; rw [make19]; rfl) ((Below.refl _ _).drew.alloc (Nat.le_refl _) _) ?_
  simp only [Act.put, List.getElem_toArray, List.getElem_cons_succ, List.getElem_cons_zero, List.setIfInBounds_toArray, List.set_cons_zero, List.set_cons_succ]
  have hrz : Rd (w7.drew.alloc (.cells (bs (List.replicate 19 0)).toArray 5)) (some ⟨w7.heap.size, 0, none⟩) (bs (List.replicate 19 0)) := (Blk.new w7.drew 5 (bs (List.replicate 19 0))).rdAll
  refine wpStores_call (f := 33) rfl rfl (by exact exec_enter (xl := [.tmp 28, .const (.int .u32 1), .const (.int .u64 1), .tmp 29, .const (.int .i64 40)]) rfl rfl Try.func33 rfl rfl _) (seal_at key0 rfl 1 1 _ _ rfl rfl (by decide) (List.replicate 19 0) _ _ _ rfl 40 (by decide) _ hrz) ?_
  intro e w8 hS
  obtain ⟨rfl, hb8⟩ := Sealed.no hS (by decide)
  have b8 := Lib.hid ((((Below.refl w7.heap.size w7).drew.alloc (Nat.le_refl _) (.cells (bs (List.replicate 19 0)).toArray 5))).trans (hb8.mono (by show w7.heap.size ≤ _; simp)))
  refine ⟨_, rfl, b8.out, ?_⟩
  clear hS hb8 hrz
  simp only [Act.put, List.getElem_toArray, List.getElem_cons_succ, List.getElem_cons_zero, List.setIfInBounds_toArray, List.set_cons_zero, List.set_cons_succ]
  have J0 := Lib.hid (I0.out.below b8.out I0.out.lt)
  have J1 := Lib.hid (I1.out.below b8.out I1.out.lt)
  have JB := Lib.hid (IB.out.trans (b8.out.mono IB.out.size))
  have JO := Lib.hid (own_below IO.out b8.out)
  have JP := Lib.hid (own_below IP.out b8.out)
  clear I0 I1 IB IO IP b8
  unfold wpStores wpRest
  simp only [List.map_cons, List.map_nil]
  iterate 5
    refine wpHead_early rfl (fun K hK => ?_)
    go_simp
    refine hK _ ?_
    clear hK K
  unfold wpHead
  go_wp2_with fail
  rw [← Hg.out]
  have hc6' : (12 : Int) ≤ (c6 : Int) := by omega
  have hall := arr48.all g 0
  have hl12 : h.length = 12 := by rw [Hh.out, hdB_length]
  have s1 := run_bytes_string (P := Try.prog) (w := w8.drew) Try.underlying41 Try.underlying5 Try.underlying9 (show Rd w8.drew A6 (bs h) by have := rd_to (Rd.of_own JO.out) 12; rw [HRT.out] at this; exact this) c6
  have s2 := run_bytes_string (P := Try.prog) (w := w8.drew) Try.underlying41 Try.underlying5 Try.underlying9 (show Rd w8.drew (some ⟨g, 0, none⟩) (bs h) from J1.out.rdAll) 12
  have s3 := run_bytes_string (P := Try.prog) (w := w8.drew) Try.underlying41 Try.underlying5 Try.underlying9 (show Rd w8.drew A7 (bs [97, 98]) from Rd.of_own JP.out) c7
  rw [hl12] at s1 s2
  replace s3 : (convert 41 9 (.slice A7 2 c7)).run Try.prog w8.drew = .ok (.string ⟨#[97, 98]⟩) w8.drew := s3
  try simp only [Act.put]
  refine wp_region_mix [(true, 0), (true, 1), (true, 2), (true, 3), (true, 4), (true, 5), (true, 6), (true, 7), (true, 8), (true, 9), (true, 10), (true, 11), (true, 12), (true, 13), (true, 14), (true, 15), (true, 16), (true, 17), (true, 18), (true, 19), (true, 20), (true, 21), (true, 22), (true, 23), (true, 24), (true, 25), (true, 26), (true, 27), (true, 28), (true, 29), (true, 30), (true, 31), (true, 32), (true, 33), (true, 34), (true, 35), (true, 36), (true, 37), (true, 38), (true, 39), (true, 40), (true, 41), (true, 42), (true, 43)] [] (by kernel_rfl) (by kernel_rfl) (fun _ => True) trivial ?_
  refine wpHead_val rfl rfl (exec_getAll 48 (.tmp 2) rfl rfl (show Blk w8.drew g 48 (bs h) from J1.out) Try.underlying48 rfl info48 HHl.out) ?_
  simp only [Act.put, List.getElem_toArray, List.getElem_cons_succ, List.getElem_cons_zero, List.setIfInBounds_toArray, List.set_cons_zero, List.set_cons_succ]
  refine wpHead_val (v := .agg (bs h).toArray) rfl rfl (by go_simp; rw [Hh.out]; rfl) ?_
  simp only [Act.put, List.getElem_toArray, List.getElem_cons_succ, List.getElem_cons_zero, List.setIfInBounds_toArray, List.set_cons_zero, List.set_cons_succ]
  have heq := eq48_same h hl12 w8.drew
  iterate 38 (refine wpHead_early rfl (fun K hK => ?_); go_simp; refine hK _ ?_; clear hK K)
  refine wpHead_call (f := 79) rfl rfl (fun W => by exact exec_enter (xl := [.const (.int .i64 40)]) rfl rfl Try.func79 rfl rfl W) (room_calls 40 _ (by decide) (by decide)) ?_
  simp only [Act.put, List.getElem_toArray, List.getElem_cons_succ, List.getElem_cons_zero, List.setIfInBounds_toArray, List.set_cons_zero, List.set_cons_succ]
  iterate 3 (refine wpHead_early rfl (fun K hK => ?_); go_simp; refine hK _ ?_; clear hK K)
  unfold wpHead wpStores
  go_wp2_with fail
  go_ret
  exact ⟨rfl, JB.out.drew⟩
end Go.Proofs.Ytbdnoiaglighhaa
