/- The walks of package le, third part, of the reference's Pad and Unpad, of slices and bytes. No statement is proved here. -/
import Derived.Test.YtbdnoiaglighhaaLeX
namespace Go.Proofs.Ytbdnoiaglighhaa
set_option linter.unusedVariables false
set_option linter.unusedSimpArgs false
open Go.RowKit

theorem replicate_snoc (l : List UInt8) (j : Nat) : bs (l ++ List.replicate (j + 1) 0) = bs (l ++ List.replicate j 0) ++ [.int .u8 0] := by
  rw [List.replicate_succ', ← List.append_assoc, bs_append, bs_one']; rfl

set_option maxHeartbeats 400000 in
set_option maxRecDepth 100000 in
theorem rpad_calls (A : Option Addr) (c : Nat) (l : List UInt8) (most : Nat) (w : World) (hr : Rd w A (bs l)) (hl : l.length ≤ most) (hm : most ≤ 60000) :
    Calls Try.prog 91 #[.slice A l.length c, .int .i64 (most : Int)] w fun e w' =>
      ∃ v, e = .returned (.tuple #[v, .bool true]) ∧ w'.ownsRow w.heap.size 5 1 v (most + 2) (bs (padB l most)) ∧ Below w.heap.size w w' := by
  go_enter Try.func91, Try.ntmps91
  go_wp2_with fail
  refine (rput_at l.length 2 _ _ _ rfl rfl (by omega)).mono ?_
  rintro e w1 ⟨v1, rfl, hown1, hb1⟩
  have hr1 := hr.below hb1
  have hs1 := hb1.size
  go_wp2_with (first
    | (at_builtin; refine wpList_appAny S41 rfl (.tmp 22) (.tmp 23) rfl rfl rfl hown1 hr1 (by simp) (bs_one l) (by omega) (by unfold maxLen; omega) hs1 ?_; intro v2 w2 hown2 hg2 _; have hb2 := below_grown hb1 hown1 hg2 hs1; clear hg2))
  obtain ⟨W, hW⟩ : ∃ W, W = putB l.length 2 ++ l := ⟨_, rfl⟩
  rw [← bs_append, ← hW] at hown2
  have HW := Lib.hid hW
  clear hW hown1 hb1 hr1 hs1
  go_loopw [6] (fun out wr => ∃ j : Nat, j ≤ most - l.length ∧ (∃ a c, out = .slice a (2 + l.length + j) c) ∧ wr.ownsRow w.heap.size 5 1 out (2 + l.length + j) (bs (W ++ List.replicate j 0)) ∧ Below w.heap.size w wr) (fun out _ => match out with | .slice _ n _ => most + 2 - n | _ => 0)
  case atStart => exact ⟨0, Nat.zero_le _, by rcases hown2.2 with ⟨rfl, h⟩ | ⟨g, cap, cur, rfl, _⟩ <;> first | omega | exact ⟨_, _, rfl⟩, by simpa using hown2, hb2⟩
  case round =>
    obtain ⟨j, hj, ⟨a, cc, rfl⟩, hown, hbel⟩ := hrel
    have hsz := hbel.size
    by_cases hlt : j < most - l.length
    · have HR := Lib.hid (replicate_snoc W j)
      go_wp2_with (first
        | (at_builtin; refine wpList_app1 S41 rfl _ _ rfl rfl rfl (cs := #[.int .u8 0]) rfl hown rfl (by simp [Value.oneCell']) (by omega) (by unfold maxLen; omega) hsz ?_; intro v' w1 hown' hgrow _))
      have hb' : Below w.heap.size w w1 := (hbel.alloc hsz _).grown hgrow (by simp; omega) (fun j hj => (hown.lt j hj).1)
      have hex : ∃ a c, v' = .slice a (2 + l.length + (j + 1)) c := by rcases hown'.2 with ⟨rfl, h⟩ | ⟨g, cap, cur, rfl, _⟩ <;> first | omega | exact ⟨_, _, rfl⟩
      obtain ⟨a', c', hv⟩ := hex
      rw [hv] at hown' ⊢
      clear hgrow
      go_wp2
      go_roundw
      case rel => exact ⟨j + 1, by omega, ⟨_, _, rfl⟩, by rw [HR.out]; exact hown', hb'⟩
      case measure => simp; omega
    · obtain rfl : j = most - l.length := by omega
      go_wp2
      go_ret2
      refine ⟨_, rfl, ?_, hbel⟩
      rw [HW.out] at hown
      rw [show most + 2 = 2 + l.length + (most - l.length) by omega]
      exact hown

set_option maxHeartbeats 400000 in
set_option maxRecDepth 100000 in
theorem rpad_no (A : Option Addr) (c : Nat) (n : Nat) (most : Nat) (w : World) (hl : most < n) :
    Calls Try.prog 91 #[.slice A n c, .int .i64 (most : Int)] w fun e w' => e = .returned (.tuple #[.slice none 0 0, .bool false]) ∧ w = w' := by
  go_enter Try.func91, Try.ntmps91
  go_wp2
  all_goals go_ret2
  all_goals exact ⟨rfl, rfl⟩

theorem own_empty (w : World) (base : Nat) (hb : base ≤ w.heap.size) : (w.alloc (.cells #[] 5)).ownsRow base 5 1 (.slice (some ⟨w.heap.size, 0, none⟩) 0 0) 0 [] :=
  World.ownsRow_made w #[] 0 hb (by unfold maxLen; omega) (by simp)

theorem drop_all (l : List UInt8) (k : Nat) (hk : k < l.length) : (l.drop k).all (· == 0) = (l[k] == 0 && (l.drop (k + 1)).all (· == 0)) := by
  rw [List.drop_eq_getElem_cons hk, List.all_cons]

set_option maxHeartbeats 800000 in
set_option maxRecDepth 100000 in
theorem runpad_calls (A : Option Addr) (c : Nat) (l : List UInt8) (most : Nat) (w : World) (hr : Rd w A (bs l)) (hl : l.length = most + 2) (hc : most + 2 ≤ c) (hm : most ≤ 60000) :
    Calls Try.prog 88 #[.slice A (most + 2) c, .int .i64 (most : Int)] w (TextOr (unpadB l most) w) := by
  have h2 : (l.take 2).length = 2 := by simp; omega
  have hg := rget_at A 2 c (l.take 2) w h2 (rd_to hr 2) (by omega)
  rw [List.take_of_length_le (l := l.take 2) (by omega)] at hg
  have hGlt : getB (l.take 2) < 65536 := by have := getB_lt (l.take 2); rwa [h2] at this
  obtain ⟨G, hG⟩ : ∃ G, G = getB (l.take 2) := ⟨_, rfl⟩
  rw [← hG] at hg hGlt
  have HG := Lib.hid hG
  have Hg := Lib.hid hg
  have HL := Lib.hid hl
  clear hl hg hG
  by_cases hle : G ≤ most
  · have htl : ((l.drop 2).take G).length = G := by simp; have := HL.out; omega
    have HT := Lib.hid htl
    clear htl
    have hown0 := own_empty w w.heap.size (Nat.le_refl _)
    go_enter Try.func88, Try.ntmps88
    go_wp2_with fail
    refine Hg.out.mono ?_
    rintro e w1 ⟨rfl, rfl⟩
    go_wp2_with fail
    go_loop [7] (fun i => ∃ k : Nat, 2 + G ≤ k ∧ k ≤ most + 2 ∧ i = .int .i64 (k : Int) ∧ Hid ((l.drop (2 + G)).all (· == 0) = (l.drop k).all (· == 0))) (fun i => most + 2 - (intOf i).toNat)
    case atStart => exact ⟨2 + G, by omega, by omega, by go_num, Lib.hid rfl⟩
    case round =>
      obtain ⟨k, hk1, hk2, rfl, HE⟩ := hrel
      by_cases hlt : k < most + 2
      · have hkl : k < l.length := by rw [HL.out]; exact hlt
        obtain ⟨b, o, rfl, hcell⟩ := rd_byte hr hkl
        have HD := Lib.hid (drop_all l k hkl)
        by_cases h0 : l[k].toNat = 0
        · have h1 : ((l[k].toNat : Int) != 0) = false := by simp [h0]
          have H0 := Lib.hid h0
          clear h0
          go_wp2
          go_round
          case rel => exact ⟨k + 1, by omega, by omega, by go_num, Lib.hid (by rw [HE.out, HD.out, beq_byte, H0.out]; rfl)⟩
          case measure => simp [intOf]; omega
        · have h1 : ((l[k].toNat : Int) != 0) = true := by simp; omega
          have H0 := Lib.hid h0
          clear h0
          go_wp2
          go_ret2
          refine .inr ⟨?_, rfl, rfl⟩
          unfold unpadB
          rw [← HG.out, HE.out, HD.out, beq_byte, if_neg]
          have := H0.out
          simp; omega
      · obtain rfl : k = most + 2 := by omega
        have hnil : (l.drop (most + 2)).all (· == 0) = true := by rw [List.drop_of_length_le (by rw [HL.out]; omega)]; rfl
        have HU := Lib.hid (show unpadB l most = some ((l.drop 2).take G) by unfold unpadB; rw [← HG.out, if_pos ⟨HL.out, hle, by rw [HE.out, hnil]⟩])
        clear hnil
        have hra := hr.alloc (.cells #[] 5)
        go_wp2_with (first
          | (at_builtin; refine wpList_appAny S41 rfl _ _ rfl rfl rfl hown0 (rd_cut hra G (c := c) (k := 2) (by rw [HL.out]; omega) (by rw [HL.out]; exact hc) (by rintro b o rfl h; first | rfl | (exfalso; omega) | (simp [Addr.add]; done) | (rw [if_neg (by omega)]; simp [Addr.add]; done))) (by rw [bs_length, HT.out]; omega) (bs_one _) (by omega) (by unfold maxLen; omega) (by simp) ?_; intro v2 w2 hown2 hg2 _; have hb2 := below_grown ((Below.refl _ _).alloc (Nat.le_refl _) _) hown0 hg2 (by simp); clear hg2))
        all_goals go_ret2
        all_goals exact .inl ⟨(l.drop 2).take G, v2, HU.out, rfl, by rw [HT.out]; simpa using hown2, hb2⟩
  · have HU := Lib.hid (show unpadB l most = none by unfold unpadB; rw [← HG.out, if_neg (by intro h; exact hle h.2.1)])
    go_enter Try.func88, Try.ntmps88
    go_wp2_with fail
    refine Hg.out.mono ?_
    rintro e w1 ⟨rfl, rfl⟩
    go_wp2
    go_ret2
    exact .inr ⟨HU.out, rfl, rfl⟩

/-! ### Sum of several parts -/
/-- A part: where it lies, its capacity, its bytes. -/
structure Part where
  at_ : Option Addr
  cap : Nat
  l : List UInt8
def Part.val (p : Part) : Value := .slice p.at_ p.l.length p.cap
def joinP (ps : List Part) : List UInt8 := (ps.map (·.l)).flatten
theorem join_take (ps : List Part) (k : Nat) (hk : k < ps.length) : joinP (ps.take (k + 1)) = joinP (ps.take k) ++ ps[k].l := by
  unfold joinP
  rw [List.take_succ_eq_append_getElem hk, List.map_append, List.flatten_append]
  simp only [List.map_cons, List.map_nil, List.flatten_cons, List.flatten_nil, List.append_nil]
theorem sumB_into (a l : List UInt8) (k : Nat) (hk : k < l.length) : sumB (a ++ l.take (k + 1)) = sumStep (sumB (a ++ l.take k)) l[k] := by
  unfold sumB
  rw [List.take_succ_eq_append_getElem hk, ← List.append_assoc, List.foldl_append, List.foldl_cons, List.foldl_nil]

set_option maxHeartbeats 800000 in
set_option maxRecDepth 100000 in
theorem sum_calls (A : Option Addr) (n c : Nat) (ps : List Part) (w : World) (hn : ps.length = n) (hr : Rd w A (ps.map Part.val)) (hp : ∀ p ∈ ps, Rd w p.at_ (bs p.l) ∧ p.l.length ≤ 140737488351232) (hl : n ≤ 140737488351232) :
    Calls Try.prog 82 #[.slice A n c] w fun e w' => e = .returned (.int .u64 (sumB (joinP ps) : Nat)) ∧ w = w' := by
  have HN := Lib.hid hn
  have HP := Lib.hid hp
  clear hn hp
  go_enter Try.func82, Try.ntmps82
  go_wp2
  go_loop [3, 10] (fun out i => ∃ k : Nat, k ≤ n ∧ i = .int .i64 (k : Int) ∧ out = .int .u64 ((sumB (joinP (ps.take k)) : Nat) : Int)) (fun _ i => n - (intOf i).toNat)
  case atStart => exact ⟨0, Nat.zero_le _, rfl, rfl⟩
  case round =>
    obtain ⟨k, hk, rfl, rfl⟩ := hrel
    by_cases hlt : k < n
    · have hkl : k < ps.length := by rw [HN.out]; exact hlt
      have HJ := Lib.hid (join_take ps k hkl)
      obtain ⟨p, hp⟩ : ∃ p, p = ps[k] := ⟨_, rfl⟩
      obtain ⟨b, o, rfl, hcell⟩ := hr.cell (k := k) (by simpa using hkl)
      rw [List.getElem_map, ← hp, Part.val] at hcell
      rw [← hp] at HJ
      obtain ⟨hrp, hlp⟩ := HP.out p (by rw [hp]; exact List.getElem_mem _)
      have HR := Lib.hid hrp
      obtain ⟨P, hP⟩ : ∃ P, P = joinP (ps.take k) := ⟨_, rfl⟩
      rw [← hP] at HJ ⊢
      clear hp hP hrp
      obtain ⟨pa, pc, pl⟩ := p
      simp only at hcell hlp HR HJ
      go_wp2
      go_loop [3, 16] (fun out i => ∃ j : Nat, j ≤ pl.length ∧ i = .int .i64 (j : Int) ∧ out = .int .u64 ((sumB (P ++ pl.take j) : Nat) : Int)) (fun _ i => pl.length - (intOf i).toNat)
      case atStart => exact ⟨0, Nat.zero_le _, rfl, by simp⟩
      case round =>
        obtain ⟨j, hj, rfl, rfl⟩ := hrel
        by_cases hjl : j < pl.length
        · obtain ⟨b', o', rfl, hcell'⟩ := rd_byte HR.out hjl
          have h256 := byte_lt pl[j]
          have HS := Lib.hid (sumB_into P pl j hjl)
          have HB := Lib.hid (sumB_lt (P ++ pl.take j))
          generalize sumB (P ++ pl.take j) = H at *
          go_wp2
          go_round
          case rel => exact ⟨j + 1, by omega, by go_num, by rw [HS.out, sumStep, ← sum_val _ _ HB.out h256]⟩
          case measure => simp [intOf]; omega
        · obtain rfl : j = pl.length := by omega
          go_wp2
          go_round
          case rel => exact ⟨k + 1, by omega, by go_num, by rw [HJ.out, List.take_length]⟩
          case measure => simp [intOf]; omega
    · obtain rfl : k = n := by omega
      go_wp2
      go_ret
      exact ⟨by rw [List.take_of_length_le (by rw [HN.out]; omega)]; rfl, rfl⟩

end Go.Proofs.Ytbdnoiaglighhaa
