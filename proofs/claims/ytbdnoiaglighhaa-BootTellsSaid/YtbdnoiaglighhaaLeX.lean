/- The walks of package le, second part: Pad, Unpad, Sum, and the reference's of the same kind. No statement is proved here. -/
import Derived.Test.YtbdnoiaglighhaaLeW
namespace Go.Proofs.Ytbdnoiaglighhaa
set_option linter.unusedVariables false
set_option linter.unusedSimpArgs false
open Go.RowKit

theorem put_at (n k : Nat) (N K : Int) (w : World) (hN : N = (n : Int)) (hK : K = (k : Int)) (hk8 : k ≤ 8) :
    Calls Try.prog 81 #[.int .u64 N, .int .i64 K] w fun e w' =>
      ∃ v, e = .returned v ∧ w'.ownsRow w.heap.size 5 1 v k (bs (putB n k)) ∧ Below w.heap.size w w' := by
  subst hN; subst hK; exact put_calls n k w hk8
theorem rput_at (n k : Nat) (N K : Int) (w : World) (hN : N = (n : Int)) (hK : K = (k : Int)) (hk8 : k ≤ 8) :
    Calls Try.prog 92 #[.int .u64 N, .int .i64 K] w fun e w' =>
      ∃ v, e = .returned v ∧ w'.ownsRow w.heap.size 5 1 v k (bs (putB n k)) ∧ Below w.heap.size w w' := by
  subst hN; subst hK; exact rput_calls n k w hk8

theorem zeros_bs (m : Nat) : (Builtin.zeroCells (Value.int .u8 0).cells m).toList = bs (List.replicate m 0) := by
  show (Builtin.zeroCells #[Value.int .u8 0] m).toList = _
  rw [zeroCells_one]; simp [byt]

theorem below_grown {B : Nat} {w0 w w' : World} {v : Value} {e : TypeId} {size n : Nat} {xs : List Value} (h : Below B w0 w) (hown : w.ownsRow B e size v n xs) (hg : w.grownBy w' v.ownBlock) (hB : B ≤ w.heap.size) : Below B w0 w' :=
  h.grown hg hB fun j hj => (hown.lt j hj).1

set_option maxHeartbeats 400000 in
set_option maxRecDepth 100000 in
theorem pad_calls (A : Option Addr) (c : Nat) (l : List UInt8) (most : Nat) (w : World) (hr : Rd w A (bs l)) (hl : l.length ≤ most) (hm : most ≤ 60000) :
    Calls Try.prog 80 #[.slice A l.length c, .int .i64 (most : Int)] w fun e w' =>
      ∃ v, e = .returned (.tuple #[v, .bool true]) ∧ w'.ownsRow w.heap.size 5 1 v (most + 2) (bs (padB l most)) ∧ Below w.heap.size w w' := by
  go_enter Try.func80, Try.ntmps80
  go_wp2_with fail
  refine (put_at l.length 2 _ _ _ rfl rfl (by omega)).mono ?_
  rintro e w1 ⟨v1, rfl, hown1, hb1⟩
  have hr1 := hr.below hb1
  have hs1 := hb1.size
  go_wp2_with (first
    | (at_builtin; refine wpList_appAny S41 rfl (.tmp 22) (.tmp 23) rfl rfl rfl hown1 hr1 (by simp) (bs_one l) (by omega) (by unfold maxLen; omega) hs1 ?_; intro v2 w2 hown2 hg2 _; have hb2 := below_grown hb1 hown1 hg2 hs1; have hs2 := hb2.size; clear hg2)
    | (at_builtin; refine wpList_appZeros S41 Try.underlying3 rfl (.tmp 25) (.tmp 29) rfl rfl rfl (m := most - l.length) (by omega) hown2 (by rw [zeros_bs]; exact bs_one _) (by decide) (by omega) hs2 ?_; intro v3 w3 hown3 hg3 _; have hb3 := below_grown hb2 hown2 hg3 hs2; clear hg3))
  go_ret2
  refine ⟨v3, rfl, ?_, hb3⟩
  rw [zeros_bs, ← bs_append, ← bs_append] at hown3
  rw [show most + 2 = 2 + l.length + (most - l.length) by omega]
  exact hown3

set_option maxHeartbeats 400000 in
set_option maxRecDepth 100000 in
theorem pad_no (A : Option Addr) (c : Nat) (n : Nat) (most : Nat) (w : World) (hl : most < n) :
    Calls Try.prog 80 #[.slice A n c, .int .i64 (most : Int)] w fun e w' => e = .returned (.tuple #[.slice none 0 0, .bool false]) ∧ w = w' := by
  go_enter Try.func80, Try.ntmps80
  go_wp2
  all_goals go_ret2
  all_goals exact ⟨rfl, rfl⟩

theorem get_at (A : Option Addr) (n c : Nat) (l : List UInt8) (w : World) (hn : l.length = n) (hr : Rd w A (bs l)) (hl : n ≤ 140737488351232) :
    Calls Try.prog 86 #[.slice A n c] w fun e w' => e = .returned (.int .u64 (getB (l.take 8) : Nat)) ∧ w = w' := by
  subst hn; exact get_calls A c l w hr hl
theorem rget_at (A : Option Addr) (n c : Nat) (l : List UInt8) (w : World) (hn : l.length = n) (hr : Rd w A (bs l)) (hl : n ≤ 140737488351232) :
    Calls Try.prog 89 #[.slice A n c] w fun e w' => e = .returned (.int .u64 (getB (l.take 8) : Nat)) ∧ w = w' := by
  subst hn; exact rget_calls A c l w hr hl
theorem zero_at (A : Option Addr) (n c : Nat) (l : List UInt8) (b : Bool) (w : World) (hn : l.length = n) (hr : Rd w A (bs l)) (hl : n ≤ 140737488351232) (hb : (l.all (· == 0)) = b) :
    Calls Try.prog 94 #[.slice A n c] w fun e w' => e = .returned (.bool b) ∧ w = w' := by
  subst hn; subst hb; exact zero_calls A c l w hr hl

theorem Rd.take {w : World} {A : Option Addr} {xs : List Value} (h : Rd w A xs) (k : Nat) : Rd w A (xs.take k) := by
  intro hn
  obtain ⟨b, o, rfl, cs, t, fr, hb, hc⟩ := h (by simp at hn; omega)
  refine ⟨b, o, rfl, cs, t, fr, hb, fun i hi => ?_⟩
  rw [hc i (by simp at hi; omega), List.getElem?_take_of_lt (by simp at hi; omega)]

theorem Rd.cut {w : World} {A A' : Option Addr} {xs : List Value} {c : Nat} (h : Rd w A xs) {k : Nat} (hk : k ≤ xs.length) (hc : xs.length ≤ c) (hA : ∀ b o, A = some ⟨b, o, none⟩ → ¬ c = k → A' = some ⟨b, o + k, none⟩) :
    Rd w A' (xs.drop k) := by
  intro hn
  have hkl : k < xs.length := by simp at hn; omega
  obtain ⟨b, o, rfl, cs, t, fr, hb, hcs⟩ := h (by omega)
  refine ⟨b, o + k, hA b o rfl (by omega), cs, t, fr, hb, fun i hi => ?_⟩
  rw [Nat.add_assoc, hcs (k + i) (by simp at hi; omega), List.getElem?_drop]
/-- The bytes from place k on. -/
theorem rd_from {w : World} {A A' : Option Addr} {l : List UInt8} {c : Nat} (h : Rd w A (bs l)) {k : Nat} (hk : k ≤ l.length) (hc : l.length ≤ c) (hA : ∀ b o, A = some ⟨b, o, none⟩ → ¬ c = k → A' = some ⟨b, o + k, none⟩) : Rd w A' (bs (l.drop k)) := by
  rw [bs, List.map_drop]; exact h.cut (by simpa using hk) (by simpa using hc) hA
theorem rd_to {w : World} {A : Option Addr} {l : List UInt8} (h : Rd w A (bs l)) (k : Nat) : Rd w A (bs (l.take k)) := by
  rw [bs, List.map_take]; exact h.take k
theorem rd_cut {w : World} {A A' : Option Addr} {l : List UInt8} {c : Nat} (h : Rd w A (bs l)) {k : Nat} (m : Nat) (hk : k ≤ l.length) (hc : l.length ≤ c) (hA : ∀ b o, A = some ⟨b, o, none⟩ → ¬ c = k → A' = some ⟨b, o + k, none⟩) : Rd w A' (bs ((l.drop k).take m)) :=
  rd_to (rd_from h hk hc hA) m

/-- What a call that tells a text, or that there is none, leaves. -/
def TextOr (r : Option (List UInt8)) (w : World) (e : Ending) (w' : World) : Prop :=
  (∃ t v, r = some t ∧ e = .returned (.tuple #[v, .bool true]) ∧ w'.ownsRow w.heap.size 5 1 v t.length (bs t) ∧ Below w.heap.size w w') ∨
  (r = none ∧ e = .returned (.tuple #[.slice none 0 0, .bool false]) ∧ w = w')

set_option maxHeartbeats 800000 in
set_option maxRecDepth 100000 in
theorem unpad_calls (A : Option Addr) (c : Nat) (l : List UInt8) (most : Nat) (w : World) (hr : Rd w A (bs l)) (hl : l.length = most + 2) (hc : most + 2 ≤ c) (hm : most ≤ 60000) :
    Calls Try.prog 84 #[.slice A (most + 2) c, .int .i64 (most : Int)] w (TextOr (unpadB l most) w) := by
  have h2 : (l.take 2).length = 2 := by simp; omega
  have hg := get_at A 2 c (l.take 2) w h2 (rd_to hr 2) (by omega)
  rw [List.take_of_length_le (l := l.take 2) (by omega)] at hg
  have hGlt : getB (l.take 2) < 65536 := by have := getB_lt (l.take 2); rwa [h2] at this
  obtain ⟨G, hG⟩ : ∃ G, G = getB (l.take 2) := ⟨_, rfl⟩
  rw [← hG] at hg hGlt
  have HG := Lib.hid hG
  have Hg := Lib.hid hg
  have HL := Lib.hid hl
  clear hl hg hG
  by_cases hle : G ≤ most
  · cases hall : (l.drop (2 + G)).all (· == 0) with
    | false =>
      have HA := Lib.hid hall
      have HU := Lib.hid (show unpadB l most = none by unfold unpadB; rw [← HG.out, hall, if_neg (by simp)])
      clear hall
      go_enter Try.func84, Try.ntmps84
      go_wp2_with fail
      refine Hg.out.mono ?_
      rintro e w1 ⟨rfl, rfl⟩
      go_wp2_with fail
      all_goals
        refine (zero_at _ _ _ (l.drop (2 + G)) false _ (by rw [List.length_drop, HL.out]) (rd_from hr (by rw [HL.out]; omega) (c := c) (by rw [HL.out]; exact hc) (by rintro b o rfl h; first | rfl | (exfalso; omega) | (simp [Addr.add]; done) | (rw [if_neg (by omega)]; simp [Addr.add]; done))) (by omega) HA.out).mono ?_
        rintro e w1 ⟨rfl, rfl⟩
        go_wp2
        go_ret2
        exact .inr ⟨HU.out, rfl, rfl⟩
    | true =>
      have HA := Lib.hid hall
      have htl : ((l.drop 2).take G).length = G := by simp; have := HL.out; omega
      have HU := Lib.hid (show unpadB l most = some ((l.drop 2).take G) by unfold unpadB; rw [← HG.out, hall, if_pos ⟨HL.out, hle, rfl⟩])
      have HT := Lib.hid htl
      clear hall htl
      have hown0 := World.ownsRow_nil w w.heap.size 5 1
      go_enter Try.func84, Try.ntmps84
      go_wp2_with fail
      refine Hg.out.mono ?_
      rintro e w1 ⟨rfl, rfl⟩
      go_wp2_with fail
      all_goals
        refine (zero_at _ _ _ (l.drop (2 + G)) true _ (by rw [List.length_drop, HL.out]) (rd_from hr (by rw [HL.out]; omega) (c := c) (by rw [HL.out]; exact hc) (by rintro b o rfl h; first | rfl | (exfalso; omega) | (simp [Addr.add]; done) | (rw [if_neg (by omega)]; simp [Addr.add]; done))) (by omega) HA.out).mono ?_
        rintro e w1 ⟨rfl, rfl⟩
        go_wp2_with (first
          | (at_builtin; refine wpList_appAny S41 rfl _ _ rfl rfl rfl hown0 (rd_cut hr G (c := c) (k := 2) (by rw [HL.out]; omega) (by rw [HL.out]; exact hc) (by rintro b o rfl h; first | rfl | (exfalso; omega) | (simp [Addr.add]; done) | (rw [if_neg (by omega)]; simp [Addr.add]; done))) (by rw [bs_length, HT.out]; omega) (bs_one _) (by omega) (by unfold maxLen; omega) (Nat.le_refl _) ?_; intro v2 w2 hown2 hg2 _; have hb2 := below_grown (Below.refl _ _) hown0 hg2 (Nat.le_refl _); clear hg2))
        all_goals go_ret2
        all_goals exact .inl ⟨(l.drop 2).take G, v2, HU.out, rfl, by rw [HT.out]; simpa using hown2, hb2⟩
  · have HU := Lib.hid (show unpadB l most = none by unfold unpadB; rw [← HG.out, if_neg (by intro h; exact hle h.2.1)])
    go_enter Try.func84, Try.ntmps84
    go_wp2_with fail
    refine Hg.out.mono ?_
    rintro e w1 ⟨rfl, rfl⟩
    go_wp2
    go_ret2
    exact .inr ⟨HU.out, rfl, rfl⟩
end Go.Proofs.Ytbdnoiaglighhaa
