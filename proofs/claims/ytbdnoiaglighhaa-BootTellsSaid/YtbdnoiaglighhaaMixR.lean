/- As the law for a statement whose order is open and that ends in stores: behind the stores there may come operations that change nothing. No statement is proved here. -/
import Derived.Test.YtbdnoiaglighhaaMix
namespace Go.Proofs.Ytbdnoiaglighhaa
set_option linter.unusedVariables false
set_option linter.unusedSimpArgs false
open Go

section
variable {P : Program} {ops : Array Oper}

theorem AnyT.imp {Inv Inv' : Array Bool → World → Prop} {Q : Act → World → Prop} (h : ∀ L w, Inv L w → Inv' L w) : ∀ (f : Nat) (listed : Array Bool) (a : Act) (w : World), AnyT P ops Inv Q f listed a w → AnyT P ops Inv' Q f listed a w
  | 0, _, _, _, H => H
  | f + 1, listed, a, w, H => ⟨H.1, fun i hi o ho => (H.2 i hi o ho).mono fun v w' hv => ⟨h _ _ hv.1, AnyT.imp h f _ _ _ hv.2⟩⟩

/-- What comes behind the stores, in the order to take. -/
def restB (ops : Array Oper) (tail : List Nat) : List Nat → Array Bool → Bool
  | [], listed => (Region.ready .any ops listed).isEmpty
  | i :: rest, listed => (Region.ready .any ops listed).contains i && Region.free .any ops listed i && !tail.contains i && restB ops tail rest (listed.setIfInBounds i true)

/-- One of the stores has come up. -/
def Stored (tail : List Nat) (L : Array Bool) : Prop := ∃ t ∈ tail, L.getD t false = true

theorem Stored.set {tail : List Nat} {L : Array Bool} {i : Nat} (hi : i ∉ tail) : Stored tail (L.setIfInBounds i true) ↔ Stored tail L := by
  constructor
  · rintro ⟨t, ht, h⟩
    exact ⟨t, ht, by rwa [getD_set_both (show i ≠ t by rintro rfl; exact hi ht)] at h⟩
  · rintro ⟨t, ht, h⟩
    exact ⟨t, ht, by rwa [getD_set_both (show i ≠ t by rintro rfl; exact hi ht)]⟩

theorem rest_any {w0 : World} {K : Act → World → Prop} {tail : List Nat} (hsel : ∀ (j : Nat) (o : Oper) cs b, ops[j]? = some o → o.op ≠ .select cs b) : ∀ (rest : List Nat) (listed : Array Bool) (a : Act),
    Closed ops listed → restB ops tail rest listed = true → Stored tail listed → wpHead P ops w0 (· = w0) (fun a' => K a' w0) (rest.map (true, ·)) a →
    AnyT P ops (fun L w => w = w0 ∧ Stored tail L) K rest.length listed a w0
  | [], listed, a, _, hB, _, h => ⟨by simpa [restB] using hB, h⟩
  | i :: rest, listed, a, hcl, hB, hst, h => by
    simp only [restB, Bool.and_eq_true] at hB
    obtain ⟨⟨⟨hr, hf⟩, hnt⟩, hB'⟩ := hB
    have hr' : i ∈ Region.ready .any ops listed := by simpa using hr
    have hnt' : i ∉ tail := by simpa using hnt
    obtain ⟨_, oi, hoi, _⟩ := mem_ready.1 hr'
    obtain ⟨v, hy, hK⟩ := h oi hoi
    refine AnyT.first (C := (· = w0)) hoi hsel (fun L w _ hI _ => hI.1) (fun L w => ?_) rest.length listed a w0 hcl ⟨rfl, hst⟩ (Region.free_spec hoi hf) hr' (fun w hw => hy w (by simpa using hw))
      (rest_any hsel rest _ _ (hcl.set hr') hB' ((Stored.set hnt').2 hst) hK)
    rw [Stored.set hnt']

/-- The stores, one behind the other, and then the rest. -/
def tailR (ops : Array Oper) (tail0 rest : List Nat) : Array Bool → List Nat → Bool
  | listed, [] => restB ops tail0 rest listed
  | listed, t :: ts => (Region.ready .any ops listed) == [t] && tailR ops tail0 rest (listed.setIfInBounds t true) ts
def headR (ops : Array Oper) (tail rest : List Nat) : List (Bool × Nat) → Array Bool → Bool
  | [], listed => tailR ops tail rest listed tail
  | (early, i) :: hs, listed => (Region.ready .any ops listed).contains i && Region.free .any ops listed i && !tail.contains i &&
      (!early || tail.all fun t => (Anc ops ops.size t).contains i) && headR ops tail rest hs (listed.setIfInBounds i true)
def mixR (ops : Array Oper) (head : List (Bool × Nat)) (tail rest : List Nat) : Bool :=
  Region.noSelect ops && head.length + (tail.length + rest.length) == ops.size && !tail.isEmpty && headR ops tail rest head (Array.replicate ops.size false)

/-- What is to be shown behind the stores. -/
def wpRest (P : Program) (ops : Array Oper) (K : Act → World → Prop) (rest : List Nat) (a : Act) (w : World) : Prop := wpHead P ops w (· = w) (fun a' => K a' w) (rest.map (true, ·)) a

theorem stores_anyR {C : World → Prop} {Inv : Array Bool → World → Prop} {K : Act → World → Prop} {tail0 rest : List Nat} (hsel : ∀ (j : Nat) (o : Oper) cs b, ops[j]? = some o → o.op ≠ .select cs b)
    (hInv : ∀ (L : Array Bool) (w : World), Stored tail0 L → C w → Inv L w) : ∀ (tail : List Nat) (listed : Array Bool) (a : Act) (w : World),
    (∀ t ∈ tail, t ∈ tail0) → tailR ops tail0 rest listed tail = true → Closed ops listed → (tail = [] → Stored tail0 listed ∧ C w) → wpStores P ops C (wpRest P ops K rest) tail a w → AnyT P ops Inv K (tail.length + rest.length) listed a w
  | [], listed, a, w, _, hB, hcl, hst, h => by
    rw [List.length_nil, Nat.zero_add]
    exact (rest_any hsel rest listed a hcl hB (hst rfl).1 h).imp (fun L w' hI => hInv L w' hI.2 (by rw [hI.1]; exact (hst rfl).2)) _ _ _ _
  | t :: ts, listed, a, w, hs, hB, hcl, _, h => by
    simp only [tailR, Bool.and_eq_true, beq_iff_eq] at hB
    obtain ⟨hB1, hB2⟩ := hB
    have e : (t :: ts).length + rest.length = (ts.length + rest.length) + 1 := by simp; omega
    rw [e]
    refine ⟨fun h0 => by rw [h0] at hB1; simp at hB1, fun i hi o ho => ?_⟩
    have hlt : i < listed.size := by
      have := (mem_ready.1 hi).1
      rcases Nat.lt_or_ge i listed.size with h' | h'
      · exact h'
      · simp [Array.getElem?_eq_none h'] at this
    have hi0 := hi
    rw [hB1] at hi
    obtain rfl : i = t := by simpa using hi
    have hst : Stored tail0 (listed.setIfInBounds i true) := ⟨i, hs _ List.mem_cons_self, by simp [hlt]⟩
    exact (h o ho).mono fun v w' ⟨h2, h3⟩ => ⟨hInv _ _ hst h2, stores_anyR hsel hInv ts _ _ _ (fun t ht => hs t (List.mem_cons_of_mem _ ht)) hB2 (hcl.set hi0) (fun _ => ⟨hst, h2⟩) h3⟩

theorem head_anyR {C : World → Prop} {w0 : World} {K : Act → World → Prop} {tail rest : List Nat} (hne : tail ≠ []) (hsel : ∀ (j : Nat) (o : Oper) cs b, ops[j]? = some o → o.op ≠ .select cs b) (hC0 : C w0) : ∀ (head : List (Bool × Nat)) (listed : Array Bool) (a : Act),
    Closed ops listed → headR ops tail rest head listed = true → wpHead P ops w0 C (fun a' => wpStores P ops C (wpRest P ops K rest) tail a' w0) head a →
    AnyT P ops (fun L w => (w = w0 ∨ Stored tail L) ∧ C w) K (head.length + (tail.length + rest.length)) listed a w0
  | [], listed, a, hcl, hB, h => by
    rw [List.length_nil, Nat.zero_add]
    exact stores_anyR hsel (fun L w hst hC => ⟨.inr hst, hC⟩) tail listed a w0 (fun _ h => h) hB hcl (fun h => absurd h hne) h
  | (early, i) :: hs, listed, a, hcl, hB, h => by
    simp only [headR, Bool.and_eq_true] at hB
    obtain ⟨⟨⟨⟨hr, hf⟩, hnt⟩, he⟩, hB'⟩ := hB
    have hr' : i ∈ Region.ready .any ops listed := by simpa using hr
    obtain ⟨_, oi, hoi, _⟩ := mem_ready.1 hr'
    obtain ⟨v, hy, hK⟩ := h oi hoi
    have hnt' : i ∉ tail := by simpa using hnt
    rw [List.length_cons, Nat.add_right_comm]
    refine AnyT.first (C := fun w => if early then w = w0 else C w) hoi hsel ?_ ?_ (hs.length + (tail.length + rest.length)) listed a w0 hcl ⟨.inl rfl, hC0⟩ (Region.free_spec hoi hf) hr' hy
      (head_anyR hne hsel hC0 hs _ _ (hcl.set hr') hB' hK)
    · intro L w hL hI hun
      cases early with
      | false => exact hI.2
      | true =>
        rcases hI.1 with h | ⟨t, ht, htl⟩
        · exact h
        · simp only [Bool.not_true, Bool.false_or, List.all_eq_true] at he
          have h1 := hL.anc ops.size t htl i (by simpa using he t ht)
          rcases Nat.lt_or_ge i L.size with h' | h'
          · simp [h'] at h1 hun; rw [h1] at hun; cases hun
          · simp [Array.getElem?_eq_none h'] at h1
    · intro L w
      rw [Stored.set hnt']

/-- **A statement whose order is open: a head, stores and calls, and a rest that changes nothing.** -/
theorem wp_region_mixR {id : Nat} {Q : Exit → Act → World → Prop} {a : Act} {w : World} (head : List (Bool × Nat)) (tail rest : List Nat) (hm : P.follows .mixedOrders = true) (hB : mixR ops head tail rest = true)
    (C : World → Prop) (hC0 : C w.drew) (h : wpHead P ops w.drew C (fun a' => wpStores P ops C (wpRest P ops (fun a'' w'' => Q .normal a'' w'') rest) tail a' w.drew) head a) : (Code.region id ops true).wp P Q a w := by
  simp only [mixR, Bool.and_eq_true, beq_iff_eq] at hB
  obtain ⟨⟨⟨h1, h2⟩, h3⟩, h4⟩ := hB
  refine wp_region_any hm ?_
  rw [← h2]
  exact AnyT.wpAny (fun _ _ h => h) _ _ _ _ (head_anyR (by simpa using h3) (Region.noSelect_spec h1) hC0 head _ a (fun j oj hj hl => by simp only [Array.getD_eq_getD_getElem?, Array.getElem?_replicate] at hl; split at hl <;> simp at hl) (by rw [h2]; exact h4) h)
end
end Go.Proofs.Ytbdnoiaglighhaa
