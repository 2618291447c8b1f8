/- A law of the walk for a statement whose order is open and that ends in stores: whatever order is drawn, it comes to what one order comes to: all that stores nothing first, the stores behind it. No statement is proved here. -/
import Derived.Still
import Derived.WalkKit
import Derived.Deep.Quiet
import Derived.Deep.QuietTactic
namespace Go.Proofs.Ytbdnoiaglighhaa
set_option linter.unusedVariables false
set_option linter.unusedSimpArgs false
open Go

section
variable {P : Program} {ops : Array Oper}

/-- Operation 'o', taken in state 'a', 'w', leaves in its temporary a value, and a world, of which S holds. -/
def StepsTo (P : Program) (ops : Array Oper) (o : Oper) (a : Act) (w : World) (S : Value → World → Prop) : Prop :=
  (Region.wanted o (yielded ops a.tmps) = true ∧ ((∃ v w', (execOp a.eval o).run P w = .ok (.value v) w' ∧ S v w') ∨ (∃ w', (execOp a.eval o).run P w = .ok .skip w' ∧ S undef w') ∨
    ∃ f args w1, (execOp a.eval o).run P w = .ok (.enter f args) w1 ∧ Calls P f args w1 (fun e w'' => ∃ v, e = .returned v ∧ S v w''))) ∨
  (Region.wanted o (yielded ops a.tmps) = false ∧ S undef w)

theorem StepsTo.mono {o : Oper} {a : Act} {w : World} {S S' : Value → World → Prop} (h : StepsTo P ops o a w S) (hs : ∀ v w', S v w' → S' v w') : StepsTo P ops o a w S' := by
  rcases h with ⟨hw, ⟨v, w', h1, h2⟩ | ⟨w', h1, h2⟩ | ⟨f, args, w1, h1, h2⟩⟩ | ⟨hw, h⟩
  · exact .inl ⟨hw, .inl ⟨v, w', h1, hs _ _ h2⟩⟩
  · exact .inl ⟨hw, .inr (.inl ⟨w', h1, hs _ _ h2⟩)⟩
  · exact .inl ⟨hw, .inr (.inr ⟨f, args, w1, h1, h2.mono fun e w'' ⟨v, he, hv⟩ => ⟨v, he, hs _ _ hv⟩⟩)⟩
  · exact .inr ⟨hw, hs _ _ h⟩

theorem StepsTo.of_still {o : Oper} {a : Act} {w : World} {v : Value} {S : Value → World → Prop} (h : YieldsAt P ops w o v a) (hS : S v w) : StepsTo P ops o a w S := by
  rcases h with ⟨hw, h | ⟨h, rfl⟩ | ⟨f, args, h1, h2⟩⟩ | ⟨hw, rfl⟩
  · exact .inl ⟨hw, .inl ⟨v, w, h, hS⟩⟩
  · exact .inl ⟨hw, .inr (.inl ⟨w, h, hS⟩)⟩
  · exact .inl ⟨hw, .inr (.inr ⟨f, args, w, h1, h2.mono fun e w'' ⟨he, hw''⟩ => ⟨v, he, by rw [hw'']; exact hS⟩⟩)⟩
  · exact .inr ⟨hw, hS⟩

theorem StepsTo.of_same {o : Oper} {a a' : Act} {w : World} {S : Value → World → Prop} (h : StepsTo P ops o a w S) (he : execOp a'.eval o = execOp a.eval o)
    (hw : Region.wanted o (yielded ops a'.tmps) = Region.wanted o (yielded ops a.tmps)) : StepsTo P ops o a' w S := by
  unfold StepsTo at *
  rw [he, hw]
  exact h

theorem StepsTo.wpOp {i : Nat} {o : Oper} {a : Act} {w : World} {S : Value → World → Prop} (hi : ops[i]? = some o) (h : StepsTo P ops o a w S) {K : Act → World → Prop} {Q : Exit → Act → World → Prop} (hK : ∀ v w', S v w' → K (a.put o.dst v) w') :
    wpOp P ops Q i K a w := by
  unfold Go.wpOp
  simp only [hi]
  rcases h with ⟨hw, ⟨v, w', h1, h2⟩ | ⟨w', h1, h2⟩ | ⟨f, args, w1, h1, h2⟩⟩ | ⟨hw, h⟩
  · rw [if_pos hw]; left; unfold Oper.wp; rw [h1]; exact hK _ _ h2
  · rw [if_pos hw]; left; unfold Oper.wp; rw [h1]; exact hK _ _ h2
  · rw [if_pos hw]; left; unfold Oper.wp; rw [h1]
    exact h2.mono fun e w'' ⟨v, he, hv⟩ => by subst he; exact hK _ _ hv
  · rw [if_neg (by rw [hw]; exact Bool.false_ne_true)]; exact hK _ _ h

/-- Whatever order is drawn from here on, each step's end told, and of which class its world is. -/
def AnyT (P : Program) (ops : Array Oper) (Inv : Array Bool → World → Prop) (Q : Act → World → Prop) : Nat → Array Bool → Act → World → Prop
  | 0, listed, a, w => Region.ready .any ops listed = [] ∧ Q a w
  | f + 1, listed, a, w => (Region.ready .any ops listed = [] → Q a w) ∧
    ∀ i ∈ Region.ready .any ops listed, ∀ o, ops[i]? = some o → StepsTo P ops o a w fun v w' => Inv (listed.setIfInBounds i true) w' ∧ AnyT P ops Inv Q f (listed.setIfInBounds i true) (a.put o.dst v) w'

theorem AnyT.wpAny {Inv : Array Bool → World → Prop} {Q : Act → World → Prop} {Q' : Exit → Act → World → Prop} (hQ : ∀ a w, Q a w → Q' .normal a w) : ∀ (f : Nat) (listed : Array Bool) (a : Act) (w : World),
    AnyT P ops Inv Q f listed a w → wpAny P .any ops Q' f listed a w
  | 0, _, _, _, h => ⟨h.1, hQ _ _ h.2⟩
  | f + 1, listed, a, w, h => ⟨fun h0 => hQ _ _ (h.1 h0), fun i hi => by
      obtain ⟨_, o, ho, _⟩ := mem_ready.1 hi
      exact (h.2 i hi o ho).wpOp ho fun v w' hv => AnyT.wpAny hQ f _ _ _ hv.2⟩

/-- What has come up has come up behind all that it waits for. -/
def Closed (ops : Array Oper) (listed : Array Bool) : Prop :=
  ∀ j oj, ops[j]? = some oj → listed.getD j false = true → ∀ e ∈ oj.after, Region.binds .any e = true → listed.getD e.on false = true

theorem Closed.set {listed : Array Bool} {i : Nat} (h : Closed ops listed) (hi : i ∈ Region.ready .any ops listed) : Closed ops (listed.setIfInBounds i true) := by
  obtain ⟨_, oi, hoi, hall⟩ := mem_ready.1 hi
  intro j oj hj hl e he hb
  by_cases hij : i = j
  · subst hij
    have : oj = oi := Option.some.inj (hj.symm.trans hoi)
    subst this
    exact getD_set_true (hall e he hb)
  · rw [getD_set_ne false hij] at hl
    exact getD_set_true (h j oj hj hl e he hb)

/-- An operation that may come up now, and that yields one and the same in all worlds that may be met before it comes up, may be taken first. -/
theorem AnyT.first {Inv : Array Bool → World → Prop} {C : World → Prop} {Q : Act → World → Prop} {i : Nat} {oi : Oper} {v : Value} (hi : ops[i]? = some oi) (hsel : ∀ (j : Nat) (o : Oper) cs b, ops[j]? = some o → o.op ≠ .select cs b)
    (hC : ∀ L w, Closed ops L → Inv L w → L.getD i true = false → C w) (hiff : ∀ L w, Inv (L.setIfInBounds i true) w ↔ Inv L w) :
    ∀ (f : Nat) (listed : Array Bool) (a : Act) (w : World), Closed ops listed → Inv listed w →
      (∀ j oj, ops[j]? = some oj → j ≠ i → listed.getD j true = false → (∀ e ∈ oj.after, Region.binds .any e = true → e.on ≠ i) → oi.apart ops oj = true) →
      i ∈ Region.ready .any ops listed → (∀ w, C w → YieldsAt P ops w oi v a) →
      AnyT P ops Inv Q f (listed.setIfInBounds i true) (a.put oi.dst v) w → AnyT P ops Inv Q (f + 1) listed a w := by
  intro f
  induction f with
  | zero =>
    intro listed a w hcl hinv _ hr hy H
    refine ⟨fun h => (by rw [h] at hr; cases hr), fun j hj oj hoj => ?_⟩
    by_cases hji : j = i
    · subst hji
      have : oj = oi := Option.some.inj (hoj.symm.trans hi)
      subst this
      exact .of_still (hy w (hC _ _ hcl hinv (mem_ready.1 hr).1)) ⟨(hiff _ _).2 hinv, H⟩
    · have := ready_mono hj hji
      rw [H.1] at this
      cases this
  | succ f ih =>
    intro listed a w hcl hinv hfree hr hy H
    refine ⟨fun h => (by rw [h] at hr; cases hr), fun j hj oj hoj => ?_⟩
    by_cases hji : j = i
    · subst hji
      have : oj = oi := Option.some.inj (hoj.symm.trans hi)
      subst this
      exact .of_still (hy w (hC _ _ hcl hinv (mem_ready.1 hr).1)) ⟨(hiff _ _).2 hinv, H⟩
    · have h1 := H.2 j (ready_mono hj hji) oj hoj
      obtain ⟨hjun, oj', hoj', hall⟩ := mem_ready.1 hj
      have : oj' = oj := Option.some.inj (hoj'.symm.trans hoj)
      subst this
      have hnot : ∀ e ∈ oj'.after, Region.binds .any e = true → e.on ≠ i := fun e he hb heq => by
        have h1 := hall e he hb
        have h0 := (mem_ready.1 hr).1
        rw [heq] at h1
        rcases Nat.lt_or_ge i listed.size with h' | h'
        · simp [h'] at h0 h1; rw [h0] at h1; cases h1
        · simp [Array.getElem?_eq_none h'] at h1
      obtain ⟨k1, k2, k3⟩ := Oper.apart_spec (hfree j oj' hoj hji hjun hnot)
      have hfree' : ∀ k ok, ops[k]? = some ok → k ≠ i → (listed.setIfInBounds j true).getD k true = false →
          (∀ e ∈ ok.after, Region.binds .any e = true → e.on ≠ i) → oi.apart ops ok = true := fun k ok hk hki hun hno => by
        refine hfree k ok hk hki ?_ hno
        by_cases hjk : j = k
        · subst hjk; exact hjun
        · rw [getD_set_ne true hjk] at hun; exact hun
      refine (h1.of_same ((execOp_put oj' (fun cs b => hsel j oj' cs b hoj) a oi.dst v k1).symm) ((wanted_put oj' a oi.dst v k1).symm)).mono fun u w' ⟨h2, h3⟩ => ?_
      rw [Array.setIfInBounds_comm _ _ (Ne.symm hji)] at h2 h3
      have h2' := (hiff _ _).1 h2
      refine ⟨h2', ?_⟩
      refine ih (listed.setIfInBounds j true) (a.put oj'.dst u) w' (hcl.set hj) h2' hfree' (ready_mono hr (Ne.symm hji)) (fun w hw => (hy w hw).of_same (execOp_put oi (fun cs b => hsel i oi cs b hi) a oj'.dst u k3) (wanted_put oi a oj'.dst u k3)) ?_
      rw [← Act.put_comm a v u k2]
      exact h3

/-! ### The order to take: a head of operations that store nothing, then the stores, each waiting for the one ahead of it -/

/-- What must have come up ahead of t. -/
def Anc (ops : Array Oper) : Nat → Nat → List Nat
  | 0, t => [t]
  | f + 1, t => t :: match ops[t]? with
    | some o => (o.after.toList.filter (Region.binds .any ·)).flatMap fun e => Anc ops f e.on
    | none => []

theorem Closed.anc {listed : Array Bool} (h : Closed ops listed) : ∀ (f t : Nat), listed.getD t false = true → ∀ i ∈ Anc ops f t, listed.getD i false = true
  | 0, t, ht, i, hi => by simp [Anc] at hi; subst hi; exact ht
  | f + 1, t, ht, i, hi => by
    simp only [Anc, List.mem_cons] at hi
    rcases hi with rfl | hi
    · exact ht
    · cases ho : ops[t]? with
      | none => simp [ho] at hi
      | some o =>
        simp only [ho, List.mem_flatMap, List.mem_filter] at hi
        obtain ⟨e, ⟨he, hb⟩, hi⟩ := hi
        exact Closed.anc h f e.on (h t o ho ht e (by simpa using he) hb) i hi

/-- The head of the walk: each operation with its word: true: it comes up ahead of all stores; false: it yields the same whatever has been stored. -/
def wpHead (P : Program) (ops : Array Oper) (w0 : World) (C : World → Prop) (K : Act → Prop) : List (Bool × Nat) → Act → Prop
  | [], a => K a
  | (early, i) :: rest, a => ∀ o, ops[i]? = some o → ∃ v, (∀ w, (if early then w = w0 else C w) → YieldsAt P ops w o v a) ∧ wpHead P ops w0 C K rest (a.put o.dst v)

/-- The stores, in their order. -/
def wpStores (P : Program) (ops : Array Oper) (C : World → Prop) (K : Act → World → Prop) : List Nat → Act → World → Prop
  | [], a, w => K a w
  | i :: rest, a, w => ∀ o, ops[i]? = some o → StepsTo P ops o a w fun v w' => C w' ∧ wpStores P ops C K rest (a.put o.dst v) w'

/-- The order may be taken so. -/
def headB (ops : Array Oper) (tail : List Nat) : List (Bool × Nat) → Array Bool → Bool
  | [], listed => tailB listed tail
  | (early, i) :: rest, listed => (Region.ready .any ops listed).contains i && Region.free .any ops listed i && !tail.contains i &&
      (!early || tail.all fun t => (Anc ops ops.size t).contains i) && headB ops tail rest (listed.setIfInBounds i true)
where
  tailB : Array Bool → List Nat → Bool
    | listed, [] => (Region.ready .any ops listed).isEmpty
    | listed, t :: rest => (Region.ready .any ops listed) == [t] && tailB (listed.setIfInBounds t true) rest

def mixB (ops : Array Oper) (head : List (Bool × Nat)) (tail : List Nat) : Bool :=
  Region.noSelect ops && head.length + tail.length == ops.size && headB ops tail head (Array.replicate ops.size false)

theorem stores_any {C : World → Prop} {Inv : Array Bool → World → Prop} {K : Act → World → Prop} {tail0 : List Nat} (hInv : ∀ (L : Array Bool) (w : World) (t : Nat), t ∈ tail0 → t < L.size → C w → Inv (L.setIfInBounds t true) w) : ∀ (tail : List Nat) (listed : Array Bool) (a : Act) (w : World),
    (∀ t ∈ tail, t ∈ tail0) → headB.tailB ops listed tail = true → wpStores P ops C K tail a w → AnyT P ops Inv K tail.length listed a w
  | [], listed, a, w, _, hB, h => ⟨by simpa [headB.tailB] using hB, h⟩
  | t :: rest, listed, a, w, hs, hB, h => by
    simp only [headB.tailB, Bool.and_eq_true, beq_iff_eq] at hB
    obtain ⟨hB1, hB2⟩ := hB
    refine ⟨fun h0 => by rw [h0] at hB1; simp at hB1, fun i hi o ho => ?_⟩
    have hlt : i < listed.size := by
      have := (mem_ready.1 hi).1
      rcases Nat.lt_or_ge i listed.size with h' | h'
      · exact h'
      · simp [Array.getElem?_eq_none h'] at this
    rw [hB1] at hi
    obtain rfl : i = t := by simpa using hi
    exact (h o ho).mono fun v w' ⟨h2, h3⟩ => ⟨hInv _ _ _ (hs _ List.mem_cons_self) hlt h2, stores_any hInv rest _ _ _ (fun t ht => hs t (List.mem_cons_of_mem _ ht)) hB2 h3⟩

theorem getD_set_both {listed : Array Bool} {i j : Nat} (h : i ≠ j) : (listed.setIfInBounds i true).getD j false = listed.getD j false := getD_set_ne false h

theorem head_any {C : World → Prop} {w0 : World} {K : Act → World → Prop} {tail : List Nat} (hsel : ∀ (j : Nat) (o : Oper) cs b, ops[j]? = some o → o.op ≠ .select cs b) (hC0 : C w0) : ∀ (head : List (Bool × Nat)) (listed : Array Bool) (a : Act),
    Closed ops listed → headB ops tail head listed = true → wpHead P ops w0 C (fun a' => wpStores P ops C K tail a' w0) head a →
    AnyT P ops (fun L w => (w = w0 ∨ ∃ t ∈ tail, L.getD t false = true) ∧ C w) K (head.length + tail.length) listed a w0
  | [], listed, a, _, hB, h => by
    rw [List.length_nil, Nat.zero_add]
    exact stores_any (tail0 := tail) (fun L w t ht hlt hC => ⟨.inr ⟨t, ht, by simp [hlt]⟩, hC⟩) tail listed a w0 (fun _ h => h) hB h
  | (early, i) :: rest, listed, a, hcl, hB, h => by
    simp only [headB, Bool.and_eq_true] at hB
    obtain ⟨⟨⟨⟨hr, hf⟩, hnt⟩, he⟩, hB'⟩ := hB
    have hr' : i ∈ Region.ready .any ops listed := by simpa using hr
    obtain ⟨_, oi, hoi, _⟩ := mem_ready.1 hr'
    obtain ⟨v, hy, hK⟩ := h oi hoi
    have hnt' : ∀ t ∈ tail, i ≠ t := fun t ht e => by subst e; simp [ht] at hnt
    rw [List.length_cons, Nat.add_right_comm]
    refine AnyT.first (C := fun w => if early then w = w0 else C w) hoi hsel ?_ ?_ (rest.length + tail.length) listed a w0 hcl ⟨.inl rfl, hC0⟩ (Region.free_spec hoi hf) hr' hy
      (head_any hsel hC0 rest _ _ (hcl.set hr') hB' hK)
    · intro L w hL hI hun
      cases early with
      | false => exact hI.2
      | true =>
        rcases hI.1 with h | ⟨t, ht, htl⟩
        · exact h
        · simp only [Bool.not_true, Bool.false_or, List.all_eq_true] at he
          have h1 := hL.anc ops.size t htl i (by simpa using he t ht)
          rcases Nat.lt_or_ge i L.size with h' | h'
          · simp [h'] at h1 hun; rw [h1] at hun; cases hun
          · simp [Array.getElem?_eq_none h'] at h1
    · intro L w
      constructor
      · rintro ⟨h1, h2⟩
        refine ⟨h1.imp id ?_, h2⟩
        rintro ⟨t, ht, htl⟩
        exact ⟨t, ht, by rw [getD_set_both (hnt' t ht)] at htl; exact htl⟩
      · rintro ⟨h1, h2⟩
        refine ⟨h1.imp id ?_, h2⟩
        rintro ⟨t, ht, htl⟩
        exact ⟨t, ht, by rw [getD_set_both (hnt' t ht)]; exact htl⟩

/-- **A statement whose order is open, that ends in stores.** -/
theorem wp_region_mix {id : Nat} {Q : Exit → Act → World → Prop} {a : Act} {w : World} (head : List (Bool × Nat)) (tail : List Nat) (hm : P.follows .mixedOrders = true) (hB : mixB ops head tail = true)
    (C : World → Prop) (hC0 : C w.drew) (h : wpHead P ops w.drew C (fun a' => wpStores P ops C (fun a'' w'' => Q .normal a'' w'') tail a' w.drew) head a) : (Code.region id ops true).wp P Q a w := by
  simp only [mixB, Bool.and_eq_true, beq_iff_eq] at hB
  obtain ⟨⟨h1, h2⟩, h3⟩ := hB
  refine wp_region_any hm ?_
  rw [← h2]
  exact AnyT.wpAny (fun _ _ h => h) _ _ _ _ (head_any (Region.noSelect_spec h1) hC0 head _ a (fun j oj hj hl => by simp only [Array.getD_eq_getD_getElem?, Array.getElem?_replicate] at hl; split at hl <;> simp at hl) (by rw [h2]; exact h3) h)

/-- One operation of the head that comes up ahead of all stores, in the form that the walk's own step takes. -/
theorem wpHead_early {w0 : World} {C : World → Prop} {K : Act → Prop} {i : Nat} {rest : List (Bool × Nat)} {a : Act} {o : Oper} (ho : ops[i]? = some o)
    (h : ∀ K' : Act → Prop, (∀ a, wpHead P ops w0 C K rest a → K' a) → if Region.wanted o (yielded ops a.tmps) then o.quiet P a (fun w => w = w0) K' else K' (a.put o.dst undef)) :
    wpHead P ops w0 C K ((true, i) :: rest) a := by
  intro o' ho'
  obtain rfl : o' = o := Option.some.inj (ho'.symm.trans ho)
  have h1 := h _ (fun _ h => h)
  by_cases hw : Region.wanted o' (yielded ops a.tmps) = true
  · rw [if_pos hw] at h1
    obtain ⟨v, h2, h3⟩ := h1
    refine ⟨v, fun w hw0 => .inl ⟨hw, ?_⟩, h3⟩
    simp only [if_true] at hw0
    subst hw0
    have h4 := h2 w rfl
    unfold Oper.quietAt at h4
    generalize (execOp a.eval o').run P w = r at h4
    cases r with
    | ok n w' =>
      cases n <;> simp only [Oper.quietUpon] at h4
      case value u => exact .inl (by rw [h4.1, h4.2])
      case skip => exact .inr (.inl ⟨by rw [h4.1], h4.2⟩)
      case enter f args => exact .inr (.inr ⟨f, args, by rw [h4.1], h4.2⟩)
    | halt x w' => simp only [Oper.quietUpon] at h4
  · rw [if_neg hw] at h1
    exact ⟨undef, fun w _ => .inr ⟨by simpa using hw, rfl⟩, h1⟩

def Oper.isCall (o : Oper) : Bool := match o.op with | .call c => (match c.callee with | .builtin _ => false | _ => true) | _ => false

/-- One that yields the same whatever has been stored: no call. -/
theorem wpHead_late {w0 : World} {C : World → Prop} {K : Act → Prop} {i : Nat} {rest : List (Bool × Nat)} {a : Act} {o : Oper} (ho : ops[i]? = some o)
    (h : ∀ K' : Act → Prop, (∀ a, wpHead P ops w0 C K rest a → K' a) → ∃ v, (∀ w, C w → Region.wanted o (yielded ops a.tmps) = true ∧ (execOp a.eval o).run P w = .ok (.value v) w) ∧ K' (a.put o.dst v)) :
    wpHead P ops w0 C K ((false, i) :: rest) a := by
  intro o' ho'
  obtain rfl : o' = o := Option.some.inj (ho'.symm.trans ho)
  obtain ⟨v, h2, h3⟩ := h _ (fun _ h => h)
  exact ⟨v, fun w hw => .inl ⟨(h2 w (by simpa using hw)).1, .inl (h2 w (by simpa using hw)).2⟩, h3⟩

/-- A store of one cell. -/
theorem wpStores_cons {C : World → Prop} {K : Act → World → Prop} {i : Nat} {rest : List Nat} {a : Act} {w w' : World} {o : Oper} (ho : ops[i]? = some o) (hd : o.dst = none) (hg : o.guard = none)
    (hrun : (execOp a.eval o).run P w = .ok .skip w') (hC : C w') (h : wpStores P ops C K rest a w') : wpStores P ops C K (i :: rest) a w := by
  intro o' ho'
  obtain rfl : o' = o := Option.some.inj (ho'.symm.trans ho)
  exact .inl ⟨by simp [Region.wanted, hg], .inr (.inl ⟨w', hrun, hC, by rw [hd]; exact h⟩)⟩

/-- An operation of the tail that only yields a value. -/
theorem wpStores_val {C : World → Prop} {K : Act → World → Prop} {i : Nat} {rest : List Nat} {a : Act} {w : World} {o : Oper} {v : Value} (ho : ops[i]? = some o) (hg : o.guard = none)
    (hrun : (execOp a.eval o).run P w = .ok (.value v) w) (hC : C w) (h : wpStores P ops C K rest (a.put o.dst v) w) : wpStores P ops C K (i :: rest) a w := by
  intro o' ho'
  obtain rfl : o' = o := Option.some.inj (ho'.symm.trans ho)
  exact .inl ⟨by simp [Region.wanted, hg], .inl ⟨v, w, hrun, hC, h⟩⟩

/-- An operation of the tail that yields a value and turns the world. -/
theorem wpStores_turn {C : World → Prop} {K : Act → World → Prop} {i : Nat} {rest : List Nat} {a : Act} {w w' : World} {o : Oper} {v : Value} (ho : ops[i]? = some o) (hg : o.guard = none)
    (hrun : (execOp a.eval o).run P w = .ok (.value v) w') (hC : C w') (h : wpStores P ops C K rest (a.put o.dst v) w') : wpStores P ops C K (i :: rest) a w := by
  intro o' ho'
  obtain rfl : o' = o := Option.some.inj (ho'.symm.trans ho)
  exact .inl ⟨by simp [Region.wanted, hg], .inl ⟨v, w', hrun, hC, h⟩⟩

/-- A call of the tail, by its contract. -/
theorem wpStores_call {C : World → Prop} {K : Act → World → Prop} {i : Nat} {rest : List Nat} {a : Act} {w : World} {o : Oper} {f : FuncId} {args : Array Value} {R : Ending → World → Prop} (ho : ops[i]? = some o) (hg : o.guard = none)
    (hrun : (execOp a.eval o).run P w = .ok (.enter f args) w) (hc : Calls P f args w R) (h : ∀ e w', R e w' → ∃ v, e = .returned v ∧ C w' ∧ wpStores P ops C K rest (a.put o.dst v) w') : wpStores P ops C K (i :: rest) a w := by
  intro o' ho'
  obtain rfl : o' = o := Option.some.inj (ho'.symm.trans ho)
  exact .inl ⟨by simp [Region.wanted, hg], .inr (.inr ⟨f, args, w, hrun, hc.mono fun e w' hr => h e w' hr⟩)⟩

end
end Go.Proofs.Ytbdnoiaglighhaa
