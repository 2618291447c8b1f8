/- As the law for a statement whose order is open: a head that changes nothing, then operations that turn the world, in whatever of several orders, then a rest that changes nothing; the orders meet in one relation. Over any program. No statement is proved here. -/
import Derived.Test.YtbdnoiaglighhaaMixR
namespace Go.Proofs.Ytbdnoiaglighhaa
set_option linter.unusedVariables false
set_option linter.unusedSimpArgs false
open Go

/-- The orders in which the operations may come up. -/
inductive Tr where
  | stop
  | go (i : Nat) (t : Tr)
  | fork (a b : Tr)

section
variable {P : Program} {ops : Array Oper}

def Tr.heads : Tr → List Nat
  | .stop => []
  | .go i _ => [i]
  | .fork a b => a.heads ++ b.heads

/-- The operations of the tree, each order of which is shown. -/
def wpTr (P : Program) (ops : Array Oper) (C : World → Prop) (K : Act → World → Prop) : Tr → Act → World → Prop
  | .stop, a, w => K a w
  | .go i t, a, w => ∀ o, ops[i]? = some o → StepsTo P ops o a w fun v w' => C w' ∧ wpTr P ops C K t (a.put o.dst v) w'
  | .fork s t, a, w => wpTr P ops C K s a w ∧ wpTr P ops C K t a w

/-- Each operation that may come up stands in the tree. -/
def trB (ops : Array Oper) (tail0 rest : List Nat) (listed : Array Bool) : Tr → Bool
  | .stop => restB ops tail0 rest listed
  | .go i t => !(Region.ready .any ops listed).isEmpty && (Region.ready .any ops listed).all ([i].contains ·) && tail0.contains i && trB ops tail0 rest (listed.setIfInBounds i true) t
  | .fork s t => !(Region.ready .any ops listed).isEmpty && (Region.ready .any ops listed).all ((s.heads ++ t.heads).contains ·) && subB listed s && subB listed t
where
  subB (listed : Array Bool) : Tr → Bool
    | .stop => false
    | .go i t => tail0.contains i && trB ops tail0 rest (listed.setIfInBounds i true) t
    | .fork s t => subB listed s && subB listed t

/-- How many operations each order has. -/
def Tr.long : Tr → Nat → Bool
  | .stop, n => n == 0
  | .go _ t, n + 1 => t.long n
  | .go _ _, 0 => false
  | .fork s t, n => s.long n && t.long n

theorem tr_sub {C : World → Prop} {Inv : Array Bool → World → Prop} {K K1 : Act → World → Prop} {tail0 rest : List Nat} {m : Nat} {listed : Array Bool} {a : Act} {w : World} {f : Nat}
    (hstep : ∀ i t, wpTr P ops C K1 (.go i t) a w → i ∈ Region.ready .any ops listed → tail0.contains i = true → trB ops tail0 rest (listed.setIfInBounds i true) t = true → t.long m = true → ∀ o, ops[i]? = some o → StepsTo P ops o a w fun v w' => Inv (listed.setIfInBounds i true) w' ∧ AnyT P ops Inv K f (listed.setIfInBounds i true) (a.put o.dst v) w') :
    ∀ (t : Tr), trB.subB ops tail0 rest listed t = true → t.long (m + 1) = true → wpTr P ops C K1 t a w → ∀ i ∈ Region.ready .any ops listed, i ∈ t.heads → ∀ o, ops[i]? = some o →
      StepsTo P ops o a w fun v w' => Inv (listed.setIfInBounds i true) w' ∧ AnyT P ops Inv K f (listed.setIfInBounds i true) (a.put o.dst v) w'
  | .stop, hB, _, _, _, _, _ => by simp [trB.subB] at hB
  | .go j t, hB, hl, h, i, hi, hj => by
    simp only [trB.subB, Bool.and_eq_true] at hB
    simp only [Tr.heads, List.mem_singleton] at hj
    subst hj
    exact hstep i t h hi hB.1 hB.2 hl
  | .fork s t, hB, hl, h, i, hi, hj => by
    simp only [trB.subB, Bool.and_eq_true] at hB
    simp only [Tr.long, Bool.and_eq_true] at hl
    simp only [Tr.heads, List.mem_append] at hj
    rcases hj with hj | hj
    · exact tr_sub hstep s hB.1 hl.1 h.1 i hi hj
    · exact tr_sub hstep t hB.2 hl.2 h.2 i hi hj

theorem tr_any {C : World → Prop} {Inv : Array Bool → World → Prop} {K : Act → World → Prop} {tail0 rest : List Nat} (hsel : ∀ (j : Nat) (o : Oper) cs b, ops[j]? = some o → o.op ≠ .select cs b)
    (hInv : ∀ (L : Array Bool) (w : World), Stored tail0 L → C w → Inv L w) : ∀ (n : Nat) (t : Tr) (listed : Array Bool) (a : Act) (w : World), t.long n = true → trB ops tail0 rest listed t = true → Closed ops listed → (n = 0 → Stored tail0 listed ∧ C w) →
      wpTr P ops C (wpRest P ops K rest) t a w → AnyT P ops Inv K (n + rest.length) listed a w := by
  intro n
  induction n with
  | zero =>
    intro t
    induction t with
    | stop =>
      intro listed a w _ hB hcl hst h
      rw [Nat.zero_add]
      exact (rest_any hsel rest listed a hcl hB (hst rfl).1 h).imp (fun L w' hI => hInv L w' hI.2 (by rw [hI.1]; exact (hst rfl).2)) _ _ _ _
    | go i t _ => intro _ _ _ hl; simp [Tr.long] at hl
    | fork s t ihs iht =>
      intro listed a w hl hB
      have hlong : ∀ u : Tr, u.long 0 = true → trB.subB ops tail0 rest listed u = false := by
        intro u
        induction u with
        | stop => intro _; rfl
        | go i t _ => intro h; simp [Tr.long] at h
        | fork a b iha ihb => intro h; simp only [Tr.long, Bool.and_eq_true] at h; simp [trB.subB, iha h.1]
      simp only [Tr.long, Bool.and_eq_true] at hl
      simp only [trB, Bool.and_eq_true] at hB
      have := hlong s hl.1
      rw [hB.1.2] at this
      cases this
  | succ n ih =>
    intro t listed a w hl hB hcl _ h
    have e : n + 1 + rest.length = (n + rest.length) + 1 := by omega
    rw [e]
    have lt : ∀ i, i ∈ Region.ready .any ops listed → i < listed.size := by
      intro i hi
      have := (mem_ready.1 hi).1
      rcases Nat.lt_or_ge i listed.size with h' | h'
      · exact h'
      · simp [Array.getElem?_eq_none h'] at this
    have hstep : ∀ i t, wpTr P ops C (wpRest P ops K rest) (.go i t) a w → i ∈ Region.ready .any ops listed → tail0.contains i = true → trB ops tail0 rest (listed.setIfInBounds i true) t = true → t.long n = true → ∀ o, ops[i]? = some o →
        StepsTo P ops o a w fun v w' => Inv (listed.setIfInBounds i true) w' ∧ AnyT P ops Inv K (n + rest.length) (listed.setIfInBounds i true) (a.put o.dst v) w' := by
      intro i t h hi hc hB hl o ho
      have hst : Stored tail0 (listed.setIfInBounds i true) := ⟨i, by simpa using hc, by simp [lt i hi]⟩
      exact (h o ho).mono fun v w' hv => ⟨hInv _ _ hst hv.1, ih t _ _ _ hl hB (hcl.set hi) (fun _ => ⟨hst, hv.1⟩) hv.2⟩
    have hsub : trB.subB ops tail0 rest listed t = true ∧ (∀ i ∈ Region.ready .any ops listed, i ∈ t.heads) ∧ Region.ready .any ops listed ≠ [] := by
      cases t with
      | stop => simp [Tr.long] at hl
      | go i t =>
        simp only [trB, Bool.and_eq_true, List.all_eq_true] at hB
        exact ⟨by simp only [trB.subB, Bool.and_eq_true]; exact ⟨hB.1.2, hB.2⟩, fun j hj => by simpa [Tr.heads] using hB.1.1.2 j hj, by simpa using hB.1.1.1⟩
      | fork s t =>
        simp only [trB, Bool.and_eq_true, List.all_eq_true] at hB
        exact ⟨by simp only [trB.subB, Bool.and_eq_true]; exact ⟨hB.1.2, hB.2⟩, fun j hj => by simpa [Tr.heads] using hB.1.1.2 j hj, by simpa using hB.1.1.1⟩
    exact ⟨fun h0 => absurd h0 hsub.2.2, fun i hi o ho => tr_sub (m := n) hstep t hsub.1 hl h i hi (hsub.2.1 i hi) o ho⟩

def headT (ops : Array Oper) (tail0 rest : List Nat) (t : Tr) : List (Bool × Nat) → Array Bool → Bool
  | [], listed => trB ops tail0 rest listed t
  | (early, i) :: hs, listed => (Region.ready .any ops listed).contains i && Region.free .any ops listed i && !tail0.contains i &&
      (!early || tail0.all fun t => (Anc ops ops.size t).contains i) && headT ops tail0 rest t hs (listed.setIfInBounds i true)
def mixT (ops : Array Oper) (head : List (Bool × Nat)) (tail0 rest : List Nat) (t : Tr) : Bool :=
  Region.noSelect ops && head.length + (tail0.length + rest.length) == ops.size && !tail0.isEmpty && t.long tail0.length && headT ops tail0 rest t head (Array.replicate ops.size false)

theorem head_anyT {C : World → Prop} {w0 : World} {K : Act → World → Prop} {tail rest : List Nat} {t : Tr} (hne : tail ≠ []) (hlong : t.long tail.length = true) (hsel : ∀ (j : Nat) (o : Oper) cs b, ops[j]? = some o → o.op ≠ .select cs b) (hC0 : C w0) : ∀ (head : List (Bool × Nat)) (listed : Array Bool) (a : Act),
    Closed ops listed → headT ops tail rest t head listed = true → wpHead P ops w0 C (fun a' => wpTr P ops C (wpRest P ops K rest) t a' w0) head a →
    AnyT P ops (fun L w => (w = w0 ∨ Stored tail L) ∧ C w) K (head.length + (tail.length + rest.length)) listed a w0
  | [], listed, a, hcl, hB, h => by
    rw [List.length_nil, Nat.zero_add]
    exact tr_any hsel (fun L w hst hC => ⟨.inr hst, hC⟩) tail.length t listed a w0 hlong hB hcl (fun h => absurd (List.length_eq_zero_iff.1 h) hne) h
  | (early, i) :: hs, listed, a, hcl, hB, h => by
    simp only [headT, Bool.and_eq_true] at hB
    obtain ⟨⟨⟨⟨hr, hf⟩, hnt⟩, he⟩, hB'⟩ := hB
    have hr' : i ∈ Region.ready .any ops listed := by simpa using hr
    obtain ⟨_, oi, hoi, _⟩ := mem_ready.1 hr'
    obtain ⟨v, hy, hK⟩ := h oi hoi
    have hnt' : i ∉ tail := by simpa using hnt
    rw [List.length_cons, Nat.add_right_comm]
    refine AnyT.first (C := fun w => if early then w = w0 else C w) hoi hsel ?_ ?_ (hs.length + (tail.length + rest.length)) listed a w0 hcl ⟨.inl rfl, hC0⟩ (Region.free_spec hoi hf) hr' hy
      (head_anyT hne hlong hsel hC0 hs _ _ (hcl.set hr') hB' hK)
    · intro L w hL hI hun
      cases early with
      | false => exact hI.2
      | true =>
        rcases hI.1 with h | ⟨t, ht, htl⟩
        · exact h
        · simp only [Bool.not_true, Bool.false_or, List.all_eq_true] at he
          have h1 := hL.anc ops.size t htl i (by simpa using he t ht)
          rcases Nat.lt_or_ge i L.size with h' | h'
          · simp [h'] at h1 hun; rw [h1] at hun; cases hun
          · simp [Array.getElem?_eq_none h'] at h1
    · intro L w
      rw [Stored.set hnt']

theorem wpTr_mono {C : World → Prop} {K K' : Act → World → Prop} (hK : ∀ a w, K a w → K' a w) : ∀ (t : Tr) (a : Act) (w : World), wpTr P ops C K t a w → wpTr P ops C K' t a w
  | .stop, _, _, h => hK _ _ h
  | .go i t, _, _, h => fun o ho => (h o ho).mono fun _ _ hv => ⟨hv.1, wpTr_mono hK t _ _ hv.2⟩
  | .fork s t, _, _, h => ⟨wpTr_mono hK s _ _ h.1, wpTr_mono hK t _ _ h.2⟩

/-- The frame behind the tail: what each of its operations has left in its slot. -/
def puts (ops : Array Oper) (f : Nat → Value) : List Nat → Act → Act
  | [], a => a
  | i :: is, a => puts ops f is (a.put (match ops[i]? with | some o => o.dst | none => none) (f i))

/-- What is shown behind the head: each order comes to the relation; from the relation all that follows. -/
def wpMeet (P : Program) (ops : Array Oper) (C : World → Prop) (K : Act → World → Prop) (R : (Nat → Value) → World → Prop) (tail rest : List Nat) (t : Tr) (w0 : World) (a0 : Act) : Prop :=
  wpTr P ops C (fun a w => C w ∧ ∃ f, a = puts ops f tail a0 ∧ R f w) t a0 w0 ∧ ∀ f w, C w → R f w → wpRest P ops K rest (puts ops f tail a0) w

/-- **A statement whose order is open: a head, operations that turn the world in whatever of several orders, and a rest that changes nothing; the orders meet.** -/
theorem wp_region_mixT {id : Nat} {Q : Exit → Act → World → Prop} {a : Act} {w : World} (head : List (Bool × Nat)) (tail rest : List Nat) (t : Tr) (hm : P.follows .mixedOrders = true) (hB : mixT ops head tail rest t = true)
    (C : World → Prop) (R : (Nat → Value) → World → Prop) (hC0 : C w.drew) (h : wpHead P ops w.drew C (wpMeet P ops C (fun a'' w'' => Q .normal a'' w'') R tail rest t w.drew) head a) : (Code.region id ops true).wp P Q a w := by
  simp only [mixT, Bool.and_eq_true, beq_iff_eq] at hB
  obtain ⟨⟨⟨⟨h1, h2⟩, h3⟩, h5⟩, h4⟩ := hB
  refine wp_region_any hm ?_
  rw [← h2]
  have hmono : ∀ (hs : List (Bool × Nat)) (a : Act), wpHead P ops w.drew C (wpMeet P ops C (fun a'' w'' => Q .normal a'' w'') R tail rest t w.drew) hs a → wpHead P ops w.drew C (fun a' => wpTr P ops C (wpRest P ops (fun a'' w'' => Q .normal a'' w'') rest) t a' w.drew) hs a := by
    intro hs
    induction hs with
    | nil => intro a h; exact wpTr_mono (fun a w hq => by obtain ⟨hc, f, rfl, hr⟩ := hq; exact h.2 f w hc hr) t a _ h.1
    | cons p hs ih =>
      obtain ⟨early, i⟩ := p
      intro a h o ho
      obtain ⟨v, h2, h3⟩ := h o ho
      exact ⟨v, h2, ih _ h3⟩
  exact AnyT.wpAny (fun _ _ h => h) _ _ _ _ (head_anyT (by simpa using h3) h5 (Region.noSelect_spec h1) hC0 head _ a (fun j oj hj hl => by simp only [Array.getD_eq_getD_getElem?, Array.getElem?_replicate] at hl; split at hl <;> simp at hl) (by rw [h2]; exact h4) (hmono head a h))

variable {C : World → Prop} {K : Act → World → Prop} {t : Tr} {i : Nat} {a : Act} {w w' : World} {o : Oper}
theorem wpTr_turn {v : Value} (ho : ops[i]? = some o) (hg : o.guard = none) (hrun : (execOp a.eval o).run P w = .ok (.value v) w') (hC : C w') (h : wpTr P ops C K t (a.put o.dst v) w') : wpTr P ops C K (.go i t) a w := by
  intro o' ho'
  obtain rfl : o' = o := Option.some.inj (ho'.symm.trans ho)
  exact .inl ⟨by simp [Region.wanted, hg], .inl ⟨v, w', hrun, hC, h⟩⟩
theorem wpTr_skip (ho : ops[i]? = some o) (hd : o.dst = none) (hg : o.guard = none) (hrun : (execOp a.eval o).run P w = .ok .skip w') (hC : C w') (h : wpTr P ops C K t a w') : wpTr P ops C K (.go i t) a w := by
  intro o' ho'
  obtain rfl : o' = o := Option.some.inj (ho'.symm.trans ho)
  exact .inl ⟨by simp [Region.wanted, hg], .inr (.inl ⟨w', hrun, hC, by rw [hd]; exact h⟩)⟩
theorem wpTr_call {f : FuncId} {args : Array Value} {R : Ending → World → Prop} (ho : ops[i]? = some o) (hg : o.guard = none) (hrun : (execOp a.eval o).run P w = .ok (.enter f args) w) (hc : Calls P f args w R)
    (h : ∀ e w', R e w' → ∃ v, e = .returned v ∧ C w' ∧ wpTr P ops C K t (a.put o.dst v) w') : wpTr P ops C K (.go i t) a w := by
  intro o' ho'
  obtain rfl : o' = o := Option.some.inj (ho'.symm.trans ho)
  exact .inl ⟨by simp [Region.wanted, hg], .inr (.inr ⟨f, args, w, hrun, hc.mono fun e w' hr => h e w' hr⟩)⟩
end
end Go.Proofs.Ytbdnoiaglighhaa
