/- A region that draws its order: one canonical order serves, if what is only read survives. -/
import Derived.Orders
import Derived.Still
set_option linter.unusedSimpArgs false
set_option linter.unusedVariables false
set_option linter.unusedSectionVars false
namespace Go.Shu

section
variable {P : Program} {ops : Array Oper} {Q : Exit → Act → World → Prop} {md : Region.Mode}

/-- Operation i waits for operation j (over at most n edges). -/
def waits (md : Region.Mode) (ops : Array Oper) : Nat → Nat → Nat → Bool
  | 0, _, _ => false
  | n + 1, i, j => match ops[i]? with
    | some o => o.after.any fun e => Region.binds md e && (e.on == j || waits md ops n e.on j)
    | none => false

/-- What is listed has all listed that it waits for. -/
def Down (md : Region.Mode) (ops : Array Oper) (listed : Array Bool) : Prop :=
  ∀ k o, ops[k]? = some o → listed.getD k false = true → ∀ e ∈ o.after, Region.binds md e = true → listed.getD e.on false = true

theorem Down.waits {listed : Array Bool} (hd : Down md ops listed) {j : Nat} : ∀ (n i : Nat),
    (∀ o, ops[i]? = some o → ∀ e ∈ o.after, Region.binds md e = true → listed.getD e.on false = true) → waits md ops n i j = true → listed.getD j false = true
  | 0, _, _, h => by simp [Shu.waits] at h
  | n + 1, i, hi, h => by
    unfold Shu.waits at h
    split at h
    · rename_i o ho
      obtain ⟨e, he, hb⟩ := Array.any_eq_true'.1 h
      simp only [Bool.and_eq_true, Bool.or_eq_true, beq_iff_eq] at hb
      have h1 := hi o ho e he hb.1
      rcases hb.2 with h2 | h2
      · rw [← h2]; exact h1
      · exact Down.waits hd n e.on (fun o' ho' e' he' hb' => hd e.on o' ho' h1 e' he' hb') h2
    · simp at h

theorem getD_false_true {l : Array Bool} {i : Nat} (h : l.getD i true = false) : l.getD i false = false := by
  rcases Nat.lt_or_ge i l.size with h' | h'
  · simp [h'] at h ⊢; exact h
  · simp [Array.getElem?_eq_none h'] at h

theorem Down.set {listed : Array Bool} (hd : Down md ops listed) {i : Nat} (hi : i ∈ Region.ready md ops listed) : Down md ops (listed.setIfInBounds i true) := by
  obtain ⟨_, o, ho, hall⟩ := mem_ready.1 hi
  intro k o' ho' hk e he hb
  by_cases hki : i = k
  · subst hki
    rw [ho] at ho'; cases ho'
    exact getD_set_true (hall e he hb)
  · rw [getD_set_ne false hki] at hk
    exact getD_set_true (hd k o' ho' hk e he hb)

/-- Whatever order is picked from here on; what pends survives each operation that doesn't wait for it. -/
def wpAnyP (P : Program) (md : Region.Mode) (ops : Array Oper) (Q : Exit → Act → World → Prop) (pend : List (Nat × (World → Prop))) : Nat → Array Bool → Act → World → Prop
  | 0, listed, a, w => Region.ready md ops listed = [] ∧ Q .normal a w
  | fuel + 1, listed, a, w =>
    (Region.ready md ops listed = [] → Q .normal a w) ∧
    ∀ i ∈ Region.ready md ops listed, wpOp P ops Q i (fun a' w' => (∀ p ∈ pend, waits md ops ops.size i p.1 = false → p.2 w → p.2 w') ∧ wpAnyP P md ops Q pend fuel (listed.setIfInBounds i true) a' w') a w

theorem wpAnyP_any {pend : List (Nat × (World → Prop))} : ∀ (fuel : Nat) (listed : Array Bool) (a : Act) (w : World), wpAnyP P md ops Q pend fuel listed a w → wpAny P md ops Q fuel listed a w
  | 0, _, _, _, h => h
  | fuel + 1, _, _, _, h => ⟨h.1, fun i hi => wpOp_mono (fun a' w' h' => wpAnyP_any fuel _ a' w' h'.2) (h.2 i hi)⟩

/-- In every world of J the operation yields v, and the world stays. -/
def YieldsJ (P : Program) (ops : Array Oper) (J : World → Prop) (o : Oper) (v : Value) (a : Act) : Prop :=
  (Region.wanted o (yielded ops a.tmps) = true ∧ ∀ w, J w → (execOp a.eval o).run P w = .ok (.value v) w) ∨
  (Region.wanted o (yielded ops a.tmps) = false ∧ v = undef)

theorem YieldsJ.of_same {J : World → Prop} {o : Oper} {v : Value} {a a' : Act} (hy : YieldsJ P ops J o v a) (he : execOp a'.eval o = execOp a.eval o)
    (hw : Region.wanted o (yielded ops a'.tmps) = Region.wanted o (yielded ops a.tmps)) : YieldsJ P ops J o v a' := by
  unfold YieldsJ at *
  rw [he, hw]
  exact hy

theorem YieldsJ.wpOp {J : World → Prop} {i : Nat} {o : Oper} {v : Value} {a : Act} (hi : ops[i]? = some o) (hy : YieldsJ P ops J o v a)
    {K : Act → World → Prop} {w : World} (hJ : J w) (h : K (a.put o.dst v) w) : wpOp P ops Q i K a w := by
  unfold Go.wpOp
  simp only [hi]
  rcases hy with ⟨hw, hv⟩ | ⟨hw, rfl⟩
  · simp only [hw, if_true, Oper.wp, hv w hJ, Oper.upon]; exact .inl h
  · simp only [hw, Bool.false_eq_true, if_false]; exact h

theorem wpOp_putJ {J : World → Prop} {j : Nat} {oi oj : Oper} {v : Value} (hj : ops[j]? = some oj) (hap : oi.apart ops oj = true)
    (hsi : ∀ cs b, oi.op ≠ .select cs b) (hsj : ∀ cs b, oj.op ≠ .select cs b)
    (hQ : ∀ c a w, Q (.panic c) (a.put oi.dst v) w → Q (.panic c) a w) {K : Act → World → Prop} {a : Act} {w : World}
    (hy : YieldsJ P ops J oi v a) (h : wpOp P ops Q j K (a.put oi.dst v) w) :
    wpOp P ops Q j (fun a' w' => YieldsJ P ops J oi v a' ∧ K (a'.put oi.dst v) w') a w := by
  obtain ⟨h1, h2, h3⟩ := Oper.apart_spec hap
  have keep : ∀ (a : Act), YieldsJ P ops J oi v a → ∀ u, YieldsJ P ops J oi v (a.put oj.dst u) := fun a hy u =>
    hy.of_same (execOp_put oi hsi a oj.dst u h3) (wanted_put oi a oj.dst u h3)
  have keepD : ∀ d, YieldsJ P ops J oi v { a with defers := d :: a.defers } := fun d => hy.of_same rfl rfl
  unfold wpOp at *
  simp only [hj] at *
  rw [wanted_put oj a oi.dst v h1] at h
  split
  · rename_i hw
    simp only [hw, if_true] at h
    rcases h with h | ⟨hasks, hlets⟩
    case inr => exact .inr ⟨by unfold Oper.asks at *; rw [execOp_put oj hsj a oi.dst v h1] at hasks; exact hasks, hlets⟩
    refine .inl ?_
    unfold Oper.wp at *
    rw [execOp_put oj hsj a oi.dst v h1] at h
    generalize (execOp a.eval oj).run P w = r at *
    cases r with
    | ok n w' =>
      cases n <;> simp only [Oper.upon] at h ⊢
      case value u => exact ⟨keep a hy u, by rw [← Act.put_comm a v u h2]; exact h⟩
      case skip => exact ⟨keep a hy _, by rw [← Act.put_comm a v undef h2]; exact h⟩
      case defer d =>
        refine ⟨keep _ (keepD d) _, ?_⟩
        rw [← Act.put_comm _ v undef h2, ← Act.put_defers]
        exact h
      case enter f args =>
        refine Calls.mono h fun e w'' he => ?_
        cases e with
        | returned u => exact ⟨keep a hy u, by rw [← Act.put_comm a v u h2]; exact he⟩
        | panicked c => exact hQ _ _ _ he
        | outgrown => exact he
      case row row args => exact Rows.mono h fun u w'' he => ⟨keep a hy u, by rw [← Act.put_comm a v u h2]; exact he⟩
    | halt x w' =>
      cases x <;> simp only [Oper.upon] at h ⊢
      case panic u => exact hQ _ _ _ h
  · rename_i hw
    simp only [hw] at h
    exact ⟨keep a hy _, by rw [← Act.put_comm a v undef h2]; exact h⟩

/-- **What only reads may be taken first.** -/
theorem wpAnyP_take {J : World → Prop} {i : Nat} {oi : Oper} {v : Value} {pend : List (Nat × (World → Prop))} (hi : ops[i]? = some oi) (hsel : ∀ (j : Nat) (o : Oper) cs b, ops[j]? = some o → o.op ≠ .select cs b)
    (hQ : ∀ c a w, Q (.panic c) (a.put oi.dst v) w → Q (.panic c) a w) :
    ∀ (fuel : Nat) (listed : Array Bool) (a : Act) (w : World), Down md ops listed →
      (∀ j oj, ops[j]? = some oj → j ≠ i → listed.getD j true = false → (∀ e ∈ oj.after, Region.binds md e = true → e.on ≠ i) → oi.apart ops oj = true) →
      i ∈ Region.ready md ops listed → YieldsJ P ops J oi v a → J w →
      wpAnyP P md ops Q ((i, J) :: pend) fuel (listed.setIfInBounds i true) (a.put oi.dst v) w → wpAnyP P md ops Q pend (fuel + 1) listed a w := by
  have weak : ∀ (fuel : Nat) (listed : Array Bool) (a : Act) (w : World), wpAnyP P md ops Q ((i, J) :: pend) fuel listed a w → wpAnyP P md ops Q pend fuel listed a w := by
    intro fuel
    induction fuel with
    | zero => intro _ _ _ h; exact h
    | succ fuel ih =>
      intro listed a w h
      exact ⟨h.1, fun j hj => wpOp_mono (fun a' w' h' => ⟨fun p hp => h'.1 p (List.mem_cons_of_mem _ hp), ih _ _ _ h'.2⟩) (h.2 j hj)⟩
  intro fuel
  induction fuel with
  | zero =>
    intro listed a w _ _ hr hy hJ H
    refine ⟨fun h => (by rw [h] at hr; cases hr), fun j hj => ?_⟩
    by_cases hji : j = i
    · subst hji; exact hy.wpOp hi hJ ⟨fun _ _ _ h => h, weak _ _ _ _ H⟩
    · have := ready_mono hj hji
      rw [H.1] at this
      cases this
  | succ fuel ih =>
    intro listed a w hd hfree hr hy hJ H
    refine ⟨fun h => (by rw [h] at hr; cases hr), fun j hj => ?_⟩
    by_cases hji : j = i
    · subst hji; exact hy.wpOp hi hJ ⟨fun _ _ _ h => h, weak _ _ _ _ H⟩
    · have h1 := H.2 j (ready_mono hj hji)
      obtain ⟨hjun, oj, hoj, hall⟩ := mem_ready.1 hj
      have hiun := (mem_ready.1 hr).1
      have hnotl : listed.getD i false = false := getD_false_true hiun
      have hnot : ∀ e ∈ oj.after, Region.binds md e = true → e.on ≠ i := fun e he hb heq => by
        have h1 := hall e he hb
        rw [heq, hnotl] at h1
        cases h1
      have hnw : waits md ops ops.size j i = false := by
        cases hwt : waits md ops ops.size j i with
        | false => rfl
        | true =>
          have := hd.waits ops.size j (fun o ho => by rw [hoj] at ho; cases ho; exact hall) hwt
          rw [hnotl] at this; cases this
      have h2 := wpOp_putJ hoj (hfree j oj hoj hji hjun hnot) (fun cs b => hsel i oi cs b hi) (fun cs b => hsel j oj cs b hoj) hQ hy h1
      have hfree' : ∀ k ok, ops[k]? = some ok → k ≠ i → (listed.setIfInBounds j true).getD k true = false →
          (∀ e ∈ ok.after, Region.binds md e = true → e.on ≠ i) → oi.apart ops ok = true := fun k ok hk hki hun hno => by
        refine hfree k ok hk hki ?_ hno
        by_cases hjk : j = k
        · subst hjk; exact hjun
        · rw [getD_set_ne true hjk] at hun; exact hun
      refine wpOp_mono (fun a' w' h3 => ?_) h2
      obtain ⟨hy', hpend, hrest⟩ := h3
      refine ⟨fun p hp => hpend p (List.mem_cons_of_mem _ hp), ?_⟩
      refine ih (listed.setIfInBounds j true) a' w' (hd.set hj) hfree' (ready_mono hr (Ne.symm hji)) hy' (hpend (i, J) (List.mem_cons_self ..) hnw hJ) ?_
      rw [Array.setIfInBounds_comm _ _ hji]
      exact hrest

/-- An order: 'q': an operation that only reads; 'x': one that may do more; 'b': one of two ways. -/
inductive ST where
  | n
  | q (i : Nat) (r : ST)
  | x (i : Nat) (r : ST)
  | b (l r : ST)

def ST.heads : ST → List Nat
  | .x i _ => [i]
  | .b l r => l.heads ++ r.heads
  | _ => []
def ST.size : ST → Nat
  | .n => 0
  | .q _ r | .x _ r => r.size + 1
  | .b l r => max l.size r.size

/-- Each way stands for all that may come up. The Bool: 'it has been seen that what may come up are just the heads'. -/
def OkS (md : Region.Mode) (ops : Array Oper) : ST → Bool → Array Bool → Prop
  | .n, seen, listed => seen = false ∧ Region.ready md ops listed = []
  | .q i r, seen, listed => seen = false ∧ i ∈ Region.ready md ops listed ∧ Region.free md ops listed i = true ∧ OkS md ops r false (listed.setIfInBounds i true)
  | .x i r, seen, listed => (seen = true ∨ (i ∈ Region.ready md ops listed ∧ ∀ j ∈ Region.ready md ops listed, j = i)) ∧ OkS md ops r false (listed.setIfInBounds i true)
  | .b l r, seen, listed => (seen = true ∨ (Region.ready md ops listed ≠ [] ∧ ∀ j ∈ Region.ready md ops listed, j ∈ l.heads ++ r.heads)) ∧ l.size = r.size ∧ OkS md ops l true listed ∧ OkS md ops r true listed

/-- The walk in that order. -/
def wpC (P : Program) (md : Region.Mode) (ops : Array Oper) (Q : Exit → Act → World → Prop) : ST → List (Nat × (World → Prop)) → Act → World → Prop
  | .n, _, a, w => Q .normal a w
  | .q i r, pend, a, w => ∃ o, ops[i]? = some o ∧ ∃ (v : Value) (J : World → Prop), (∀ c a w, Q (.panic c) (a.put o.dst v) w → Q (.panic c) a w) ∧ J w ∧ YieldsJ P ops J o v a ∧ wpC P md ops Q r ((i, J) :: pend) (a.put o.dst v) w
  | .x i r, pend, a, w => wpOp P ops Q i (fun a' w' => (∀ p ∈ pend, waits md ops ops.size i p.1 = false → p.2 w → p.2 w') ∧ wpC P md ops Q r pend a' w') a w
  | .b l r, pend, a, w => wpC P md ops Q l pend a w ∧ wpC P md ops Q r pend a w

theorem ready_lt {listed : Array Bool} {i : Nat} (h : i ∈ Region.ready md ops listed) : i < ops.size := by
  obtain ⟨_, o, ho, _⟩ := mem_ready.1 h
  exact (Array.getElem?_eq_some_iff.1 ho).1

theorem wpC_any (hs : Region.noSelect ops = true) : ∀ (σ : ST) (seen : Bool) (pend : List (Nat × (World → Prop))) (listed : Array Bool) (a : Act) (w : World), Down md ops listed →
    OkS md ops σ seen listed → wpC P md ops Q σ pend a w →
      (seen = false → wpAnyP P md ops Q pend σ.size listed a w) ∧
      (∀ i ∈ σ.heads, i ∈ Region.ready md ops listed → ∃ k, σ.size = k + 1 ∧ wpOp P ops Q i (fun a' w' => (∀ p ∈ pend, waits md ops ops.size i p.1 = false → p.2 w → p.2 w') ∧ wpAnyP P md ops Q pend k (listed.setIfInBounds i true) a' w') a w)
  | .n, seen, _, listed, _, _, _, hok, h => ⟨fun _ => ⟨hok.2, h⟩, fun i hi => by cases hi⟩
  | .q i r, seen, pend, listed, a, w, hd, hok, h => by
    obtain ⟨_, hr, hf, hok'⟩ := hok
    obtain ⟨o, ho, v, J, hQ, hJ, hy, hK⟩ := h
    exact ⟨fun _ => wpAnyP_take ho (Region.noSelect_spec hs) hQ r.size listed a w hd (Region.free_spec ho hf) hr hy hJ ((wpC_any hs r false _ _ _ _ (hd.set hr) hok' hK).1 rfl), fun i hi => by cases hi⟩
  | .x i r, seen, pend, listed, a, w, hd, hok, h => by
    obtain ⟨hr, hok'⟩ := hok
    have key : i ∈ Region.ready md ops listed → wpOp P ops Q i (fun a' w' => (∀ p ∈ pend, waits md ops ops.size i p.1 = false → p.2 w → p.2 w') ∧ wpAnyP P md ops Q pend r.size (listed.setIfInBounds i true) a' w') a w := fun hi =>
      wpOp_mono (fun a' w' h' => ⟨h'.1, (wpC_any hs r false pend _ a' w' (hd.set hi) hok' h'.2).1 rfl⟩) h
    refine ⟨fun hseen => ?_, fun j hj hjr => ?_⟩
    · rcases hr with hr | ⟨hi, hr⟩
      · rw [hseen] at hr; cases hr
      · refine ⟨fun h0 => (by rw [h0] at hi; cases hi), fun j hj => ?_⟩
        have := hr j hj
        subst this
        exact key hj
    · simp only [ST.heads, List.mem_singleton] at hj
      subst hj
      exact ⟨r.size, rfl, key hjr⟩
  | .b l r, seen, pend, listed, a, w, hd, hok, h => by
    obtain ⟨hr, hsz, hokl, hokr⟩ := hok
    have kl := (wpC_any hs l true pend listed a w hd hokl h.1).2
    have kr := (wpC_any hs r true pend listed a w hd hokr h.2).2
    have hmax : (ST.b l r).size = l.size := by simp only [ST.size, ← hsz, Nat.max_self]
    have key : ∀ i ∈ l.heads ++ r.heads, i ∈ Region.ready md ops listed → ∃ k, (ST.b l r).size = k + 1 ∧ wpOp P ops Q i (fun a' w' => (∀ p ∈ pend, waits md ops ops.size i p.1 = false → p.2 w → p.2 w') ∧ wpAnyP P md ops Q pend k (listed.setIfInBounds i true) a' w') a w := by
      intro i hi hir
      rw [hmax]
      rcases List.mem_append.1 hi with hi | hi
      · exact kl i hi hir
      · rw [hsz]; exact kr i hi hir
    refine ⟨fun hseen => ?_, key⟩
    rcases hr with hr | ⟨hne, hr⟩
    · rw [hseen] at hr; cases hr
    · cases hn : (ST.b l r).size with
      | zero =>
        exfalso
        obtain ⟨i, hi⟩ := List.exists_mem_of_ne_nil _ hne
        obtain ⟨k, hk, _⟩ := key i (hr i hi) hi
        rw [hn] at hk; cases hk
      | succ m =>
        refine ⟨fun h0 => absurd h0 hne, fun j hj => ?_⟩
        obtain ⟨k, hk, h'⟩ := key j (hr j hj) hj
        rw [hn] at hk
        cases hk
        exact h'

/-! ### The check, by masks -/

/-- An operation: what it waits for, where it puts its value (0: nowhere), what it looks at. -/
abbrev OD := Nat × Nat × Nat
def maskOf (l : List Nat) : Nat := l.foldr (fun d m => m ||| (1 <<< d)) 0
theorem testBit_maskOf : ∀ (l : List Nat) (b : Nat), (maskOf l).testBit b = true ↔ b ∈ l
  | [], b => by simp [maskOf]
  | d :: l, b => by
    have ih := testBit_maskOf l b
    unfold maskOf at ih ⊢
    rw [List.foldr_cons, Nat.testBit_or, Bool.or_eq_true, ih, List.mem_cons, Nat.one_shiftLeft, Nat.testBit_two_pow]
    simp only [decide_eq_true_eq]
    constructor
    · rintro (h | h)
      · exact .inr h
      · exact .inl h.symm
    · rintro (h | h)
      · exact .inr h.symm
      · exact .inl h
def odOf (ops : Array Oper) (o : Oper) : OD :=
  (maskOf ((o.after.toList.filter (Region.binds .any)).map (·.on)), (match o.dst with | some d => d + 1 | none => 0), maskOf (o.looksAt ops))
def rdyF (d : OD) (j L : Nat) : Bool := !L.testBit j && ((d.1 &&& L) == d.1)
def apartF (x y : OD) : Bool := (x.2.1 == 0 || (!y.2.2.testBit (x.2.1 - 1) && y.2.1 != x.2.1)) && (y.2.1 == 0 || !x.2.2.testBit (y.2.1 - 1))
def allJ (f : OD → Nat → Bool) : List OD → Nat → Bool
  | [], _ => true
  | d :: r, j => f d j && allJ f r (j + 1)
theorem allJ_spec {f : OD → Nat → Bool} : ∀ (l : List OD) (k : Nat), allJ f l k = true → ∀ j d, l[j]? = some d → f d (k + j) = true
  | [], _, _, j, d, hd => by cases hd
  | x :: r, k, h, j, d, hd => by
    simp only [allJ, Bool.and_eq_true] at h
    cases j with
    | zero => cases hd; exact h.1
    | succ j => have := allJ_spec r (k + 1) h.2 j d hd; rwa [Nat.add_assoc, Nat.add_comm 1 j] at this
def okF (D : List OD) : ST → Bool → Nat → Bool
  | .n, seen, L => !seen && allJ (fun d j => !rdyF d j L) D 0
  | .q i r, seen, L => !seen && (match D[i]? with
      | some d => rdyF d i L && allJ (fun e j => j == i || L.testBit j || e.1.testBit i || apartF d e) D 0
      | none => false) && okF D r false (L ||| (1 <<< i))
  | .x i r, seen, L => (seen || ((match D[i]? with | some d => rdyF d i L | none => false) && allJ (fun d j => j == i || !rdyF d j L) D 0)) && D[i]?.isSome && okF D r false (L ||| (1 <<< i))
  | .b l r, seen, L => (seen || ((l.heads ++ r.heads).any (fun i => match D[i]? with | some d => rdyF d i L | none => false) && allJ (fun d j => (l.heads ++ r.heads).contains j || !rdyF d j L) D 0)) && (l.size == r.size) && okF D l true L && okF D r true L

section
variable {D : List OD} (hD : D = ops.toList.map (odOf ops))
include hD

theorem D_get {i : Nat} {d : OD} (h : D[i]? = some d) : ∃ o, ops[i]? = some o ∧ d = odOf ops o := by
  rw [hD, List.getElem?_map] at h
  cases ho : ops.toList[i]? with
  | none => rw [ho] at h; cases h
  | some o => rw [ho] at h; cases h; exact ⟨o, by simpa using ho, rfl⟩
theorem D_of {i : Nat} {o : Oper} (h : ops[i]? = some o) : D[i]? = some (odOf ops o) := by
  rw [hD, List.getElem?_map, Array.getElem?_toList, h]; rfl

theorem rdyF_spec {L : Nat} {listed : Array Bool} (hsz : listed.size = ops.size) (hL : ∀ k, listed.getD k false = L.testBit k) {i : Nat} {o : Oper} (ho : ops[i]? = some o) :
    rdyF (odOf ops o) i L = true ↔ i ∈ Region.ready .any ops listed := by
  have hi : i < listed.size := by rw [hsz]; exact (Array.getElem?_eq_some_iff.1 ho).1
  have h0 : listed.getD i true = listed.getD i false := by simp [hi]
  have hm : ((maskOf ((o.after.toList.filter (Region.binds .any)).map (·.on)) &&& L) == maskOf ((o.after.toList.filter (Region.binds .any)).map (·.on))) = true ↔ ∀ e ∈ o.after, Region.binds .any e = true → listed.getD e.on false = true := by
    rw [beq_iff_eq]
    constructor
    · intro h e he hb
      rw [hL]
      have h1 : (maskOf ((o.after.toList.filter (Region.binds .any)).map (·.on))).testBit e.on = true := (testBit_maskOf _ _).2 (List.mem_map.2 ⟨e, List.mem_filter.2 ⟨by simpa using he, hb⟩, rfl⟩)
      rw [← h, Nat.testBit_and, Bool.and_eq_true] at h1
      exact h1.2
    · intro h
      apply Nat.eq_of_testBit_eq
      intro b
      rw [Nat.testBit_and]
      cases hb : (maskOf ((o.after.toList.filter (Region.binds .any)).map (·.on))).testBit b with
      | false => rfl
      | true =>
        obtain ⟨e, he, rfl⟩ := List.mem_map.1 ((testBit_maskOf _ _).1 hb)
        obtain ⟨he, hbe⟩ := List.mem_filter.1 he
        rw [← hL, h e (by simpa using he) hbe]; rfl
  simp only [rdyF, odOf, Bool.and_eq_true, Bool.not_eq_true']
  rw [hm, mem_ready, h0, hL]
  constructor
  · rintro ⟨h1, h2⟩; exact ⟨h1, o, ho, h2⟩
  · rintro ⟨h1, o', ho', h2⟩; rw [ho] at ho'; cases ho'; exact ⟨h1, h2⟩

theorem free_of_F {L : Nat} {listed : Array Bool} (hsz : listed.size = ops.size) (hL : ∀ k, listed.getD k false = L.testBit k) {i : Nat} {oi : Oper} (hi : ops[i]? = some oi)
    (h : allJ (fun e j => j == i || L.testBit j || e.1.testBit i || apartF (odOf ops oi) e) D 0 = true) : Region.free .any ops listed i = true := by
  unfold Region.free
  rw [hi]
  simp only [List.all_eq_true, List.mem_range]
  intro j hj
  have hlt : j < listed.size := by rw [hsz]; exact hj
  have h0 : listed.getD j true = listed.getD j false := by simp [hlt]
  have hoj : ops[j]? = some ops[j] := Array.getElem?_eq_getElem hj
  have hd := allJ_spec D 0 h j _ (D_of hD hoj)
  simp only [Nat.zero_add, Bool.or_eq_true, beq_iff_eq] at hd
  rw [h0, hL, hoj]
  simp only [Bool.or_eq_true, beq_iff_eq]
  rcases hd with ((hd | hd) | hd) | hd
  · exact .inl (.inl hd)
  · exact .inl (.inr hd)
  · refine .inr (.inl (Array.any_eq_true'.2 ?_))
    obtain ⟨e, he, rfl⟩ := List.mem_map.1 ((testBit_maskOf _ _).1 hd)
    obtain ⟨he, hb⟩ := List.mem_filter.1 he
    exact ⟨e, by simpa using he, by simp [hb]⟩
  · refine .inr (.inr ?_)
    have hc : ∀ (x : Oper) (d : Nat), (x.looksAt ops).contains d = (maskOf (x.looksAt ops)).testBit d := by
      intro x d
      rw [Bool.eq_iff_iff, testBit_maskOf, List.contains_iff_mem]
    simp only [apartF, odOf, Bool.and_eq_true, Bool.or_eq_true, beq_iff_eq] at hd
    unfold Oper.apart
    rw [Bool.and_eq_true]
    refine ⟨?_, ?_⟩
    · cases hdi : oi.dst with
      | none => rfl
      | some d =>
        rw [hdi] at hd
        simp only [Nat.add_one_sub_one, bne_iff_ne, ne_eq, Nat.add_eq_zero_iff, Nat.one_ne_zero, and_false, false_or] at hd
        simp only [hc]
        rw [Bool.and_eq_true]
        refine ⟨hd.1.1, ?_⟩
        cases hdj : ops[j].dst with
        | none => rfl
        | some d' => rw [hdj] at hd; have := hd.1.2; simp at this ⊢; exact this
    · cases hdj : ops[j].dst with
      | none => rfl
      | some d =>
        rw [hdj] at hd
        simp only [Nat.add_one_sub_one, Nat.add_eq_zero_iff, Nat.one_ne_zero, and_false, false_or] at hd
        simp only [hc]
        exact hd.2

theorem okF_spec : ∀ (σ : ST) (seen : Bool) (L : Nat) (listed : Array Bool), listed.size = ops.size → (∀ k, listed.getD k false = L.testBit k) → okF D σ seen L = true → OkS .any ops σ seen listed := by
  have step : ∀ {i L : Nat} {listed : Array Bool}, listed.size = ops.size → (∀ k, listed.getD k false = L.testBit k) → i < ops.size → (listed.setIfInBounds i true).size = ops.size ∧ ∀ k, (listed.setIfInBounds i true).getD k false = (L ||| (1 <<< i)).testBit k := by
    intro i L listed hsz hL hi
    refine ⟨by simpa using hsz, fun k => ?_⟩
    rw [Nat.testBit_or, Nat.one_shiftLeft, Nat.testBit_two_pow]
    by_cases hik : i = k
    · subst hik; simp [hsz, hi]
    · rw [getD_set_ne false hik, hL]; simp [hik]
  have lt_of : ∀ {i : Nat} {d : OD}, D[i]? = some d → i < ops.size := fun h => by
    obtain ⟨o, ho, _⟩ := D_get hD h
    exact (Array.getElem?_eq_some_iff.1 ho).1
  have nrdy : ∀ {L : Nat} {listed : Array Bool} {f : Nat → Bool}, listed.size = ops.size → (∀ k, listed.getD k false = L.testBit k) → allJ (fun d j => f j || !rdyF d j L) D 0 = true → ∀ j ∈ Region.ready .any ops listed, f j = true := by
    intro L listed f hsz hL h j hj
    obtain ⟨_, o, ho, _⟩ := mem_ready.1 hj
    have h1 := allJ_spec D 0 h j _ (D_of hD ho)
    simp only [Nat.zero_add, Bool.or_eq_true, Bool.not_eq_true'] at h1
    rcases h1 with h1 | h1
    · exact h1
    · rw [(rdyF_spec hD hsz hL ho).2 hj] at h1; cases h1
  intro σ
  induction σ with
  | n =>
    intro seen L listed hsz hL h
    simp only [okF, Bool.and_eq_true, Bool.not_eq_true'] at h
    refine ⟨h.1, ?_⟩
    cases hr : Region.ready .any ops listed with
    | nil => rfl
    | cons j t =>
      have hj : j ∈ Region.ready .any ops listed := by rw [hr]; exact List.mem_cons_self ..
      have := nrdy (f := fun _ => false) hsz hL (by simpa using h.2) j hj
      cases this
  | q i r ih =>
    intro seen L listed hsz hL h
    simp only [okF, Bool.and_eq_true, Bool.not_eq_true'] at h
    obtain ⟨⟨hs, hm⟩, hr⟩ := h
    split at hm
    · rename_i d hd
      obtain ⟨o, ho, rfl⟩ := D_get hD hd
      simp only [Bool.and_eq_true] at hm
      obtain ⟨h1, h2⟩ := step hsz hL (lt_of hd)
      exact ⟨hs, (rdyF_spec hD hsz hL ho).1 hm.1, free_of_F hD hsz hL ho hm.2, ih _ _ _ h1 h2 hr⟩
    · cases hm
  | x i r ih =>
    intro seen L listed hsz hL h
    simp only [okF, Bool.and_eq_true, Bool.or_eq_true] at h
    obtain ⟨⟨hm, hi⟩, hr⟩ := h
    have hok : OkS .any ops r false (listed.setIfInBounds i true) := by
      obtain ⟨d, hd⟩ := Option.isSome_iff_exists.1 hi
      obtain ⟨h1, h2⟩ := step hsz hL (lt_of hd)
      exact ih _ _ _ h1 h2 hr
    refine ⟨?_, hok⟩
    rcases hm with hm | ⟨hm1, hm2⟩
    · exact .inl hm
    · split at hm1
      · rename_i d hd
        obtain ⟨o, ho, rfl⟩ := D_get hD hd
        refine .inr ⟨(rdyF_spec hD hsz hL ho).1 hm1, fun j hj => ?_⟩
        have := nrdy (f := fun j => j == i) hsz hL hm2 j hj
        simpa using this
      · cases hm1
  | b l r ihl ihr =>
    intro seen L listed hsz hL h
    simp only [okF, Bool.and_eq_true, Bool.or_eq_true, beq_iff_eq] at h
    obtain ⟨⟨⟨hm, hs⟩, hl⟩, hr⟩ := h
    refine ⟨?_, hs, ihl _ _ _ hsz hL hl, ihr _ _ _ hsz hL hr⟩
    rcases hm with hm | ⟨hm1, hm2⟩
    · exact .inl hm
    · refine .inr ⟨?_, fun j hj => ?_⟩
      · obtain ⟨i, _, hi⟩ := List.any_eq_true.1 hm1
        split at hi
        · rename_i d hd
          obtain ⟨o, ho, rfl⟩ := D_get hD hd
          intro h0
          have := (rdyF_spec hD hsz hL ho).1 hi
          rw [h0] at this; cases this
        · cases hi
      · have := nrdy (f := fun j => (l.heads ++ r.heads).contains j) hsz hL hm2 j hj
        rwa [List.contains_iff_mem] at this

end

/-- **One order serves** (or one of each of two ways). -/
theorem wp_region_order {id : Nat} {a : Act} {w : World} (hm : P.follows .mixedOrders = true) (hs : Region.noSelect ops = true) (σ : ST) (hl : σ.size = ops.size) {D : List OD} (hD : D = ops.toList.map (odOf ops))
    (hok : okF D σ false 0 = true) (h : wpC P .any ops Q σ [] a { w with drawn := w.drawn + 1 }) : (Code.region id ops true).wp P Q a w := by
  refine wp_region_any hm ?_
  have hok' := okF_spec hD σ false 0 (Array.replicate ops.size false) (by simp) (fun k => by simp [Array.getElem?_replicate]; split <;> rfl) hok
  have hd : Down .any ops (Array.replicate ops.size false) := fun k o _ hk => by
    simp [Array.getElem?_replicate] at hk
    split at hk <;> simp at hk
  have h1 := wpAnyP_any _ _ _ _ ((wpC_any hs σ false [] _ a _ hd hok' h).1 rfl)
  rw [hl] at h1
  exact h1

end
end Go.Shu
