/- From the plain wp to calls. -/
import Derived.Test.YtojbbajmldbffaaSound
import Derived.Tactics
set_option linter.unusedSimpArgs false
set_option linter.unusedVariables false
namespace Go.Shu

def envOf (a : Act) : Env := fun i => a.tmps.getD i undef

section
variable {P : Program}

theorem eval_envOf (a : Act) (x : Operand) : a.eval x = ev (envOf a) x := by cases x <;> rfl

theorem envOf_put {a : Act} {n : Nat} (hn : a.tmps.size = n) {d : Option Nat} (hd : ∀ k, d = some k → k < n) (v : Value) : envOf (a.put d v) = upo (envOf a) d v := by
  cases d with
  | none => rfl
  | some k =>
    have hk := hd k rfl
    funext i
    simp only [envOf, upo, upd, Act.put, Array.getD_eq_getD_getElem?, Array.getElem?_setIfInBounds]
    by_cases h : i = k
    · subst h; simp [hn, hk]
    · rw [if_neg (fun h' => h h'.symm), if_neg h]

theorem size_put (a : Act) (d : Option Nat) (v : Value) : (a.put d v).tmps.size = a.tmps.size := by cases d <;> simp [Act.put]
theorem defers_put (a : Act) (d : Option Nat) (v : Value) : (a.put d v).defers = a.defers := by cases d <;> rfl

def liftQ (n : Nat) (Z : Act → Prop) (Q : Ex → Env → World → Prop) (Kp : List PanicEntry → World → Prop) : Exit → Act → World → Prop
  | .normal, a, w => a.tmps.size = n ∧ Z a ∧ Q .n (envOf a) w
  | .exit id, a, w => a.tmps.size = n ∧ Z a ∧ Q (.x id) (envOf a) w
  | .ret, a, w => a.tmps.size = n ∧ Z a ∧ Q .r (envOf a) w
  | .panic ch, a, w => a.tmps.size = n ∧ Z a ∧ Kp ch w
  | _, _, _ => False

theorem slimIns_spec {n : Nat} {ops : List Oper} {o : Oper} {s : SIns} (h : slimIns P n ops o = some s) : s.dst = o.dst ∧ slimOp P o = some s.op ∧ (∀ k, o.dst = some k → k < n) ∧
    ((o.guard = none ∧ s.guard = none) ∨ ∃ j b t, o.guard = some (j, b) ∧ s.guard = some (t, b) ∧ (ops[j]?).bind (·.dst) = some t ∧ t < n) := by
  unfold slimIns at h
  split at h
  · cases h
  · rename_i op hop
    split at h
    · rename_i hd
      have hd' : ∀ k, o.dst = some k → k < n := fun k hk => by rw [hk] at hd; simpa [dstOk] using hd
      split at h
      · rename_i hg; cases h; exact ⟨rfl, hop, hd', .inl ⟨hg, rfl⟩⟩
      · rename_i j b hg
        split at h
        · rename_i t ht
          split at h
          · rename_i htn; cases h; exact ⟨rfl, hop, hd', .inr ⟨j, b, t, hg, rfl, ht, htn⟩⟩
          · cases h
        · cases h
    · cases h

/-- The guard: wanted, or not. -/
theorem gX_spec {n : Nat} {ops : Array Oper} {o : Oper} {s : SIns} {a : Act} {A B : Unit → Prop} (hn : a.tmps.size = n) (h : slimIns P n ops.toList o = some s) (hg : gX (envOf a) s.guard A B) :
    (Region.wanted o (yielded ops a.tmps) = true ∧ A ()) ∨ (Region.wanted o (yielded ops a.tmps) = false ∧ B ()) := by
  obtain ⟨_, _, _, h | ⟨j, b, t, h1, h2, h3, h4⟩⟩ := slimIns_spec h
  · rw [h.2] at hg
    exact .inl ⟨by simp [Region.wanted, h.1], hg⟩
  · rw [h2] at hg
    simp only [gX, gdX] at hg
    have hy : Region.wanted o (yielded ops a.tmps) = (yielded ops a.tmps j == some b) := by simp [Region.wanted, h1]
    have h3' : (ops[j]?).bind (·.dst) = some t := by simpa using h3
    have he : envOf a t = a.tmps[t]'(by omega) := by simp [envOf, Array.getD, hn, h4]
    have hyy : yielded ops a.tmps j = match a.tmps[t]'(by omega) with | .bool b => some b | _ => none := by
      unfold yielded
      rw [h3']
      have : a.tmps[t]? = some (a.tmps[t]'(by omega)) := by simp [hn, h4]
      simp only [Option.bind_some, this]
      cases a.tmps[t]'(by omega) <;> rfl
    rw [he] at hg
    rw [hy, hyy]
    cases hv : a.tmps[t]'(by omega) <;> rw [hv] at hg <;> simp only at hg <;> try (exact .inr ⟨rfl, hg⟩)
    rename_i t'
    split at hg
    · rename_i htb; subst htb; exact .inl ⟨by simp, hg⟩
    · rename_i htb; exact .inr ⟨by simp; exact htb, hg⟩

theorem Xs_sound {n : Nat} {Z : Act → Prop} {Q : Ex → Env → World → Prop} {Kp : List PanicEntry → World → Prop} {ops : Array Oper} :
    ∀ (l : List Oper) (hZ : ∀ o ∈ l, ∀ a v, Z (a.put o.dst v) ↔ Z a) (s : List SIns) (a : Act) (w : World), slimList P n ops.toList l = some s → a.tmps.size = n → Z a → Xs P Kp s (Q .n) (envOf a) w → wpList P ops (liftQ n Z Q Kp) l a w
  | [], hZ, s, a, w, hs, hn, hd, h => by
    simp only [slimList, Option.some.injEq] at hs; subst hs
    exact ⟨hn, hd, h⟩
  | o :: r, hZ, s, a, w, hs, hn, hd, h => by
    simp only [slimList] at hs
    cases hi : slimIns P n ops.toList o with
    | none => simp [hi] at hs
    | some i =>
      cases hr : slimList P n ops.toList r with
      | none => simp [hi, hr] at hs
      | some s' =>
        simp only [hi, hr, Option.some.injEq] at hs; subst hs
        obtain ⟨e1, e2, e3, _⟩ := slimIns_spec hi
        simp only [Xs] at h
        unfold wpList
        rcases gX_spec hn hi h with ⟨hw, h⟩ | ⟨hw, h⟩
        · rw [if_pos hw]
          refine .inl (opX_sound (eval_envOf a) e2 h (fun v w' hk => ?_) fun ch w' hk => ⟨hn, hd, hk⟩)
          rw [e1, ← envOf_put hn e3] at hk
          exact Xs_sound r (fun o ho => hZ o (List.mem_cons_of_mem _ ho)) s' _ w' hr (by rw [size_put]; exact hn) ((hZ o (List.mem_cons_self ..) _ _).2 hd) hk
        · rw [if_neg (by simp [hw])]
          rw [e1, ← envOf_put hn e3] at h
          exact Xs_sound r (fun o ho => hZ o (List.mem_cons_of_mem _ ho)) s' _ w hr (by rw [size_put]; exact hn) ((hZ o (List.mem_cons_self ..) _ _).2 hd) h

/-! ### Which operations one waits for -/

theorem waits_mono {md : Region.Mode} {ops : Array Oper} {j : Nat} : ∀ (n m i : Nat), n ≤ m → waits md ops n i j = true → waits md ops m i j = true
  | 0, _, _, _, h => by simp [waits] at h
  | n + 1, 0, _, hm, _ => by omega
  | n + 1, m + 1, i, hm, h => by
    unfold waits at h ⊢
    split at h
    · rename_i o ho
      obtain ⟨e, he, hb⟩ := Array.any_eq_true'.1 h
      simp only [Bool.and_eq_true, Bool.or_eq_true, beq_iff_eq] at hb
      refine Array.any_eq_true'.2 ⟨e, he, ?_⟩
      simp only [Bool.and_eq_true, Bool.or_eq_true, beq_iff_eq]
      exact ⟨hb.1, hb.2.imp id (waits_mono n m _ (by omega))⟩
    · cases h

theorem ancOf_spec {acc : List Nat} : ∀ (l : List Edge) (j : Nat), (ancOf acc l).testBit j = true → ∃ e ∈ l, Region.binds .any e = true ∧ e.on < acc.length ∧ (e.on = j ∨ (acc.getD e.on 0).testBit j = true)
  | [], j, h => by simp [ancOf] at h
  | e :: r, j, h => by
    unfold ancOf at h
    split at h
    · rename_i hc
      simp only [Bool.and_eq_true, decide_eq_true_eq] at hc
      rw [Nat.testBit_or, Nat.testBit_or, Nat.one_shiftLeft, Nat.testBit_two_pow, Bool.or_eq_true, Bool.or_eq_true, decide_eq_true_eq] at h
      rcases h with (h | h) | h
      · exact ⟨e, List.mem_cons_self .., hc.1, hc.2, .inl h⟩
      · exact ⟨e, List.mem_cons_self .., hc.1, hc.2, .inr h⟩
      · obtain ⟨e', he', h'⟩ := ancOf_spec r j h
        exact ⟨e', List.mem_cons_of_mem _ he', h'⟩
    · obtain ⟨e', he', h'⟩ := ancOf_spec r j h
      exact ⟨e', List.mem_cons_of_mem _ he', h'⟩

theorem anc_spec {ops : Array Oper} : ∀ (l : List Oper) (acc : List Nat), (∀ k, l[k]? = ops[acc.length + k]?) → (∀ i j, (acc.getD i 0).testBit j = true → waits .any ops (i + 1) i j = true) →
    ∀ i j, ((anc acc l).getD i 0).testBit j = true → waits .any ops (i + 1) i j = true
  | [], acc, _, h, i, j, hj => h i j hj
  | o :: r, acc, hl, h, i, j, hj => by
    simp only [anc] at hj
    refine anc_spec r _ (fun k => ?_) ?_ i j hj
    · have := hl (k + 1); simpa [Nat.add_assoc, Nat.add_comm 1 k] using this
    · intro i j hj
      rcases Nat.lt_or_ge i acc.length with hi | hi
      · refine h i j ?_
        rw [List.getD_eq_getElem?_getD, List.getElem?_append_left hi, ← List.getD_eq_getElem?_getD] at hj
        exact hj
      · rw [List.getD_eq_getElem?_getD, List.getElem?_append_right hi] at hj
        rcases Nat.eq_or_lt_of_le hi with hi' | hi'
        · subst hi'
          simp only [Nat.sub_self, List.getElem?_cons_zero, Option.getD_some] at hj
          obtain ⟨e, he, hb, hlt, hj⟩ := ancOf_spec _ _ hj
          have ho : ops[acc.length]? = some o := by simpa using (hl 0).symm
          unfold waits
          rw [ho]
          refine Array.any_eq_true'.2 ⟨e, by simpa using he, ?_⟩
          simp only [Bool.and_eq_true, Bool.or_eq_true, beq_iff_eq]
          refine ⟨hb, ?_⟩
          rcases hj with hj | hj
          · exact .inl hj
          · exact .inr (waits_mono (e.on + 1) acc.length e.on (by omega) (h e.on j hj))
        · have : ((i - acc.length)) ≠ 0 := by omega
          obtain ⟨k, hk⟩ := Nat.exists_eq_succ_of_ne_zero this
          rw [hk] at hj
          simp at hj

/-! ### A region that draws -/

theorem Xd_sound {n : Nat} {Z : Act → Prop} {Q : Ex → Env → World → Prop} {Kp : List PanicEntry → World → Prop} {ops : Array Oper} {A : List Nat} (hZ : ∀ o ∈ ops.toList, ∀ a v, Z (a.put o.dst v) ↔ Z a) (hA : ∀ i j, (A.getD i 0).testBit j = true → waits .any ops ops.size i j = true) :
    ∀ (σ : ST) (seen : List (Nat × Bool)) (l : DT) (pendX pend : List (Nat × (World → Prop))) (a : Act) (w : World), slimDraw P n ops.toList A σ seen = some l → a.tmps.size = n → Z a →
      (∀ p ∈ pend, (∀ w, p.2 w) ∨ ((p.1, true) ∈ seen ∧ p ∈ pendX)) →
      Xd P Kp l pendX (Q .n) (envOf a) w () → wpC P .any ops (liftQ n Z Q Kp) σ pend a w
  | .n, seen, l, pendX, pend, a, w, hs, hn, hd, hp, h => by
    simp only [slimDraw, Option.some.injEq] at hs; subst hs
    exact ⟨hn, hd, h⟩
  | .q i r, seen, l, pendX, pend, a, w, hs, hn, hd, hp, h => by
    simp only [slimDraw] at hs
    cases ho : ops.toList[i]? with
    | none => simp [ho] at hs
    | some o =>
      cases hi : slimIns P n ops.toList o with
      | none => simp [ho, hi] at hs
      | some s =>
        simp only [ho, hi] at hs
        split at hs
        · rename_i hq
          simp only [Bool.and_eq_true] at hq
          simp only [Option.map_eq_some_iff] at hs
          obtain ⟨l', hl', rfl⟩ := hs
          obtain ⟨e1, e2, e3, _⟩ := slimIns_spec hi
          have ho' : ops[i]? = some o := by simpa using ho
          simp only [Xd] at h
          have hQ : ∀ (v : Value) c (a : Act) w, liftQ n Z Q Kp (.panic c) (a.put o.dst v) w → liftQ n Z Q Kp (.panic c) a w := fun v c a w ⟨h1, h2, h3⟩ => ⟨by rw [← size_put]; exact h1, (hZ o (List.mem_of_getElem? ho) _ _).1 h2, h3⟩
          rcases gX_spec hn hi h with ⟨hw, h⟩ | ⟨hw, h⟩
          · obtain ⟨v, hk, hrun⟩ := qX_sound (eval_envOf a) e2 hq.1 h
            refine ⟨o, ho', v, ldJ (envOf a) w s.op, hQ v, ?_, .inl ⟨hw, hrun⟩, ?_⟩
            · cases s.op <;> simp only [ldJ] <;> split <;> trivial
            · rw [e1, ← envOf_put hn e3] at hk
              refine Xd_sound hZ hA r _ l' _ _ _ w hl' (by rw [size_put]; exact hn) ((hZ o (List.mem_of_getElem? ho) _ _).2 hd) ?_ hk
              intro p hpm
              rcases List.mem_cons.1 hpm with rfl | hpm
              · cases hlo : s.op.loads with
                | true => exact .inr ⟨by simp [hlo], by simp⟩
                | false => refine .inl fun w' => ?_; cases hop : s.op <;> simp only [hop, SOp.loads] at hlo <;> first | trivial | cases hlo
              · rcases hp p hpm with h | ⟨h1, h2⟩
                · exact .inl h
                · exact .inr ⟨List.mem_cons_of_mem _ h1, by split <;> first | exact List.mem_cons_of_mem _ h2 | exact h2⟩
          · refine ⟨o, ho', undef, fun _ => True, hQ undef, trivial, .inr ⟨hw, rfl⟩, ?_⟩
            rw [e1, ← envOf_put hn e3] at h
            refine Xd_sound hZ hA r _ l' _ _ _ w hl' (by rw [size_put]; exact hn) ((hZ o (List.mem_of_getElem? ho) _ _).2 hd) ?_ h
            intro p hpm
            rcases List.mem_cons.1 hpm with rfl | hpm
            · exact .inl fun _ => trivial
            · rcases hp p hpm with h | ⟨h1, h2⟩
              · exact .inl h
              · exact .inr ⟨List.mem_cons_of_mem _ h1, h2⟩
        · cases hs
  | .x i r, seen, l, pendX, pend, a, w, hs, hn, hd, hp, h => by
    simp only [slimDraw] at hs
    cases ho : ops.toList[i]? with
    | none => simp [ho] at hs
    | some o =>
      cases hi : slimIns P n ops.toList o with
      | none => simp [ho, hi] at hs
      | some s =>
        simp only [ho, hi, Option.map_eq_some_iff] at hs
        obtain ⟨l', hl', rfl⟩ := hs
        obtain ⟨e1, e2, e3, _⟩ := slimIns_spec hi
        have ho' : ops[i]? = some o := by simpa using ho
        have hsurv : ∀ p ∈ pend, waits .any ops ops.size i p.1 = false → (∀ w, p.2 w) ∨ (p ∈ pendX ∧ p.1 ∈ ((seen.filter fun p => p.2 && !(A.getD i 0).testBit p.1).map (·.1))) := by
          intro p hpm hwt
          rcases hp p hpm with h | ⟨h1, h2⟩
          · exact .inl h
          · refine .inr ⟨h2, List.mem_map.2 ⟨(p.1, true), List.mem_filter.2 ⟨h1, ?_⟩, rfl⟩⟩
            simp only [Bool.true_and, Bool.not_eq_true']
            cases hc : (A.getD i 0).testBit p.1 with
            | false => rfl
            | true => rw [hA i p.1 hc] at hwt; cases hwt
        simp only [Xd] at h
        simp only [wpC]
        unfold wpOp
        rw [ho']
        simp only
        rcases gX_spec hn hi h with ⟨hw, h⟩ | ⟨hw, h⟩
        · rw [if_pos hw]
          refine .inl (opX_sound (eval_envOf a) e2 h (fun v w' hk => ?_) fun ch w' hk => ⟨hn, hd, hk⟩)
          obtain ⟨hk1, hk2⟩ := hk
          refine ⟨fun p hpm hwt hpw => ?_, ?_⟩
          · rcases hsurv p hpm hwt with h | ⟨h1, h2⟩
            · exact h w'
            · exact hk1 p h1 h2 hpw
          · rw [e1, ← envOf_put hn e3] at hk2
            exact Xd_sound hZ hA r _ l' _ _ _ w' hl' (by rw [size_put]; exact hn) ((hZ o (List.mem_of_getElem? ho) _ _).2 hd) hp hk2
        · rw [if_neg (by simp [hw])]
          refine ⟨fun p _ _ h => h, ?_⟩
          rw [e1, ← envOf_put hn e3] at h
          exact Xd_sound hZ hA r _ l' _ _ _ w hl' (by rw [size_put]; exact hn) ((hZ o (List.mem_of_getElem? ho) _ _).2 hd) hp h
  | .b x y, seen, l, pendX, pend, a, w, hs, hn, hd, hp, h => by
    simp only [slimDraw] at hs
    cases hx : slimDraw P n ops.toList A x seen with
    | none => simp [hx] at hs
    | some x' =>
      cases hy : slimDraw P n ops.toList A y seen with
      | none => simp [hx, hy] at hs
      | some y' =>
        simp only [hx, hy, Option.some.injEq] at hs; subst hs
        exact ⟨Xd_sound hZ hA x _ x' _ _ _ w hx hn hd hp h.1, Xd_sound hZ hA y _ y' _ _ _ w hy hn hd hp h.2⟩


/-- All operations. -/
def opsOf : Code → List Oper
  | .region _ ops _ => ops.toList
  | .seq a b | .cond _ a b => opsOf a ++ opsOf b
  | .block _ b | .loop b => opsOf b
  | _ => []
theorem Xd_sound' {n : Nat} {Z : Act → Prop} {Q : Ex → Env → World → Prop} {Kp : List PanicEntry → World → Prop} {ops : Array Oper} {A : List Nat} (hZ : ∀ o ∈ ops.toList, ∀ a v, Z (a.put o.dst v) ↔ Z a) (hA : ∀ i j, (A.getD i 0).testBit j = true → waits .any ops ops.size i j = true)
    (σ : ST) (l : DT) (a : Act) (w : World) (h1 : slimDraw P n ops.toList A σ [] = some l) (h2 : a.tmps.size = n) (h3 : Z a) (h : Xd P Kp l [] (Q .n) (envOf a) w ()) : wpC P .any ops (liftQ n Z Q Kp) σ [] a w :=
  Xd_sound hZ hA σ [] l [] [] a w h1 h2 h3 (fun p hp => by cases hp) h

/-- **The plain wp is sound.** -/
theorem X_sound {n : Nat} {Z : Act → Prop} {hints : List (Nat × ST × List OD)} {Kp : List PanicEntry → World → Prop} : ∀ (c : Code) (hZ : ∀ o ∈ opsOf c, ∀ a v, Z (a.put o.dst v) ↔ Z a) (s : SC) (Q : Ex → Env → World → Prop) (a : Act) (w : World), slim P n hints c = some s → a.tmps.size = n → Z a →
    X P Kp s Q (envOf a) w → c.wp P (liftQ n Z Q Kp) a w
  | .skip, hZ, s, Q, a, w, hs, hn, hd, h => by
    simp only [slim, Option.some.injEq] at hs; subst hs
    exact wp_skip ⟨hn, hd, h⟩
  | .region id ops false, hZ, s, Q, a, w, hs, hn, hd, h => by
    simp only [slim, Option.map_eq_some_iff] at hs
    obtain ⟨l, hl, rfl⟩ := hs
    exact wp_region_list (Xs_sound _ hZ _ _ _ hl hn hd h)
  | .region id ops true, hZ, s, Q, a, w, hs, hn, hd, h => by
    simp only [slim] at hs
    split at hs
    · cases hs
    · rename_i σ D hσ
      split at hs
      · rename_i hc
        simp only [Bool.and_eq_true, decide_eq_true_eq] at hc
        simp only [Option.map_eq_some_iff] at hs
        obtain ⟨l, hl, rfl⟩ := hs
        refine wp_region_order hc.1.1.1.1 hc.1.1.1.2 σ hc.1.1.2 hc.1.2 hc.2 ?_
        refine Xd_sound' (A := anc [] ops.toList) hZ (fun i j hj => ?_) σ l a _ hl hn hd h
        have h1 := anc_spec (ops := ops) ops.toList [] (fun k => by simp) (fun i j hj => by simp at hj) i j hj
        rcases Nat.lt_or_ge i ops.size with hi | hi
        · exact waits_mono (i + 1) ops.size i (by omega) h1
        · unfold waits at h1
          rw [Array.getElem?_eq_none hi] at h1
          cases h1
      · cases hs
  | .seq x y, hZ, s, Q, a, w, hs, hn, hd, h => by
    simp only [slim] at hs
    cases hx : slim P n hints x with
    | none => simp [hx] at hs
    | some x' =>
      cases hy : slim P n hints y with
      | none => simp [hx, hy] at hs
      | some y' =>
        simp only [hx, hy, Option.some.injEq] at hs; subst hs
        refine wp_seq (Code.wp_mono (fun e a w hq => ?_) (X_sound x (fun o ho => hZ o (List.mem_append_left _ ho)) x' _ a w hx hn hd h))
        cases e with
        | normal => exact X_sound y (fun o ho => hZ o (List.mem_append_right _ ho)) y' Q a w hy hq.1 hq.2.1 hq.2.2
        | _ => exact hq
  | .cond c x y, hZ, s, Q, a, w, hs, hn, hd, h => by
    simp only [slim] at hs
    cases hx : slim P n hints x with
    | none => simp [hx] at hs
    | some x' =>
      cases hy : slim P n hints y with
      | none => simp [hx, hy] at hs
      | some y' =>
        simp only [hx, hy, Option.some.injEq] at hs; subst hs
        simp only [X, tX] at h
        split at h
        · rename_i t ht
          refine wp_cond (t := t) (by rw [eval_envOf]; exact ht) ?_
          cases t
          · exact X_sound y (fun o ho => hZ o (List.mem_append_right _ ho)) y' Q a w hy hn hd (by simpa [cdX] using h)
          · exact X_sound x (fun o ho => hZ o (List.mem_append_left _ ho)) x' Q a w hx hn hd (by simpa [cdX] using h)
        · exact h.elim
  | .block id b, hZ, s, Q, a, w, hs, hn, hd, h => by
    simp only [slim, Option.map_eq_some_iff] at hs
    obtain ⟨b', hb, rfl⟩ := hs
    refine wp_block (Code.wp_mono (fun e a w hq => ?_) (X_sound b hZ b' _ a w hb hn hd h))
    cases e with
    | exit j =>
      simp only [liftQ, blockX] at hq
      simp only [Exit.inBlock]
      split
      · rename_i hj; rw [if_pos hj] at hq; exact hq
      · rename_i hj; rw [if_neg hj] at hq; exact hq
    | _ => exact hq
  | .loop b, hZ, s, Q, a, w, hs, hn, hd, h => by
    simp only [slim, Option.map_eq_some_iff] at hs
    obtain ⟨b', hb, rfl⟩ := hs
    obtain ⟨I, μ, h0, h1⟩ := h
    refine wp_loop (fun a w => a.tmps.size = n ∧ Z a ∧ I (envOf a) w) (fun a w => μ (envOf a) w) ⟨hn, hd, h0⟩ ?_
    intro a w ⟨hn, hd, hI⟩
    refine Code.wp_mono (fun e a' w' hq => ?_) (X_sound b hZ b' _ a w hb hn hd (h1 _ _ hI))
    cases e with
    | normal => exact ⟨⟨hq.1, hq.2.1, hq.2.2.1⟩, hq.2.2.2⟩
    | _ => exact hq
  | .exit id, hZ, s, Q, a, w, hs, hn, hd, h => by
    simp only [slim, Option.some.injEq] at hs; subst hs
    exact wp_exit ⟨hn, hd, h⟩
  | .ret, hZ, s, Q, a, w, hs, hn, hd, h => by
    simp only [slim, Option.some.injEq] at hs; subst hs
    exact wp_ret ⟨hn, hd, h⟩
  | .rangeFunc .., hZ, s, Q, a, w, hs, _, _, _ => by cases hs
  | .scope _, hZ, s, Q, a, w, hs, _, _, _ => by cases hs
  | .label _, hZ, s, Q, a, w, hs, _, _, _ => by cases hs
  | .goto _, hZ, s, Q, a, w, hs, _, _, _ => by cases hs
  | .refuse _, hZ, s, Q, a, w, hs, _, _, _ => by cases hs

/-! ### Functions -/

inductive SR where
  | t (t : Nat)
  | c (n : Option Nat) (t : Nat)

structure SF where
  n : Nat
  res : List SR
  body : SC

def slimRes (P : Program) : ResultVar → Option SR
  | .tmp t => some (.t t)
  | .cell a t => match tyAgg P t with
    | some false => some (.c none a)
    | some true => (tySize P t).map fun n => .c (some n) a
    | none => none

def slimF (P : Program) (hints : List (Nat × ST × List OD)) (fn : Func) : Option SF :=
  match fn.body with
  | none => none
  | some c => match slim P fn.ntmps hints c, fn.results.toList.mapM (slimRes P) with
    | some s, some r => some ⟨fn.ntmps, r, s⟩
    | _, _ => none

/-- One result's value. -/
def resX (e : Env) (w : World) (r : SR) (K : Value → Prop) (_ : Dum K := ()) : Prop := match r with
  | .t t => K (e t)
  | .c none t => pX (e t) fun a => ldX (w.cell? a) K
  | .c (some n) t => pX (e t) fun a => ldX (rowOf w a n) fun l => K (.agg l.toArray)

def resL (e : Env) (w : World) : List SR → List Value → (List Value → Prop) → Prop
  | [], acc, K => K acc
  | r :: rs, acc, K => resX e w r (fun v => resL e w rs (acc ++ [v]) K)

def resV (l : List Value) : Value := match l with
  | [v] => v
  | l => .tuple l.toArray

def argEnv (args : List Value) : Env := fun i => args.getD i undef

def retQ (res : List SR) (Post : Value → World → Prop) : Ex → Env → World → Prop
  | .x _, _, _ => False
  | _, e, w => resL e w res [] fun l => Post (resV l) w

theorem resX_run {a : Act} {w : World} {r : ResultVar} {s : SR} {K : Value → Prop} (hs : slimRes P r = some s) (h : resX (envOf a) w s K) :
    ∃ v, ((match r with | .tmp t => pure (a.tmps.getD t undef) | .cell x t => do loadVar t (← asAddr (a.tmps.getD x undef))) : Sem Value).run P w = .ok v w ∧ K v := by
  cases r with
  | tmp t => simp only [slimRes, Option.some.injEq] at hs; subst hs; exact ⟨_, rfl, h⟩
  | cell x t =>
    simp only [slimRes] at hs
    split at hs
    · rename_i ht
      cases hs
      simp only [resX, pX] at h
      split at h
      · rename_i ad hx
        obtain ⟨v, hv, hk⟩ := h
        refine ⟨v, ?_, hk⟩
        have hx' : a.tmps.getD x undef = .pointer (some ad) := hx
        simp only [hx', asAddr, Sem.run_bind, Sem.run_pure, Result.andThen_ok, run_loadVar_scalar ht hv]
      · exact h.elim
    · rename_i ht
      simp only [Option.map_eq_some_iff] at hs; obtain ⟨k, hk, rfl⟩ := hs
      simp only [resX, pX] at h
      split at h
      · rename_i ad hx
        obtain ⟨v, hv, hK⟩ := h
        refine ⟨_, ?_, hK⟩
        have hx' : a.tmps.getD x undef = .pointer (some ad) := hx
        simp only [hx', asAddr, Sem.run_bind, Sem.run_pure, Result.andThen_ok, run_loadVar_agg ht hk hv]
      · exact h.elim
    · cases hs

theorem resL_run {a : Act} {w : World} : ∀ (rs : List ResultVar) (ss : List SR) (acc : List Value) (K : List Value → Prop), rs.mapM (slimRes P) = some ss → resL (envOf a) w ss acc K →
    ∃ vs, (rs.mapM (fun r => ((match r with | .tmp t => pure (a.tmps.getD t undef) | .cell x t => do loadVar t (← asAddr (a.tmps.getD x undef))) : Sem Value))).run P w = .ok vs w ∧ K (acc ++ vs)
  | [], ss, acc, K, hs, h => by simp at hs; subst hs; exact ⟨[], by simp, by simpa [resL] using h⟩
  | r :: rs, ss, acc, K, hs, h => by
    simp only [List.mapM_cons, Option.bind_eq_bind, Option.pure_def] at hs
    cases hr : slimRes P r with
    | none => simp [hr] at hs
    | some s =>
      cases hrs : rs.mapM (slimRes P) with
      | none => simp [hr, hrs] at hs
      | some ss' =>
        simp only [hr, hrs, Option.bind_some, Option.some.injEq] at hs; subst hs
        simp only [resL] at h
        obtain ⟨v, h1, h2⟩ := resX_run hr h
        obtain ⟨vs, h3, h4⟩ := resL_run rs ss' _ K hrs h2
        refine ⟨v :: vs, ?_, by simpa using h4⟩
        rw [List.mapM_cons, Sem.run_bind, h1, Result.andThen_ok, Sem.run_bind, h3]
        rfl

theorem ret_results {fn : Func} {s : List SR} {a : Act} {w : World} {K : List Value → Prop} (hs : fn.results.toList.mapM (slimRes P) = some s) (h : resL (envOf a) w s [] K) :
    ∃ vs, (results fn a.tmps).run P w = .ok (resV vs) w ∧ K vs := by
  obtain ⟨vs, h1, h2⟩ := resL_run (P := P) fn.results.toList s [] K hs h
  refine ⟨vs, ?_, h2⟩
  unfold results
  rw [Array.mapM_eq_mapM_toList, Sem.run_bind, Sem.run_map]
  refine Eq.trans (congrArg (fun r : Result (List Value) => (r.andThen fun a w' => Result.ok a.toArray w').andThen fun a w' => (pure (if h : a.size = 1 then a[0] else Value.tuple a) : Sem Value).run P w') h1) ?_
  simp only [Result.andThen_ok, Sem.run_pure, Result.ok.injEq, and_true]
  rcases vs with _ | ⟨v, _ | ⟨u, r⟩⟩
  · rfl
  · rfl
  · rw [dif_neg (by simp)]; rfl

/-- **A call.** -/
theorem calls_of_X {f : FuncId} {fn : Func} {hints : List (Nat × ST × List OD)} {s : SF} {args : List Value} {w : World} {R : Ending → World → Prop} (hf : P.funcs[f]? = some fn) (hs : slimF P hints fn = some s) (hn : args.length ≤ s.n)
    (h : X P (fun ch w => R (.panicked ch) w) s.body (retQ s.res fun v w => R (.returned v) w) (argEnv args) w) : Calls P f args.toArray w R := by
  unfold slimF at hs
  split at hs
  · cases hs
  · rename_i c hb
    split at hs
    · rename_i s' r hc hr
      cases hs
      refine calls_of_wp hf hb ?_
      have hsz : (args.toArray ++ Array.replicate (fn.ntmps - args.toArray.size) undef).size = fn.ntmps := by simp at hn ⊢; omega
      have henv : envOf { tmps := args.toArray ++ Array.replicate (fn.ntmps - args.toArray.size) undef, defers := [] } = argEnv args := by
        funext i
        simp only [envOf, argEnv, Array.getD_eq_getD_getElem?, List.getD_eq_getElem?_getD]
        rcases Nat.lt_or_ge i args.length with hi | hi
        · rw [Array.getElem?_append_left (by simpa using hi)]; simp
        · rw [Array.getElem?_append_right (by simpa using hi)]
          simp only [Array.getElem?_replicate, List.getElem?_eq_none hi]
          split <;> rfl
      refine Code.wp_mono (fun e a w hq => ?_) (X_sound (Z := fun a => a.defers = []) c (fun o _ a v => by rw [defers_put]) s' _ _ w hc hsz rfl (by rw [henv]; exact h))
      cases e with
      | normal =>
        obtain ⟨_, hd, hq⟩ := hq
        obtain ⟨vs, h1, h2⟩ := ret_results hr hq
        exact ⟨hd, _, h1, h2⟩
      | ret =>
        obtain ⟨_, hd, hq⟩ := hq
        obtain ⟨vs, h1, h2⟩ := ret_results hr hq
        exact ⟨hd, _, h1, h2⟩
      | panic ch => exact ⟨hq.2.1, hq.2.2⟩
      | exit id => exact hq.2.2.elim
      | goto l => exact hq.elim
      | outgrown => exact hq.elim
    · cases hs

end
end Go.Shu
