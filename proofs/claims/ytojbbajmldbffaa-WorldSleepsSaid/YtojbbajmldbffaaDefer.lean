/- Functions that defer one call; functions that recover. -/
import Derived.Test.YtojbbajmldbffaaRun
import Derived.Recover
set_option linter.unusedSimpArgs false
set_option linter.unusedVariables false
namespace Go.Shu
variable {P : Program}

/-- No operation here panics on purpose, or calls. -/
def SOp.calm : SOp → Bool
  | .call .. | .callv .. | .pan _ | .raw .. => false
  | _ => true
def DT.calm : DT → Bool
  | .n => true
  | .q _ _ r => r.calm
  | .x _ s r => s.op.calm && r.calm
  | .b l r => l.calm && r.calm
def SC.calm : SC → Bool
  | .ops l => l.all fun s => s.op.calm
  | .draw l => l.calm
  | .seq a b | .cond _ a b => a.calm && b.calm
  | .block _ b | .loop b => b.calm
  | .skip | .exit _ | .ret => true

theorem opX_calm (Kp Kp' : List PanicEntry → World → Prop) {e : Env} {w : World} {op : SOp} {K : Value → World → Prop} (hc : op.calm = true) : opX P e w op K Kp = opX P e w op K Kp' := by
  cases op <;> simp only [SOp.calm] at hc <;> first | rfl | cases hc
theorem Xs_calm (Kp Kp' : List PanicEntry → World → Prop) : ∀ (l : List SIns), (l.all fun s => s.op.calm) = true → Xs P Kp l = Xs P Kp' l
  | [], _ => rfl
  | s :: r, h => by
    simp only [List.all_cons, Bool.and_eq_true] at h
    funext K e w
    unfold Xs
    rw [Xs_calm Kp Kp' r h.2]
    have : ∀ K, opX P e w s.op K Kp = opX P e w s.op K Kp' := fun K => opX_calm Kp Kp' h.1
    rw [this]
theorem Xd_calm (Kp Kp' : List PanicEntry → World → Prop) : ∀ (l : DT), l.calm = true → Xd P Kp l = Xd P Kp' l
  | .n, _ => rfl
  | .q i s r, h => by
    funext pend K e w u
    unfold Xd
    rw [Xd_calm Kp Kp' r h]
  | .x sv s r, h => by
    simp only [DT.calm, Bool.and_eq_true] at h
    funext pend K e w u
    unfold Xd
    rw [Xd_calm Kp Kp' r h.2]
    have : ∀ K, opX P e w s.op K Kp = opX P e w s.op K Kp' := fun K => opX_calm Kp Kp' h.1
    rw [this]
  | .b l r, h => by
    simp only [DT.calm, Bool.and_eq_true] at h
    funext pend K e w u
    unfold Xd
    rw [Xd_calm Kp Kp' l h.1, Xd_calm Kp Kp' r h.2]
theorem X_calm (Kp Kp' : List PanicEntry → World → Prop) : ∀ (c : SC), c.calm = true → X P Kp c = X P Kp' c
  | .skip, _ => rfl
  | .ops l, h => by funext Q e w; unfold X; rw [Xs_calm Kp Kp' l h]
  | .draw l, h => by funext Q e w; unfold X; rw [Xd_calm Kp Kp' l h]
  | .seq a b, h => by
    simp only [SC.calm, Bool.and_eq_true] at h
    funext Q e w; unfold X; rw [X_calm Kp Kp' a h.1, X_calm Kp Kp' b h.2]
  | .cond c a b, h => by
    simp only [SC.calm, Bool.and_eq_true] at h
    funext Q e w; unfold X; rw [X_calm Kp Kp' a h.1, X_calm Kp Kp' b h.2]
  | .block id b, h => by funext Q e w; unfold X; rw [X_calm Kp Kp' b h]
  | .loop b, h => by funext Q e w; unfold X; rw [X_calm Kp Kp' b h]
  | .exit _, _ => rfl
  | .ret, _ => rfl

/-! ### What stands in one place, when it panics -/
def noDst (t : Nat) (c : Code) : Bool := (opsOf c).all fun o => o.dst != some t
def tailT (P : Program) (n : Nat) (hints : List (Nat × ST × List OD)) (t : Nat) : Code → Bool
  | .seq x y => (noDst t x && tailT P n hints t y) || noDst t (.seq x y) || (match slim P n hints (.seq x y) with | some s => s.calm | none => false)
  | c => noDst t c || (match slim P n hints c with | some s => s.calm | none => false)
def liftT (n : Nat) (ds : List Deferred) (t : Nat) (v : Value) (Q : Ex → Env → World → Prop) (Kp : List PanicEntry → World → Prop) : Exit → Act → World → Prop
  | .normal, a, w => a.tmps.size = n ∧ a.defers = ds ∧ Q .n (envOf a) w
  | .exit id, a, w => a.tmps.size = n ∧ a.defers = ds ∧ Q (.x id) (envOf a) w
  | .ret, a, w => a.tmps.size = n ∧ a.defers = ds ∧ Q .r (envOf a) w
  | .panic ch, a, w => a.tmps.size = n ∧ a.defers = ds ∧ envOf a t = v ∧ Kp ch w
  | _, _, _ => False

theorem env_put {a : Act} {o : Oper} {t : Nat} (h : (o.dst != some t) = true) (v : Value) : envOf (a.put o.dst v) t = envOf a t := by
  cases hd : o.dst with
  | none => rfl
  | some d =>
    rw [hd] at h
    have hne : d ≠ t := by intro e; subst e; simp at h
    simp [Act.put, envOf, Array.getD_eq_getD_getElem?, Array.getElem?_setIfInBounds, hne]

section
variable {n : Nat} {ds : List Deferred} {hints : List (Nat × ST × List OD)} {Kp : List PanicEntry → World → Prop} {t : Nat} {v : Value}
theorem X_soundZ {c : Code} {s : SC} {Q : Ex → Env → World → Prop} {a : Act} {w : World} (hc : noDst t c = true) (hs : slim P n hints c = some s) (hn : a.tmps.size = n) (hd : a.defers = ds) (hv : envOf a t = v) (h : X P Kp s Q (envOf a) w) :
    c.wp P (liftQ n (fun a => a.defers = ds ∧ envOf a t = v) Q Kp) a w :=
  X_sound c (fun o ho a u => by rw [defers_put, env_put (List.all_eq_true.1 hc o ho)]) s Q a w hs hn ⟨hd, hv⟩ h
theorem X_soundC {c : Code} {s : SC} {Q : Ex → Env → World → Prop} {a : Act} {w : World} (hc : s.calm = true) (hs : slim P n hints c = some s) (hn : a.tmps.size = n) (hd : a.defers = ds) (h : X P Kp s Q (envOf a) w) :
    c.wp P (liftT n ds t v Q Kp) a w := by
  rw [X_calm Kp (fun _ _ => False) s hc] at h
  refine Code.wp_mono (fun e a w hq => ?_) (X_sound (Z := fun a => a.defers = ds) c (fun o _ a v => by rw [defers_put]) s Q a w hs hn hd h)
  cases e <;> first | exact hq | exact hq.2.2.elim | exact hq.elim
theorem X_soundT : ∀ (c : Code) (s : SC) (Q : Ex → Env → World → Prop) (a : Act) (w : World), tailT P n hints t c = true → slim P n hints c = some s → a.tmps.size = n → a.defers = ds → envOf a t = v → X P Kp s Q (envOf a) w →
    c.wp P (liftT n ds t v Q Kp) a w := by
  have base : ∀ (c : Code) (s : SC) (Q : Ex → Env → World → Prop) (a : Act) (w : World), (noDst t c || (match slim P n hints c with | some s => s.calm | none => false)) = true → slim P n hints c = some s → a.tmps.size = n → a.defers = ds → envOf a t = v → X P Kp s Q (envOf a) w →
      c.wp P (liftT n ds t v Q Kp) a w := by
    intro c s Q a w ht hs hn hd hv h
    rw [hs] at ht
    rcases Bool.or_eq_true _ _ ▸ ht with ht | ht
    · refine Code.wp_mono (fun e a w hq => ?_) (X_soundZ ht hs hn hd hv h)
      cases e <;> first | exact ⟨hq.1, hq.2.1.1, hq.2.2⟩ | exact ⟨hq.1, hq.2.1.1, hq.2.1.2, hq.2.2⟩ | exact hq.elim
    · exact X_soundC ht hs hn hd h
  intro c
  induction c with
  | seq x y _ ihy =>
    intro s Q a w ht hs hn hd hv h
    simp only [tailT, Bool.or_eq_true, Bool.and_eq_true] at ht
    rcases ht with (ht | ht) | ht
    · simp only [slim] at hs
      cases hx : slim P n hints x with
      | none => simp [hx] at hs
      | some x' =>
        cases hy : slim P n hints y with
        | none => simp [hx, hy] at hs
        | some y' =>
          simp only [hx, hy, Option.some.injEq] at hs; subst hs
          refine wp_seq (Code.wp_mono (fun e a w hq => ?_) (X_soundZ ht.1 hx hn hd hv h))
          cases e with
          | normal => exact ihy y' Q a w ht.2 hy hq.1 hq.2.1.1 hq.2.1.2 hq.2.2
          | exit id => exact ⟨hq.1, hq.2.1.1, hq.2.2⟩
          | ret => exact ⟨hq.1, hq.2.1.1, hq.2.2⟩
          | panic ch => exact ⟨hq.1, hq.2.1.1, hq.2.1.2, hq.2.2⟩
          | _ => exact hq.elim
    · exact base _ s Q a w (by simp [ht]) hs hn hd hv h
    · exact base _ s Q a w (by simp only [Bool.or_eq_true]; exact .inr ht) hs hn hd hv h
  | _ => intro s Q a w ht hs hn hd hv h; exact base _ s Q a w ht hs hn hd hv h
end

/-! ### A call is deferred -/
def SR.slot (r : SR) : Nat := match r with
  | SR.t k => k
  | SR.c _ k => k
structure SFD where
  n : Nat
  res : List SR
  slot : Nat
  l0 : List SIns
  o1 : SIns
  f : Operand
  args : List Operand
  rest : SC

def slimD2 (o2 : Oper) : Option (Operand × List Operand) :=
  match o2.op, o2.guard, o2.dst with
  | .defer ⟨.value f, args, _⟩, none, none => some (f, args.toList)
  | _, _, _ => none
def slotOf (n : Nat) : List SR → Option Nat
  | [] => some n
  | [r] => some r.slot
  | _ => none
def slimFD (P : Program) (hints : List (Nat × ST × List OD)) (fn : Func) : Option SFD :=
  match fn.body with
  | some (.seq (.region _ ops0 false) (.seq (.region _ ops1 false) rest)) =>
    match ops1.toList, slimList P fn.ntmps ops0.toList ops0.toList, slim P fn.ntmps hints rest, fn.results.toList.mapM (slimRes P) with
    | [o1, o2], some l0, some r, some rs =>
      match slimIns P fn.ntmps [o1, o2] o1, slimD2 o2, slotOf fn.ntmps rs with
      | some i1, some (f, args), some t => if tailT P fn.ntmps hints t rest then some ⟨fn.ntmps, rs, t, l0, i1, f, args, r⟩ else none
      | _, _, _ => none
    | _, _, _, _ => none
  | _ => none

def endX (res : List SR) (e : Env) (u : FrameMode) (w : World) (R : Ending → World → Prop) : Prop := match u with
  | .returning => resL e w res [] fun l => R (.returned (resV l)) w
  | .panicking ch => R (.panicked ch) w
  | .run => False
def deferX (P : Program) (k : FuncId) (dargs : List Value) (res : List SR) (e : Env) (u : FrameMode) (w : World) (R : Ending → World → Prop) : Prop :=
  CallsD P k dargs.toArray u w fun en u' w' => match en with
    | .returned _ => endX res e (settle u') w' R
    | .panicked ch => endX res e (raised u' ch) w' R
    | .outgrown => False
def retD (P : Program) (k : FuncId) (dargs : List Value) (res : List SR) (R : Ending → World → Prop) : Ex → Env → World → Prop
  | .n, e, w => deferX P k dargs res e .returning w R
  | .r, e, w => deferX P k dargs res e .returning w R
  | .x _, _, _ => False
def onlyN (K : Env → World → Prop) : Ex → Env → World → Prop
  | .n => K
  | _ => fun _ _ => False

theorem endX_leaves {fn : Func} {res : List SR} {a : Act} {u : FrameMode} {w : World} {R : Ending → World → Prop} (hr : fn.results.toList.mapM (slimRes P) = some res) (h : endX res (envOf a) u w R) : Leaves P fn a.tmps R [] u w := by
  unfold endX at h
  split at h
  · obtain ⟨vs, h1, h2⟩ := ret_results (a := a) (K := fun l => R (.returned (resV l)) w) hr h
    exact ⟨_, h1, h2⟩
  · exact h
  · exact h.elim
theorem endX_const {n : Nat} {res : List SR} {t : Nat} {e : Env} {u : FrameMode} {w : World} {R : Ending → World → Prop} (ht : slotOf n res = some t) (h : endX res (fun _ => e t) u w R) : endX res e u w R := by
  unfold endX at h ⊢
  split at h
  · rcases res with _ | ⟨r, _ | ⟨r2, rs⟩⟩
    · exact h
    · simp only [slotOf, Option.some.injEq] at ht
      subst ht
      cases r with
      | t t => exact h
      | c m t => cases m <;> exact h
    · cases ht
  · exact h
  · exact h.elim

theorem calls_of_XD {f : FuncId} {fn : Func} {hints : List (Nat × ST × List OD)} {sd : SFD} {args : List Value} {w : World} {R : Ending → World → Prop} (hf : P.funcs[f]? = some fn) (hs : slimFD P hints fn = some sd) (hn : args.length ≤ sd.n)
    (h : Xs P (fun _ _ => False) sd.l0 (fun e w => Xs P (fun _ _ => False) [sd.o1] (fun e w => ∃ k first cap, ev e sd.f = .func (.func k) first cap ∧ callable P k = true ∧
      X P (fun ch w' => deferX P k (first.toList ++ vals e sd.args ++ cap.toList) sd.res (fun _ => e sd.slot) (.panicking ch) w' R) sd.rest (retD P k (first.toList ++ vals e sd.args ++ cap.toList) sd.res R) e w) e w) (argEnv args) w) : Calls P f args.toArray w R := by
  unfold slimFD at hs
  split at hs
  · rename_i id0 ops0 id1 ops1 rest hb
    split at hs
    · rename_i o1 o2 l0 r rs hops hl0 hr hrs
      split at hs
      · rename_i i1 fo fargs t hi1 hd2 ht
        split at hs
        · rename_i htail
          cases hs
          refine calls_of_wp_defers hf hb ?_
          have hsz : (args.toArray ++ Array.replicate (fn.ntmps - args.toArray.size) undef).size = fn.ntmps := by simp at hn ⊢; omega
          have henv : envOf { tmps := args.toArray ++ Array.replicate (fn.ntmps - args.toArray.size) undef, defers := [] } = argEnv args := by
            funext i
            simp only [envOf, argEnv, Array.getD_eq_getD_getElem?, List.getD_eq_getElem?_getD]
            rcases Nat.lt_or_ge i args.length with hi | hi
            · rw [Array.getElem?_append_left (by simpa using hi)]; simp
            · rw [Array.getElem?_append_right (by simpa using hi)]
              simp only [Array.getElem?_replicate, List.getElem?_eq_none hi]
              split <;> rfl
          have hs0 : slim P fn.ntmps hints (.region id0 ops0 false) = some (.ops l0) := by simp only [slim, hl0, Option.map_some]
          refine wp_seq (Code.wp_mono (fun e a w hq => ?_) (X_sound (Z := fun a => a.defers = []) (Kp := fun _ _ => False) (.region id0 ops0 false) (fun o _ a v => by rw [defers_put]) (.ops l0) (onlyN _) _ w hs0 hsz rfl (by rw [henv]; exact h)))
          cases e with
          | normal =>
            obtain ⟨hn0, hd0, h0⟩ := hq
            refine wp_seq (wp_region_list ?_)
            rw [hops]
            have hi1' : slimIns P fn.ntmps ops1.toList o1 = some i1 := by rw [hops]; exact hi1
            obtain ⟨e1, e2, e3, _⟩ := slimIns_spec hi1'
            simp only [Xs] at h0
            have last : ∀ (a : Act) (w : World), a.tmps.size = fn.ntmps → a.defers = [] → (∃ k first cap, ev (envOf a) fo = .func (.func k) first cap ∧ callable P k = true ∧
                X P (fun ch w' => deferX P k (first.toList ++ vals (envOf a) fargs ++ cap.toList) rs (fun _ => envOf a t) (.panicking ch) w' R) r (retD P k (first.toList ++ vals (envOf a) fargs ++ cap.toList) rs R) (envOf a) w) →
                wpList P ops1 (Exit.then (rest.wp P (bodyPostD P fn R)) (bodyPostD P fn R)) [o2] a w := by
              intro a w hn1 hd1 ⟨k, first, cap, hfv, hcall, hX⟩
              unfold slimD2 at hd2
              split at hd2
              · rename_i fo' args' tys hop hg hdst
                cases hd2
                unfold wpList
                rw [if_pos (by simp [Region.wanted, hg])]
                refine .inl ?_
                have hrun : (execOp a.eval o2).run P w = .ok (.defer { target := .fn (.func k) cap, args := first ++ args'.map a.eval }) w := by
                  unfold execOp
                  rw [hop]
                  simp only [resolve, eval_envOf, hfv, Deferred.ofValue]
                  rfl
                unfold Oper.wp
                rw [hrun, Oper.upon_defer, hdst, hd1]
                show rest.wp P (bodyPostD P fn R) { a with defers := [_] } w
                have hargs : (first ++ args'.map a.eval) ++ cap = (first.toList ++ vals (envOf a) args'.toList ++ cap.toList).toArray := by
                  apply Array.ext'
                  simp [vals, eval_envOf]
                have leave : ∀ (a' : Act) (u : FrameMode) (w' : World) (e : Env), u ≠ .run → a'.defers = [({ target := .fn (.func k) cap, args := first ++ args'.map a.eval } : Deferred)] → (∀ u w, endX rs e u w R → endX rs (envOf a') u w R) →
                    deferX P k (first.toList ++ vals (envOf a) args'.toList ++ cap.toList) rs e u w' R → Leaves P fn a'.tmps R a'.defers u w' := by
                  intro a' u w' e hu hd' hE hdx
                  rw [hd']
                  refine leaves_cons (f := k) (args := (first.toList ++ vals (envOf a) args'.toList ++ cap.toList).toArray) hu ?_ ?_
                  · rw [← hargs]
                    exact callFunc_enter hcall _ _
                  · refine CallsD.mono hdx fun en u' w'' hen => ?_
                    cases en with
                    | returned v => exact endX_leaves hrs (hE _ _ hen)
                    | panicked ch => exact endX_leaves hrs (hE _ _ hen)
                    | outgrown => exact hen.elim
                refine Code.wp_mono (fun e a' w' hq => ?_) (X_soundT (t := t) (v := envOf a t) rest r _ _ w htail hr (by exact hn1) rfl rfl hX)
                cases e with
                | normal => exact leave a' .returning w' (envOf a') (by simp) hq.2.1 (fun _ _ h => h) hq.2.2
                | ret => exact leave a' .returning w' (envOf a') (by simp) hq.2.1 (fun _ _ h => h) hq.2.2
                | panic ch => exact leave a' (.panicking ch) w' (fun _ => envOf a t) (by simp) hq.2.1 (fun u w h => endX_const ht (by rw [hq.2.2.1]; exact h)) hq.2.2.2
                | exit id => exact hq.2.2.elim
                | goto l => exact hq.elim
                | outgrown => exact hq.elim
              · cases hd2
            unfold wpList
            rcases gX_spec hn0 hi1' h0 with ⟨hw, h0⟩ | ⟨hw, h0⟩
            · rw [if_pos hw]
              refine .inl (opX_sound (eval_envOf a) e2 h0 (fun v w' hk => ?_) fun ch w' hk => hk.elim)
              rw [e1, ← envOf_put hn0 e3] at hk
              exact last _ w' (by rw [size_put]; exact hn0) (by rw [defers_put]; exact hd0) hk
            · rw [if_neg (by simp [hw])]
              rw [e1, ← envOf_put hn0 e3] at h0
              exact last _ w (by rw [size_put]; exact hn0) (by rw [defers_put]; exact hd0) h0
          | exit id => exact hq.2.2.elim
          | ret => exact hq.2.2.elim
          | panic ch => exact hq.2.2.elim
          | goto l => exact hq.elim
          | outgrown => exact hq.elim
        · cases hs
      · cases hs
    · cases hs
  · cases hs

/-! ### A deferred function recovers -/
structure SFR where
  n : Nat
  d : Nat
  res : List SR
  rest : SC
def isRecover (o : Oper) : Option Nat :=
  match o.op, o.guard with
  | .call ⟨.builtin .recover, args, _⟩, none => if args.size = 0 then o.dst else none
  | _, _ => none
def slimFR (P : Program) (hints : List (Nat × ST × List OD)) (fn : Func) : Option SFR :=
  match fn.body with
  | some (.seq (.region _ ops0 false) rest) =>
    match ops0.toList, slim P fn.ntmps hints rest, fn.results.toList.mapM (slimRes P) with
    | [o], some r, some rs => match isRecover o with
      | some d => if d < fn.ntmps then some ⟨fn.ntmps, d, rs, r⟩ else none
      | none => none
    | _, _, _ => none
  | _ => none
def recV : FrameMode → Value × FrameMode
  | .panicking ({ v, recovered := false, goexit := false } :: older) => (v, .panicking ({ v, recovered := true } :: older))
  | u => (.nilIface, u)

theorem recoverD_recV (c₀ : Frame) (cs : List Frame) : recoverD (c₀ :: cs) = some ((recV c₀.mode).1, { c₀ with mode := (recV c₀.mode).2 } :: cs) ∨ (recoverD (c₀ :: cs) = none ∧ recV c₀.mode = (.nilIface, c₀.mode)) := by
  obtain ⟨fn, tmps, todo, defers, mode, kind, roundOf⟩ := c₀
  rcases mode with _ | _ | l
  · right; exact ⟨rfl, rfl⟩
  · right; exact ⟨rfl, rfl⟩
  · rcases l with _ | ⟨⟨v, rc, go⟩, older⟩
    · right; exact ⟨rfl, rfl⟩
    · cases rc <;> cases go
      · left; rfl
      · right; exact ⟨rfl, rfl⟩
      · right; exact ⟨rfl, rfl⟩
      · right; exact ⟨rfl, rfl⟩

theorem callsD_of_XR {f : FuncId} {fn : Func} {hints : List (Nat × ST × List OD)} {sr : SFR} {args : List Value} {u : FrameMode} {w : World} {R : Ending → FrameMode → World → Prop} (hf : P.funcs[f]? = some fn) (hs : slimFR P hints fn = some sr) (hn : args.length ≤ sr.n)
    (h : X P (fun ch w => R (.panicked ch) (recV u).2 w) sr.rest (retQ sr.res fun v w => R (.returned v) (recV u).2 w) (upd (argEnv args) sr.d (recV u).1) w) : CallsD P f args.toArray u w R := by
  unfold slimFR at hs
  split at hs
  · rename_i id0 ops0 rest hb
    split at hs
    · rename_i o r rs hops hr hrs
      split at hs
      · rename_i d hd
        split at hs
        · rename_i hdn
          cases hs
          refine callsD_of_wpS hf hb fun c₀ cs hu => ?_
          have hsz : (args.toArray ++ Array.replicate (fn.ntmps - args.toArray.size) undef).size = fn.ntmps := by simp at hn ⊢; omega
          have henv : envOf { tmps := args.toArray ++ Array.replicate (fn.ntmps - args.toArray.size) undef, defers := [] } = argEnv args := by
            funext i
            simp only [envOf, argEnv, Array.getD_eq_getD_getElem?, List.getD_eq_getElem?_getD]
            rcases Nat.lt_or_ge i args.length with hi | hi
            · rw [Array.getElem?_append_left (by simpa using hi)]; simp
            · rw [Array.getElem?_append_right (by simpa using hi)]
              simp only [Array.getElem?_replicate, List.getElem?_eq_none hi]
              split <;> rfl
          refine wpS_seq (wpS_region ?_)
          have hsize : ops0.size = 1 := by have := congrArg List.length hops; simpa using this
          have h0 : ops0[0]? = some o := by
            have : ops0.toList[0]? = some o := by rw [hops]; rfl
            simpa using this
          rw [hsize]
          show wpOpsS P ops0 _ [0] _ _ _
          unfold isRecover at hd
          split at hd
          · rename_i args' tys hop hg
            split at hd
            · rename_i hz
              have hrun : ∀ (a : Act), (execOp a.eval o).run P w = .ok .recover w := by
                intro a
                unfold execOp
                rw [hop]
                rfl
              have hput : ∀ (a : Act) (v : Value), a.tmps.size = fn.ntmps → envOf (a.put o.dst v) = upd (envOf a) d v := by
                intro a v ha
                rw [hd]
                exact envOf_put (d := some d) ha (fun k hk => by cases hk; exact hdn) v
              have hwant : ∀ y, Region.wanted o y = true := fun y => by simp [Region.wanted, hg]
              have fin : rest.wpS P (bodyPostS P fn c₀ cs R) (({ tmps := args.toArray ++ Array.replicate (fn.ntmps - args.toArray.size) undef, defers := [] } : Act).put o.dst (recV u).1) ({ c₀ with mode := (recV u).2 } :: cs) w := by
                refine wpS_of_wp (Code.wp_mono (fun e a w hq => ?_) (X_sound (Z := fun a => a.defers = []) rest (fun o _ a v => by rw [defers_put]) r _ _ w hr (by rw [size_put]; exact hsz) (by rw [defers_put]) (by rw [hput _ _ hsz, henv]; exact h)))
                cases e with
                | normal =>
                  obtain ⟨_, hdf, hq⟩ := hq
                  obtain ⟨vs, h1, h2⟩ := ret_results hrs hq
                  exact ⟨hdf, _, rfl, _, h1, h2⟩
                | ret =>
                  obtain ⟨_, hdf, hq⟩ := hq
                  obtain ⟨vs, h1, h2⟩ := ret_results hrs hq
                  exact ⟨hdf, _, rfl, _, h1, h2⟩
                | panic ch => exact ⟨hq.2.1, _, rfl, hq.2.2⟩
                | exit id => exact hq.2.2.elim
                | goto l => exact hq.elim
                | outgrown => exact hq.elim
              simp only [wpOpsS, h0, hwant, if_true, hrun]
              subst hu
              rcases recoverD_recV c₀ cs with hrc | ⟨hrc, hv⟩
              · rw [hrc]; exact fin
              · rw [hrc]
                rw [hv] at fin
                exact fin
            · cases hd
          · cases hd
        · cases hs
      · cases hs
    · cases hs
  · cases hs
end Go.Shu
