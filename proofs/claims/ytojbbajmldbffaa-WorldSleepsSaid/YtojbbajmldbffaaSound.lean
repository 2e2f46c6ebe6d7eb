/- The plain wp is sound. -/
import Derived.Test.YtojbbajmldbffaaX
import Derived.Laws.Tables
set_option linter.unusedSimpArgs false
set_option linter.unusedVariables false
namespace Go.Shu

section
variable {P : Program}

theorem run_underlying' {t : TypeId} {d : TypeDesc} (h : P.underlying t = some d) (w : World) : (underlying t).run P w = .ok d w := by
  simp [underlying, h]
theorem run_typeInfo' {t : TypeId} {i : TypeInfo} (h : P.info? t = some i) (w : World) : (typeInfo t).run P w = .ok i w := by
  simp [typeInfo, h]
theorem run_sizeOf' {t : TypeId} {n : Nat} (h : tySize P t = some n) (w : World) : (sizeOf t).run P w = .ok n w := by
  unfold tySize at h
  cases hi : P.info? t with
  | none => simp [hi] at h
  | some i => simp [hi] at h; simp [sizeOf, run_typeInfo' hi, h]
theorem run_zeroValue' {t : TypeId} {z : Array Value} (h : tyZero P t = some z) (w : World) : ∃ v, v.cells = z ∧ (zeroValue t).run P w = .ok v w := by
  unfold tyZero at h
  cases hi : P.info? t with
  | none => simp [hi] at h
  | some i =>
    cases hz : i.zero with
    | none => simp [hi, hz] at h
    | some v => simp [hi, hz] at h; exact ⟨v, h, by simp [zeroValue, run_typeInfo' hi, hz]⟩
theorem run_isAgg' {t : TypeId} {b : Bool} (h : tyAgg P t = some b) (w : World) : (isAgg t).run P w = .ok b w := by
  unfold tyAgg at h
  cases hu : P.underlying t with
  | none => simp [hu] at h
  | some d =>
    simp only [hu, Option.map_some, Option.some.injEq] at h
    unfold isAgg
    simp only [Sem.run_bind, run_underlying' hu, Result.andThen_ok]
    cases d <;> simp_all

theorem add_none' {a : Addr} (h : a.spot = none) (n : Nat) : a.add n = ⟨a.block, a.off + n, none⟩ := by
  unfold Addr.add
  split
  · rename_i h0; subst h0; cases a; simp_all
  · rfl

theorem cell_of_rowOf {w : World} {a : Addr} {n : Nat} {l : List Value} (h : rowOf w a n = some l) : l.length = n ∧ ∀ j v, l[j]? = some v → w.cell? (a.add j) = some v := by
  unfold rowOf at h
  split at h
  · rename_i c T fz hb
    split at h
    · rename_i hc
      simp only [Bool.and_eq_true, Option.isNone_iff_eq_none, decide_eq_true_eq] at hc
      obtain ⟨hs, hn⟩ := hc
      cases h
      refine ⟨by simp; omega, fun j v hj => ?_⟩
      have hj' : j < n ∧ c.toList[a.off + j]? = some v := by
        rw [List.getElem?_take] at hj
        split at hj
        · rw [List.getElem?_drop] at hj; exact ⟨by assumption, hj⟩
        · cases hj
      rw [add_none' hs]
      simp only [World.cell?, hb, Option.isSome_none]
      simpa using hj'.2
    · cases h
  · cases h

theorem run_loadCells' {w : World} {a : Addr} {n : Nat} {l : List Value} (h : rowOf w a n = some l) : (loadCells a n).run P w = .ok l.toArray w := by
  obtain ⟨h1, h2⟩ := cell_of_rowOf h
  have := run_loadCells_list (P := P) w a l h2
  rw [h1] at this
  exact this

theorem run_load' {w : World} {a : Addr} {v : Value} (h : w.cell? a = some v) (m : Mode) : (load a m).run P w = .ok v w := by simp [h]

theorem run_loadVar_scalar {w : World} {t : TypeId} {a : Addr} {v : Value} (ht : tyAgg P t = some false) (h : w.cell? a = some v) : (loadVar t a).run P w = .ok v w := by
  simp [loadVar, run_isAgg' ht, h]
theorem run_loadVar_agg {w : World} {t : TypeId} {a : Addr} {n : Nat} {l : List Value} (ht : tyAgg P t = some true) (hn : tySize P t = some n) (h : rowOf w a n = some l) : (loadVar t a).run P w = .ok (.agg l.toArray) w := by
  simp [loadVar, run_isAgg' ht, run_sizeOf' hn, run_loadCells' h]

theorem add_none {a : Addr} (h : a.spot = none) (n : Nat) : a.add n = ⟨a.block, a.off + n, none⟩ := by
  unfold Addr.add
  split
  · rename_i h0; subst h0; cases a; simp_all
  · rfl

theorem setCell_setObj {w : World} {b off : Nat} {c : Array Value} {T : TypeId} {v : Value} (hb : w.heap[b]? = some (.cells c T (0, 0))) :
    w.setCell ⟨b, off, none⟩ v = setObj w b (.cells (c.setIfInBounds off v) T (0, 0)) := by
  unfold World.setCell setObj
  congr 1
  apply Array.ext_getElem?
  intro i
  rw [Array.getElem?_modify, Array.getElem?_setIfInBounds]
  split
  · rename_i h
    subst h
    have hlt : b < w.heap.size := (Array.getElem?_eq_some_iff.1 hb).1
    have hg : w.heap[b] = .cells c T (0, 0) := by simpa [hlt] using hb
    simp [hlt, hg]
  · rfl

theorem setObj_setObj (w : World) (b : Nat) (o o' : Obj) : setObj (setObj w b o) b o' = setObj w b o' := by
  unfold setObj; simp

theorem heap_setObj_same {w : World} {b : Nat} {o : Obj} (h : b < w.heap.size) : (setObj w b o).heap[b]? = some o := by
  simp [setObj, h]

theorem run_storeCells' : ∀ (vs : List Value) (w : World) (a : Addr) (i : Nat) (c : List Value) (T : TypeId), w.heap[a.block]? = some (.cells c.toArray T (0, 0)) → a.spot = none → a.off + i + vs.length ≤ c.length →
    vs.all Value.oneCell' = true → (storeCells a vs i).run P w = .ok () (setObj w a.block (.cells (putL c (a.off + i) vs).toArray T (0, 0)))
  | [], w, a, i, c, T, hb, _, _, _ => by
    simp only [storeCells, Sem.run_pure, putL]
    congr 1
    have hlt : a.block < w.heap.size := (Array.getElem?_eq_some_iff.1 hb).1
    unfold setObj
    have : w.heap.setIfInBounds a.block (.cells c.toArray T (0, 0)) = w.heap := by
      apply Array.ext_getElem?
      intro j
      rw [Array.getElem?_setIfInBounds]
      split
      · rename_i h
        subst h
        rw [hb]
      · rfl
    rw [this]
  | v :: r, w, a, i, c, T, hb, hs, hn, hv => by
    simp only [List.length_cons] at hn
    simp only [List.all_cons, Bool.and_eq_true] at hv
    have hlt : a.block < w.heap.size := (Array.getElem?_eq_some_iff.1 hb).1
    have hcell : w.cell? (a.add i) = some c[a.off + i] := by
      rw [add_none hs]; simp only [World.cell?, hb]
      simp
    have hfz : w.frozen? (a.add i) = false := by
      rw [add_none hs]; simp [World.frozen?, hb]
    have h1 : (store (a.add i) v).run P w = .ok () (w.setCell (a.add i) v) := by
      rw [run_store P w _ v _ hv.1, hcell]; simp [hfz]
    simp only [storeCells, Sem.run_bind, h1, Result.andThen_ok]
    rw [add_none hs, setCell_setObj hb]
    have h2 : c.toArray.setIfInBounds (a.off + i) v = (c.set (a.off + i) v).toArray := by simp
    rw [h2]
    have hb' : (setObj w a.block (.cells (c.set (a.off + i) v).toArray T (0, 0))).heap[a.block]? = some (.cells (c.set (a.off + i) v).toArray T (0, 0)) := heap_setObj_same hlt
    have h3 := run_storeCells' r (setObj w a.block (.cells (c.set (a.off + i) v).toArray T (0, 0))) a (i + 1) (c.set (a.off + i) v) T hb' hs (by simp; omega) hv.2
    rw [show a.off + (i + 1) = a.off + i + 1 from rfl] at h3
    rw [h3, setObj_setObj]
    rfl

theorem run_storeVar' {w : World} {t : TypeId} {a : Addr} {v : Value} {n : Nat} {K : World → Prop} (hn : tySize P t = some n) (hv : v.cells.toList.length = n) (h : stX w a v.cells.toList K) :
    ∃ w', (storeVar t a v).run P w = .ok () w' ∧ K w' := by
  obtain ⟨c, T, hb, hs, hl, h1, hK⟩ := h
  refine ⟨_, ?_, hK⟩
  have := run_storeCells' (P := P) v.cells.toList w a 0 c.toList T (by simpa using hb) hs (by simpa using hl) h1
  simp only [Nat.add_zero] at this
  have hv' : v.cells.size = n := by simpa using hv
  simp [storeVar, run_sizeOf' hn, hv', this]

theorem fold_putL : ∀ (vs : List Value) (c : List Value) (off k : Nat), (vs.zipIdx k).foldl (fun (cs : Array Value) (p : Value × Nat) => cs.setIfInBounds (off + p.2) p.1) c.toArray = (putL c (off + k) vs).toArray
  | [], c, off, k => by simp [putL]
  | v :: r, c, off, k => by
    rw [List.zipIdx_cons, List.foldl_cons, putL]
    have : c.toArray.setIfInBounds (off + k) v = (c.set (off + k) v).toArray := by simp
    rw [this, fold_putL r]; rfl

theorem fill_fillL {place : Nat → Option (Nat × Nat)} {e : Env} {ev' : Operand → Value} (he : ∀ x, ev' x = ev e x) : ∀ (parts : List (Nat × Operand)) (ps : List (Nat × Nat × Operand)) (c l : List Value), slimParts place parts = some ps → fillL c (pvals e ps) = some l →
    Instr.fill place c.toArray (parts.map fun p => (p.1, ev' p.2)) = some l.toArray
  | [], ps, c, l, hp, h => by
    simp only [slimParts, Option.some.injEq] at hp; subst hp
    simp only [pvals, List.map_nil, fillL, Option.some.injEq] at h; subst h
    rfl
  | (i, x) :: r, ps, c, l, hp, h => by
    simp only [slimParts] at hp
    cases hpl : place i with
    | none => simp [hpl] at hp
    | some os =>
      obtain ⟨off, s⟩ := os
      cases hr : slimParts place r with
      | none => simp [hpl, hr] at hp
      | some ps' =>
        simp only [hpl, hr, Option.some.injEq] at hp; subst hp
        simp only [pvals, List.map_cons, fillL] at h
        split at h
        · rename_i hc
          have ih := fill_fillL he r ps' _ l hr h
          rw [← he x] at ih
          simp only [List.map_cons, Instr.fill, hpl]
          simp only [he x] at ih ⊢
          have h1 : ¬ ((ev e x).cells.size ≠ s ∨ off + (ev e x).cells.size > c.length) := by
            have := hc.1; simp at this; omega
          have h2 := fold_putL (ev e x).cells.toList c off 0
          rw [Nat.add_zero] at h2
          have h3 : Array.foldl (fun (cs : Array Value) (x : Value × Nat) => cs.setIfInBounds (off + x.2) x.1) c.toArray ((ev e x).cells.zipIdx) = (putL c off (ev e x).cells.toList).toArray := by
            rw [← h2, ← Array.foldl_toList]; simp
          simp only [Bool.or_eq_true, decide_eq_true_eq, List.size_toArray]
          rw [if_neg h1, h3]
          exact ih
        · cases h

theorem vals_map {e : Env} {ev' : Operand → Value} (he : ∀ x, ev' x = ev e x) (l : Array Operand) : (l.map ev').toList = vals e l.toList := by
  simp [vals, List.map_congr_left (fun x _ => he x)]


theorem binOp_binV {op : BinOp} {t : TypeId} {x y v : Value} (h : binV op x y = some v) (w : World) : (binOp op t x y).run P w = .ok v w := by
  unfold binV at h
  split at h
  · rename_i k a k' b
    split at h
    · rename_i hop
      unfold shV at h
      split at h
      · cases h
      · rename_i hb
        rcases hop with rfl | rfl <;> simp at h <;> subst h <;> simp [binOp, Op.shift, hb] <;> rfl
    · rename_i hop
      split at h
      · rename_i hk; subst hk
        cases op <;> simp only [intV, reduceCtorEq, Option.some.injEq, or_self, not_true_eq_false, or_true, true_or] at h hop <;>
          first
            | (subst h; simp [binOp, Op.intArith]; done)
            | (subst h; simp [binOp, Op.intBits]; done)
            | (subst h; simp [binOp, Op.intCmp, decide_eq_decide]; done)
            | (split at h <;> first | (cases h; done) | (rename_i hb; cases h; simp [binOp, Op.intDiv, hb]; done))
            | (subst h; simp only [binOp, Op.intCmp]; by_cases hab : a = b <;> simp [hab])
            | skip
      · cases h
  · rename_i a b
    cases op <;> simp at h <;> first | (subst h; simp [binOp, Op.stringOp]; done) | skip
    obtain ⟨h1, h2⟩ := h
    subst h2
    simp [binOp, Op.stringOp]
    omega
  · cases h

theorem eqGuard_bin {op : BinOp} {t : TypeId} {x y : Operand} {a b v : Value} (h : binV op a b = some v) (w : World) : (eqGuard op t x y a b).run P w = .ok () w := by
  unfold binV at h
  unfold eqGuard
  split at h
  · split <;> simp
  · split <;> simp
  · cases h

theorem run_equal_bool {t : TypeId} (ht : P.underlying t = some .bool) (a b : Bool) (w : World) : (Op.equal t (.bool a) (.bool b)).run P w = .ok (a == b) w := by
  have h1 : ∀ n, (Op.equalIn (n + 1) t (.bool a) (.bool b)).run P w = .ok (a == b) w := fun n => by
    rw [Op.equalIn]
    simp only [Sem.run_bind, run_underlying' ht, Result.andThen_ok, Sem.run_pure]
  exact h1 9999

theorem beqV_run {op : BinOp} {t : TypeId} {neg : Bool} {x y v : Value} (ht : P.underlying t = some .bool) (ho : (op = .eql ∧ neg = false) ∨ (op = .neq ∧ neg = true)) (h : beqV neg x y = some v) (w : World) :
    (binOp op t x y).run P w = .ok v w := by
  unfold beqV at h
  split at h
  · rename_i a b
    simp only [Option.some.injEq] at h
    rcases ho with ⟨rfl, rfl⟩ | ⟨rfl, rfl⟩ <;> subst h
    · show ((do pure (.bool (← Op.equal t (.bool a) (.bool b)))) : Sem Value).run P w = _
      rw [Sem.run_bind, run_equal_bool ht]; simp
    · show ((do pure (.bool (!(← Op.equal t (.bool a) (.bool b))))) : Sem Value).run P w = _
      rw [Sem.run_bind, run_equal_bool ht]; simp
  · cases h

theorem eqGuard_bool {op : BinOp} {t : TypeId} {neg : Bool} {x y : Operand} {a b v : Value} (h : beqV neg a b = some v) (w : World) : (eqGuard op t x y a b).run P w = .ok () w := by
  unfold beqV at h
  unfold eqGuard
  split at h
  · split <;> simp
  · cases h

theorem run_part {t : TypeId} {cs : Array Value} {off : Nat} {n : Option Nat} {v : Value} (hn : (tyAgg P t = some false ∧ n = none) ∨ (tyAgg P t = some true ∧ ∃ k, tySize P t = some k ∧ n = some k)) (h : fdV off n (.agg cs) = some v) (w : World) :
    (part t cs off).run P w = .ok v w := by
  rcases hn with ⟨ht, rfl⟩ | ⟨ht, k, hk, rfl⟩
  · simp only [fdV] at h
    simp [part, run_isAgg' ht, h]
  · simp only [fdV, Option.some.injEq] at h
    subst h
    simp [part, run_isAgg' ht, run_sizeOf' hk]

theorem unV_run {op : UnOp} {x v : Value} (h : unV op x = some v) (w : World) : (Op.unary op x).run P w = .ok v w := by
  unfold unV at h
  split at h <;> first | (cases h; done) | (simp only [Option.some.injEq] at h; subst h; simp [Op.unary, Op.intArith, Op.intBits])


theorem bnd_run {x : Option Value} {d : Int} {K : Int → Prop} (h : bndX x d K) : (∃ k n, x = some (.int k n) ∧ K n) ∨ (x = none ∧ K d) := by
  unfold bndX at h
  cases x with
  | none => exact .inr ⟨rfl, h⟩
  | some v => unfold intX at h; cases v <;> first | exact h.elim | exact .inl ⟨_, _, rfl, h⟩

theorem run_sliceBound {k : IntKind} {n : Int} {y : Nat} (h0 : 0 ≤ n) (h1 : n ≤ y) (c : BoundsCode) (w : World) : (Instr.sliceBound (.int k n) y c).run P w = .ok n.toNat w := by
  simp [Instr.sliceBound, asIntOf, h0, h1]

theorem run_sliceBounds (isS : Bool) (len cap : Nat) (lo hi mx : Option Value) (m h l : Int) (hm : (∃ k, mx = some (.int k m)) ∨ (mx = none ∧ m = cap)) (hh : (∃ k, hi = some (.int k h)) ∨ (hi = none ∧ h = len))
    (hl : (∃ k, lo = some (.int k l)) ∨ (lo = none ∧ l = 0)) (r1 : 0 ≤ l) (r2 : l ≤ h) (r3 : h ≤ m) (r4 : m ≤ cap) (hne : ¬ ((∃ v, mx = some v) ∧ hi = none)) (w : World) :
    (Instr.sliceBounds isS len cap lo hi mx).run P w = .ok (l.toNat, h.toNat, m.toNat) w := by
  rcases hm with ⟨km, rfl⟩ | ⟨rfl, rfl⟩
  · rcases hh with ⟨kh, rfl⟩ | ⟨rfl, rfl⟩
    · rcases hl with ⟨kl, rfl⟩ | ⟨rfl, rfl⟩
      · simp only [Instr.sliceBounds, Sem.run_bind, Result.andThen_ok, Sem.run_pure, Int.toNat_natCast, Int.toNat_zero, run_sliceBound (P := P) (k := km) (n := m) (y := cap) (by omega) (by omega), run_sliceBound (P := P) (k := kh) (n := h) (y := m.toNat) (by omega) (by omega), run_sliceBound (P := P) (k := kl) (n := l) (y := h.toNat) (by omega) (by omega)]
      · simp only [Instr.sliceBounds, Sem.run_bind, Result.andThen_ok, Sem.run_pure, Int.toNat_natCast, Int.toNat_zero, run_sliceBound (P := P) (k := km) (n := m) (y := cap) (by omega) (by omega), run_sliceBound (P := P) (k := kh) (n := h) (y := m.toNat) (by omega) (by omega)]
    · exact absurd ⟨⟨_, rfl⟩, rfl⟩ hne
  · rcases hh with ⟨kh, rfl⟩ | ⟨rfl, rfl⟩
    · rcases hl with ⟨kl, rfl⟩ | ⟨rfl, rfl⟩
      · simp only [Instr.sliceBounds, Sem.run_bind, Result.andThen_ok, Sem.run_pure, Int.toNat_natCast, Int.toNat_zero, run_sliceBound (P := P) (k := kh) (n := h) (y := cap) (by omega) (by omega), run_sliceBound (P := P) (k := kl) (n := l) (y := h.toNat) (by omega) (by omega)]
      · simp only [Instr.sliceBounds, Sem.run_bind, Result.andThen_ok, Sem.run_pure, Int.toNat_natCast, Int.toNat_zero, run_sliceBound (P := P) (k := kh) (n := h) (y := cap) (by omega) (by omega)]
    · rcases hl with ⟨kl, rfl⟩ | ⟨rfl, rfl⟩
      · simp only [Instr.sliceBounds, Sem.run_bind, Result.andThen_ok, Sem.run_pure, Int.toNat_natCast, Int.toNat_zero, run_sliceBound (P := P) (k := kl) (n := l) (y := len) (by omega) (by omega)]
      · simp only [Instr.sliceBounds, Sem.run_bind, Result.andThen_ok, Sem.run_pure, Int.toNat_natCast, Int.toNat_zero]

/-- **What only reads.** -/
theorem qX_sound {o : Oper} {s : SOp} {a : Act} {e : Env} {w : World} {K : Value → Prop} (he : ∀ x, a.eval x = ev e x) (hs : slimOp P o = some s) (hq : s.quiet = true) (h : qX e w s K) :
    ∃ v, K v ∧ ∀ w', ldJ e w s w' → (execOp a.eval o).run P w' = .ok (.value v) w' := by
  have hee : a.eval = ev e := funext he
  rw [hee]
  obtain ⟨dst, op, type, pos, after, guard⟩ := o
  cases op <;> simp only [slimOp] at hs
  case move x => cases hs; exact ⟨_, h, fun w' _ => by simp [execOp]⟩
  case assign x => cases hs; exact ⟨_, h, fun w' _ => by simp [execOp]⟩
  case pick c x y =>
    cases hs
    simp only [qX, tX] at h
    split at h
    · rename_i t ht
      refine ⟨_, h, fun w' _ => ?_⟩
      cases t <;> simp [execOp, ht, asBool]
    · exact h.elim
  case alloc => simp at hs; obtain ⟨_, _, rfl⟩ := hs; simp [SOp.quiet] at hq
  case box => cases hs; simp [SOp.quiet] at hq
  case build t parts =>
    have hpl : (parts.map fun p => (p.1, ev e p.2)).toList = parts.toList.map fun p => (p.1, ev e p.2) := by simp
    have key : ∃ ps z l, s = .bd z ps ∧ fillL z (pvals e ps) = some l ∧ K (.agg l.toArray) ∧ P.built t (parts.map fun p => (p.1, ev e p.2)).toList = some l.toArray := by
      cases hit : P.info? t with
      | none => simp [hit] at hs
      | some it =>
        cases hu : P.underlying t with
        | none => simp [hit, hu] at hs
        | some d =>
          cases d <;> try (simp [hit, hu] at hs; done)
          case array n el =>
            cases hz : it.zero with
            | none => simp [hit, hu, hz] at hs
            | some z =>
              cases hie : P.info? el with
              | none => simp [hit, hu, hz, hie] at hs
              | some ie =>
                simp only [hit, hu, hz, hie, Option.map_eq_some_iff] at hs
                obtain ⟨ps, hp, rfl⟩ := hs
                obtain ⟨l, hl, hK⟩ := h
                refine ⟨ps, _, l, rfl, hl, hK, ?_⟩
                have hf := fill_fillL (fun x => rfl) parts.toList ps z.cells.toList l hp hl
                simp only [Program.built, hit, hu, hz, hie, hpl]
                simpa using hf
          case struct fs =>
            cases hz : it.zero with
            | none => simp [hit, hu, hz] at hs
            | some z =>
              cases hpm : fs.toList.mapM (fun f => (P.info? f.type).map fun i => (f.offset, i.size)) with
              | none => simp [hit, hu, hz, hpm] at hs
              | some places =>
                simp only [hit, hu, hz, hpm, Option.map_eq_some_iff] at hs
                obtain ⟨ps, hp, rfl⟩ := hs
                obtain ⟨l, hl, hK⟩ := h
                refine ⟨ps, _, l, rfl, hl, hK, ?_⟩
                have hf := fill_fillL (fun x => rfl) parts.toList ps z.cells.toList l hp hl
                simp only [Program.built, hit, hu, hz, hpm, hpl]
                simpa using hf
    obtain ⟨ps, z, l, rfl, hl, hK, hb⟩ := key
    refine ⟨_, hK, fun w' _ => ?_⟩
    simp only [execOp, Sem.run_bind, run_build w' t _ _ hb, Result.andThen_ok, Sem.run_pure]
  case buildSlice t n parts =>
    split at hs
    · split at hs
      · split at hs
        · simp only [Option.map_eq_some_iff] at hs; obtain ⟨_, _, rfl⟩ := hs; simp [SOp.quiet] at hq
        · cases hs
      · cases hs
    · cases hs
  case load t x =>
    cases ht : tyAgg P t with
    | none => simp [ht] at hs
    | some b =>
      cases b with
      | false =>
        simp only [ht, Option.some.injEq] at hs; subst hs
        simp only [qX, pX] at h
        split at h
        · rename_i ad hx
          obtain ⟨v, hc, hK⟩ := h
          refine ⟨v, hK, fun w' hJ => ?_⟩
          simp only [ldJ, hx, hc] at hJ
          simp [execOp, Instr.loadAt, Instr.sureAddr, hx, run_loadVar_scalar ht hJ]
        · exact h.elim
      | true =>
        simp only [ht, Option.map_eq_some_iff] at hs; obtain ⟨n, hn, rfl⟩ := hs
        simp only [qX, pX] at h
        split at h
        · rename_i ad hx
          obtain ⟨v, hc, hK⟩ := h
          refine ⟨_, hK, fun w' hJ => ?_⟩
          simp only [ldJ, hx, hc] at hJ
          simp [execOp, Instr.loadAt, Instr.sureAddr, hx, run_loadVar_agg ht hn hJ]
        · exact h.elim
  case store => simp at hs; obtain ⟨_, _, rfl⟩ := hs; simp [SOp.quiet] at hq
  case nilCheck x =>
    cases hs
    simp only [qX, nilX] at h
    split at h
    · rename_i ad hx; exact ⟨_, h, fun w' _ => by simp [execOp, hx]⟩
    · rename_i f y z hx; exact ⟨_, h, fun w' _ => by simp [execOp, hx]⟩
    · exact h.elim
  case binOp op t x y ty =>
    split at hs
    · cases hs
      obtain ⟨v, hv, hK⟩ := h
      exact ⟨v, hK, fun w' _ => by simp only [execOp, Sem.run_bind, eqGuard_bin hv, binOp_binV hv, Result.andThen_ok, Sem.run_pure]⟩
    · cases hs
      obtain ⟨v, hv, hK⟩ := h
      exact ⟨v, hK, fun w' _ => by simp only [execOp, Sem.run_bind, eqGuard_bin hv, binOp_binV hv, Result.andThen_ok, Sem.run_pure]⟩
    · rename_i ht
      cases op <;> simp at hs <;> subst hs
      · obtain ⟨v, hv, hK⟩ := h
        exact ⟨v, hK, fun w' _ => by simp only [execOp, Sem.run_bind, eqGuard_bool hv, beqV_run ht (.inl ⟨rfl, rfl⟩) hv, Result.andThen_ok, Sem.run_pure]⟩
      · obtain ⟨v, hv, hK⟩ := h
        exact ⟨v, hK, fun w' _ => by simp only [execOp, Sem.run_bind, eqGuard_bool hv, beqV_run ht (.inr ⟨rfl, rfl⟩) hv, Result.andThen_ok, Sem.run_pure]⟩
    · cases hs; simp [SOp.quiet] at hq
  case unOp op t x =>
    cases hs
    obtain ⟨v, hv, hK⟩ := h
    exact ⟨v, hK, fun w' _ => by simp only [execOp, Sem.run_bind, unV_run hv, Result.andThen_ok, Sem.run_pure]⟩
  case convert sr d x =>
    split at hs
    · rename_i ks kd hsr hd
      cases hs
      obtain ⟨v, hv, hK⟩ := h
      refine ⟨v, hK, fun w' _ => ?_⟩
      unfold cvV at hv
      split at hv
      · rename_i k0 n hx
        cases hv
        simp [execOp, convert, run_underlying' hsr, run_underlying' hd, hx, Conv.intToInt]
      · cases hv
    · cases hs; simp [SOp.quiet] at hq
  case fieldAddr t x f =>
    split at hs
    · rename_i fs hu
      split at hs
      · rename_i fd hf
        split at hs
        · rename_i k hk
          cases hs
          simp only [qX, pX] at h
          split at h
          · rename_i ad hx
            refine ⟨_, h, fun w' _ => ?_⟩
            simp [execOp, Instr.fieldAt, run_underlying' hu, hf, Instr.sureAddr, hx, fieldPlace, run_sizeOf' hk]
          · exact h.elim
        · cases hs
      · cases hs
    · cases hs
  case field t x f =>
    split at hs
    · rename_i fs hu
      split at hs
      · rename_i fd hf
        have key : ∃ n v, s = .fd fd.offset n x ∧ fdV fd.offset n (ev e x) = some v ∧ K v ∧ ((tyAgg P fd.type = some false ∧ n = none) ∨ (tyAgg P fd.type = some true ∧ ∃ k, tySize P fd.type = some k ∧ n = some k)) := by
          split at hs
          · rename_i ht; cases hs; obtain ⟨v, hv, hK⟩ := h; exact ⟨_, v, rfl, hv, hK, .inl ⟨ht, rfl⟩⟩
          · rename_i ht; simp only [Option.map_eq_some_iff] at hs; obtain ⟨k, hk, rfl⟩ := hs; obtain ⟨v, hv, hK⟩ := h; exact ⟨_, v, rfl, hv, hK, .inr ⟨ht, k, hk, rfl⟩⟩
          · cases hs
        obtain ⟨n, v, rfl, hv, hK, ht⟩ := key
        refine ⟨v, hK, fun w' _ => ?_⟩
        cases hx : ev e x <;> (try (simp [hx, fdV] at hv; done))
        rw [hx] at hv
        simp [execOp, Instr.field, run_underlying' hu, hf, hx, asAgg, run_part ht hv]
      · cases hs
    · cases hs
  case indexAddr t x i =>
    split at hs
    · rename_i el hu
      simp only [Option.map_eq_some_iff] at hs; obtain ⟨n, hn, rfl⟩ := hs
      simp only [qX, slcX] at h
      split at h
      · rename_i ad len cap hx
        simp only [someX] at h
        split at h
        · rename_i ad
          simp only [ixX] at h
          split at h
          · rename_i k iv hi
            obtain ⟨hb, hK⟩ := h
            refine ⟨_, hK, fun w' _ => ?_⟩
            simp [execOp, Instr.indexAt, asIntOf, hi, run_underlying' hu, hx, hb.1, hb.2, run_sizeOf' hn]
          · exact h.elim
        · exact h.elim
      · exact h.elim
    · rename_i len el hu
      simp only [Option.map_eq_some_iff] at hs; obtain ⟨n, hn, rfl⟩ := hs
      simp only [qX, pX] at h
      split at h
      · rename_i ad hx
        simp only [ixX] at h
        split at h
        · rename_i k iv hi
          obtain ⟨hb, hK⟩ := h
          refine ⟨_, hK, fun w' _ => ?_⟩
          simp [execOp, Instr.indexAt, asIntOf, hi, run_underlying' hu, hx, hb.1, hb.2, run_sizeOf' hn, Instr.sureAddr]
        · exact h.elim
      · exact h.elim
    · cases hs
  case slice t x lo hi mx =>
    split at hs
    · rename_i el hu
      simp only [Option.map_eq_some_iff] at hs; obtain ⟨n, hn, rfl⟩ := hs
      simp only [qX, slcX] at h
      split at h
      · rename_i ad len cap hx
        obtain ⟨m, hm, h⟩ : ∃ m : Int, ((∃ k, mx.map (ev e) = some (.int k m)) ∨ (mx.map (ev e) = none ∧ m = cap)) ∧ _ := by
          rcases bnd_run h with ⟨k, n, h1, h2⟩ | ⟨h1, h2⟩
          · exact ⟨n, .inl ⟨k, h1⟩, h2⟩
          · exact ⟨_, .inr ⟨h1, rfl⟩, h2⟩
        obtain ⟨hh, hhi, h⟩ : ∃ m : Int, ((∃ k, hi.map (ev e) = some (.int k m)) ∨ (hi.map (ev e) = none ∧ m = len)) ∧ _ := by
          rcases bnd_run h with ⟨k, n, h1, h2⟩ | ⟨h1, h2⟩
          · exact ⟨n, .inl ⟨k, h1⟩, h2⟩
          · exact ⟨_, .inr ⟨h1, rfl⟩, h2⟩
        obtain ⟨l, hlo, h⟩ : ∃ m : Int, ((∃ k, lo.map (ev e) = some (.int k m)) ∨ (lo.map (ev e) = none ∧ m = 0)) ∧ _ := by
          rcases bnd_run h with ⟨k, n, h1, h2⟩ | ⟨h1, h2⟩
          · exact ⟨n, .inl ⟨k, h1⟩, h2⟩
          · exact ⟨_, .inr ⟨h1, rfl⟩, h2⟩
        obtain ⟨⟨r1, r2, r3, r4, r5⟩, hK⟩ := h
        refine ⟨_, hK, fun w' _ => ?_⟩
        have hne : ¬ ((∃ v, mx.map (ev e) = some v) ∧ hi.map (ev e) = none) := by
          rintro ⟨⟨v, h1⟩, h2⟩
          cases mx with
          | none => cases h1
          | some _ => cases hi with
            | none => exact absurd (r5 rfl) (by simp)
            | some _ => cases h2
        have hrun : (Instr.sliceBounds true len cap (lo.map (ev e)) (hi.map (ev e)) (mx.map (ev e))).run P w' = .ok (l.toNat, hh.toNat, m.toNat) w' := by
          exact run_sliceBounds true len cap _ _ _ m hh l hm hhi hlo r1 r2 r3 r4 hne w'
        simp only [execOp, Instr.sliceAt, Sem.run_bind, run_underlying' hu, Result.andThen_ok]
        simp only [hx, Instr.slice, Sem.run_bind, run_underlying' hu, Result.andThen_ok, hrun, run_sizeOf' hn, Sem.run_pure]
      · exact h.elim
    · rename_i len el hu
      split at hs
      · rename_i hmx
        simp only [Option.map_eq_some_iff] at hs; obtain ⟨n, hn, rfl⟩ := hs
        simp only [qX, pX] at h
        split at h
        · rename_i ad hx
          obtain ⟨hh, hhi, h⟩ : ∃ m : Int, ((∃ k, hi.map (ev e) = some (.int k m)) ∨ (hi.map (ev e) = none ∧ m = len)) ∧ _ := by
            rcases bnd_run h with ⟨k, n, h1, h2⟩ | ⟨h1, h2⟩
            · exact ⟨n, .inl ⟨k, h1⟩, h2⟩
            · exact ⟨_, .inr ⟨h1, rfl⟩, h2⟩
          obtain ⟨l, hlo, h⟩ : ∃ m : Int, ((∃ k, lo.map (ev e) = some (.int k m)) ∨ (lo.map (ev e) = none ∧ m = 0)) ∧ _ := by
            rcases bnd_run h with ⟨k, n, h1, h2⟩ | ⟨h1, h2⟩
            · exact ⟨n, .inl ⟨k, h1⟩, h2⟩
            · exact ⟨_, .inr ⟨h1, rfl⟩, h2⟩
          obtain ⟨⟨r1, r2, r3⟩, hK⟩ := h
          refine ⟨_, hK, fun w' _ => ?_⟩
          have hmx' : mx.map (ev e) = none := by cases mx <;> simp_all
          have hrun : (Instr.sliceBounds false len len (lo.map (ev e)) (hi.map (ev e)) none).run P w' = .ok (l.toNat, hh.toNat, len) w' := by
            have := run_sliceBounds (P := P) false len len (lo.map (ev e)) (hi.map (ev e)) none len hh l (.inr ⟨rfl, rfl⟩) hhi hlo r1 r2 r3 (Int.le_refl _) (by rintro ⟨⟨v, hv⟩, _⟩; cases hv) w'
            simpa using this
          simp only [execOp, Instr.sliceAt, Sem.run_bind, run_underlying' hu, Result.andThen_ok]
          simp only [hx, hmx', Instr.sureAddr, Sem.run_bind, Result.andThen_ok, hrun, run_sizeOf' hn, Sem.run_pure]
        · exact h.elim
      · cases hs
    · cases hs; simp [SOp.quiet] at hq
  case makeInterface t x =>
    split at hs
    · cases hs
    · cases hs
    · rename_i h1 h2
      cases hs
      refine ⟨_, h, fun w' _ => ?_⟩
      cases hu : P.underlying t with
      | none => exact absurd hu h2
      | some d =>
        simp only [execOp, Instr.makeInterface, Sem.run_bind, run_underlying' hu, Result.andThen_ok]
        cases d <;> first | (exact absurd hu (h1 _)) | simp
  case makeFunc fn first cap =>
    cases hs
    refine ⟨_, h, fun w' _ => ?_⟩
    have hm : ∀ l : Array Operand, l.map (ev e) = (l.toList.map (ev e)).toArray := fun l => Array.ext' (by simp)
    simp [execOp, Instr.makeFunc, vals, hm]
  case extract x i =>
    cases hs
    obtain ⟨v, hv, hK⟩ := h
    refine ⟨v, hK, fun w' _ => ?_⟩
    unfold extV at hv
    split at hv
    · rename_i vs hx; simp [execOp, Instr.extract, hx, hv]
    · cases hv
  case call c =>
    obtain ⟨callee, args, argTypes⟩ := c
    have key : ∃ b, callee = .builtin b ∧ ((b = .len ∧ ∃ x t str, args.toList = [x] ∧ argTypes[0]? = some t ∧ ((str = true ∧ P.underlying t = some .string) ∨ (str = false ∧ ∃ el, P.underlying t = some (.slice el))) ∧ s = .len str x) ∨
        (b = .min ∧ ∃ x y, args.toList = [x, y] ∧ s = .min x y) ∨ (b = .max ∧ ∃ x y, args.toList = [x, y] ∧ s = .max x y)) := by
      cases callee with
      | value f => cases f <;> simp only [reduceCtorEq] at hs <;> first | (cases hs; simp [SOp.quiet] at hq; done) | (split at hs <;> cases hs; simp [SOp.quiet] at hq)
      | invoke r m => cases hs; simp [SOp.quiet] at hq
      | builtin b =>
        refine ⟨b, rfl, ?_⟩
        cases b <;> simp only [reduceCtorEq] at hs <;> try (cases hs; simp [SOp.quiet] at hq; done)
        case append =>
          exfalso
          split at hs
          · split at hs
            · split at hs <;> cases hs; simp [SOp.quiet] at hq
            · cases hs; simp [SOp.quiet] at hq
          · cases hs
        case len =>
          refine .inl ⟨rfl, ?_⟩
          split at hs
          · rename_i x t h1 h2
            split at hs
            · rename_i el hu; cases hs; exact ⟨x, t, false, h1, h2, .inr ⟨rfl, el, hu⟩, rfl⟩
            · rename_i hu; cases hs; exact ⟨x, t, true, h1, h2, .inl ⟨rfl, hu⟩, rfl⟩
            · cases hs; simp [SOp.quiet] at hq
          · cases hs
        case min =>
          refine .inr (.inl ⟨rfl, ?_⟩)
          split at hs
          · rename_i x y h1; cases hs; exact ⟨x, y, h1, rfl⟩
          · cases hs; simp [SOp.quiet] at hq
        case max =>
          refine .inr (.inr ⟨rfl, ?_⟩)
          split at hs
          · rename_i x y h1; cases hs; exact ⟨x, y, h1, rfl⟩
          · cases hs; simp [SOp.quiet] at hq
    obtain ⟨b, rfl, hk⟩ := key
    rcases hk with ⟨rfl, x, t, str, ha, ht, hu, rfl⟩ | ⟨rfl, x, y, ha, rfl⟩ | ⟨rfl, x, y, ha, rfl⟩
    · obtain ⟨v, hv, hK⟩ := h
      refine ⟨v, hK, fun w' hJ => ?_⟩
      have ha' : args = #[x] := Array.ext' ha
      subst ha'
      clear hs hJ
      unfold lenV at hv
      split at hv
      · rename_i ad n cap hx
        cases hv
        obtain ⟨el, hu⟩ := by simpa using hu
        simp [execOp, resolve, invoke, builtin, Builtin.len_, ht, run_underlying' hu, hx, goInt]
      · rename_i ss hx
        cases hv
        have hu := by simpa using hu
        simp [execOp, resolve, invoke, builtin, Builtin.len_, ht, run_underlying' hu, hx, goInt]
      · cases hv
    · obtain ⟨v, hv, hK⟩ := h
      refine ⟨v, hK, fun w' _ => ?_⟩
      have ha' : args = #[x, y] := Array.ext' ha
      subst ha'
      unfold mmV at hv
      split at hv
      · rename_i k p k' q hx hy
        cases hv
        simp [execOp, resolve, invoke, builtin, Builtin.min_, Builtin.min2, hx, hy]
      · cases hv
    · obtain ⟨v, hv, hK⟩ := h
      refine ⟨v, hK, fun w' _ => ?_⟩
      have ha' : args = #[x, y] := Array.ext' ha
      subst ha'
      unfold mmV at hv
      split at hv
      · rename_i k p k' q hx hy
        cases hv
        simp [execOp, resolve, invoke, builtin, Builtin.max_, Builtin.max2, hx, hy]
      · cases hv
  all_goals first
    | (cases hs; done)
    | (cases hs; simp [SOp.quiet] at hq; done)



theorem callFunc_enter {f : FuncId} (h : callable P f = true) (args : Array Value) (w : World) : (callFunc f args).run P w = .ok (.enter f args) w := by
  unfold callable at h
  split at h
  · rename_i fn hf
    simp only [Bool.and_eq_true, bne_iff_ne, ne_eq] at h
    have h2 : fn.body.isNone = false := by cases hb : fn.body <;> simp_all
    simp only [callFunc, Sem.run_bind, run_program, Result.andThen_ok, hf]
    simp [h.1, h2]
  · cases h

theorem run_firstCells' {size n : Nat} {b : Option Addr} {l : List Value} {w : World} (len cap : Nat) (h : rowO w b (n * size) l) :
    (Builtin.firstCells size n (.slice b len cap)).run P w = .ok l.toArray w := by
  cases b with
  | none => simp only [rowO] at h; subst h; simp [Builtin.firstCells]
  | some b => exact run_loadCells' h

theorem run_app {t u ty el el' : TypeId} {sz b : Nat} {z : Array Value} {argTypes : Array TypeId} {x y : Value} {w : World} {K : Value → World → Prop} (ha0 : argTypes[0]? = some t) (ha1 : argTypes[1]? = some u)
    (ht : P.underlying t = some (.slice el)) (hu : P.underlying u = some (.slice el')) (hsz : tySize P el = some sz) (hb : (P.info? el).map (·.bytes) = some (b + 1)) (hz : tyZero P el = some z)
    (h : appX el sz (b + 1) z x y w K) : ∃ v w', (Builtin.append_ argTypes ty #[x, y]).run P w = .ok v w' ∧ K v w' := by
  simp only [appX, slcX] at h
  split at h
  · rename_i a n c
    split at h
    · rename_i bb m c2
      obtain ⟨vs, hvs, hroom, hgrow⟩ := h
      obtain ⟨i, hi, hib⟩ : ∃ i, P.info? el = some i ∧ i.bytes = b + 1 := by
        cases hi : P.info? el with
        | none => simp [hi] at hb
        | some i => exact ⟨i, rfl, by simpa [hi] using hb⟩
      by_cases hfit : n + m ≤ c
      · have hK := hroom hfit
        cases a with
        | none =>
          refine ⟨_, _, ?_, hK⟩
          simp [Builtin.append_, ha0, ha1, run_underlying' ht, run_underlying' hu, run_sizeOf' hsz, Builtin.lenOf, hfit, run_firstCells' (P := P) m c2 hvs]
        | some a =>
          obtain ⟨cs, T, hbk, hs, hl, h1, hK⟩ := hK
          have hst := run_storeCells' (P := P) vs w (a.add (n * sz)) 0 cs.toList T (by simpa using hbk) hs (by simpa using hl) h1
          refine ⟨_, _, ?_, hK⟩
          simp [Builtin.append_, ha0, ha1, run_underlying' ht, run_underlying' hu, run_sizeOf' hsz, Builtin.lenOf, hfit, run_firstCells' (P := P) m c2 hvs, hst]
      · obtain ⟨old, hold, hcap, hK⟩ := hgrow (by omega)
        obtain ⟨zv, hzv, hzrun⟩ := run_zeroValue' hz w.drew
        have hne : n + m ≤ Builtin.nextslicecap (n + m) c := le_nextslicecap (by omega)
        have hsmall : n + m ≤ 281474976710656 := by
          have : Builtin.nextslicecap (n + m) c ≤ Builtin.nextslicecap (n + m) c * (b + 1) := Nat.le_mul_of_pos_right _ (by omega)
          omega
        have hcap' : ¬ (281474976710656 < Builtin.nextslicecap (n + m) c * (b + 1)) := by omega
        let nc := n + m + w.tape w.drawn (.appendCap (n + m) c el) % (9223372036854775808 - (n + m))
        have hnc : n + m ≤ nc := by simp [nc]
        have hlt : nc < 9223372036854775808 := by
          have : w.tape w.drawn (.appendCap (n + m) c el) % (9223372036854775808 - (n + m)) < 9223372036854775808 - (n + m) := Nat.mod_lt _ (by omega)
          simp only [nc]; omega
        have hrow : ∀ (b : Option Addr) (k : Nat) (l : List Value), rowO w b k l → rowO w.drew b k l := fun b k l h => h
        refine ⟨_, _, ?_, hK nc hnc hlt (Builtin.zeroCells z (nc - (n + m))).toList (by simp [Builtin.zeroCells])⟩
        simp [Builtin.append_, ha0, ha1, run_underlying' ht, run_underlying' hu, run_sizeOf' hsz, Builtin.lenOf, hfit, run_typeInfo' hi, hib, hcap', Question.forced, Question.cut, run_firstCells' (P := P) m c2 (hrow _ _ _ hvs), run_firstCells' (P := P) n c (hrow _ _ _ hold), hzrun, hzv, newRow, nc]
        congr 2
        apply Array.ext'
        simp
    · exact h.elim
  · exact h.elim

/-- Any operation. -/
theorem opX_sound {o : Oper} {s : SOp} {a : Act} {e : Env} {w : World} {K : Value → World → Prop} {Kp : List PanicEntry → World → Prop} {next : Act → World → Prop} {Q : Exit → Act → World → Prop}
    (he : ∀ x, a.eval x = ev e x) (hs : slimOp P o = some s) (h : opX P e w s K Kp) (hK : ∀ v w', K v w' → next (a.put o.dst v) w') (hP : ∀ ch w', Kp ch w' → Q (.panic ch) a w') : o.wp P a w next Q := by
  have hee : a.eval = ev e := funext he
  by_cases hq : s.quiet = true
  · have h' : qX e w s fun v => K v w := by cases s <;> simp [SOp.quiet] at hq <;> exact h
    obtain ⟨v, hv, hrun⟩ := qX_sound he hs hq h'
    have hJ : ldJ e w s w := by cases s <;> simp [ldJ] <;> split <;> trivial
    unfold Oper.wp
    rw [hrun w hJ]
    exact hK _ _ hv
  · unfold Oper.wp
    rw [hee]
    obtain ⟨dst, op, type, pos, after, guard⟩ := o
    have raw : ∀ o' : Oper, o' = ⟨none, op, type, "", #[], none⟩ → rawX P (execOp (ev e) o') w K Kp → Oper.upon P ⟨dst, op, type, pos, after, guard⟩ a next Q ((execOp (ev e) ⟨dst, op, type, pos, after, guard⟩).run P w) := by
      rintro _ rfl hr
      have hex : execOp (ev e) ⟨dst, op, type, pos, after, guard⟩ = execOp (ev e) ⟨none, op, type, "", #[], none⟩ := by cases op <;> rfl
      rw [hex]
      unfold rawX at hr
      split at hr
      · rename_i hr'; rw [hr']; exact hK _ _ hr
      · rename_i hr'; rw [hr']; exact hK _ _ hr
      · rename_i hr'; rw [hr']; exact hP _ _ hr
      · exact hr.elim
    have hcall : ∀ (k : FuncId) (args : Array Value), callable P k = true → callX P k args.toList w K Kp → Oper.upon P ⟨dst, op, type, pos, after, guard⟩ a next Q ((callFunc k args).run P w) := by
      intro k args hc hx
      rw [callFunc_enter hc]
      refine Calls.mono hx fun e w' he => ?_
      cases e with
      | returned v => exact hK _ _ he
      | panicked ch => exact hP _ _ he
      | outgrown => exact he.elim
    cases op <;> simp only [slimOp] at hs
    case alloc t =>
      simp only [Option.map_eq_some_iff] at hs; obtain ⟨z, hz, rfl⟩ := hs
      obtain ⟨v, hv, hrun⟩ := run_zeroValue' hz w
      have h' : K (.pointer (some ⟨w.heap.size, 0, none⟩)) (w.alloc (.cells z t)) := by simpa [opX, alX] using h
      simp only [execOp, Instr.alloc, Sem.run_bind, hrun, Result.andThen_ok, newVar, newRow, run_newObj, Sem.run_pure, hv]
      exact hK _ _ h'
    case box t x =>
      cases hs
      have h' : K (.pointer (some ⟨w.heap.size, 0, none⟩)) (w.alloc (.cells (ev e x).cells t)) := by simpa [opX, alX] using h
      simp only [execOp, Instr.box, Sem.run_bind, Result.andThen_ok, newVar, newRow, run_newObj, Sem.run_pure]
      exact hK _ _ h'
    case buildSlice t n parts =>
      split at hs
      · rename_i el hu
        split at hs
        · rename_i sz z hsz hz
          split at hs
          · rename_i hle
            simp only [Option.map_eq_some_iff] at hs; obtain ⟨ps, hp, rfl⟩ := hs
            obtain ⟨l, hl, hk⟩ := h
            have hf := fill_fillL (fun x => rfl) parts.toList ps _ l hp hl
            have hpl : (parts.map fun p => (p.1, ev e p.2)).toList = parts.toList.map fun p => (p.1, ev e p.2) := by simp
            have hn : ¬ n * sz > 2 ^ 24 := by omega
            have hf' : Instr.fill (fun i => some (i * sz, sz)) ((Array.range (n * sz)).map (z[· % z.size]!)) (parts.map fun p => (p.1, ev e p.2)).toList = some l.toArray := by
              rw [hpl]; rw [Array.toArray_toList] at hf; exact hf
            have hz0 : ∀ f : Nat → Value, (Array.range 0).map f = #[] := fun f => Array.ext' (by simp)
            have hrun : (Instr.buildSlice t n (parts.map fun p => (p.1, ev e p.2))).run P w = .ok (.slice (some ⟨w.heap.size, 0, none⟩) n n) (w.alloc (.cells l.toArray el)) := by
              by_cases h0 : n * sz = 0
              · have hf0 : Instr.fill (fun i => some (i * sz, sz)) #[] (parts.map fun p => (p.1, ev e p.2)).toList = some l.toArray := by
                  rw [h0, hz0] at hf'; exact hf'
                simp only [Instr.buildSlice, Sem.run_bind, run_underlying' hu, Result.andThen_ok, run_sizeOf' hsz, hn, if_false, h0, if_true, Sem.run_pure, newRow, run_newObj]
                simp only [hz0, hf0, Sem.run_bind, run_newObj, Result.andThen_ok, Sem.run_pure]
                rfl
              · obtain ⟨v, hv, hzrun⟩ := run_zeroValue' hz w
                subst hv
                simp only [Instr.buildSlice, Sem.run_bind, run_underlying' hu, Result.andThen_ok, run_sizeOf' hsz, hn, if_false, h0, hzrun, Sem.run_pure, hf', newRow, run_newObj]
                rfl
            simp only [execOp, Sem.run_bind, hrun, Result.andThen_ok, Sem.run_pure]
            exact hK _ _ hk
          · cases hs
        · cases hs
      · cases hs
    case store t x v =>
      simp only [Option.map_eq_some_iff] at hs; obtain ⟨n, hn, rfl⟩ := hs
      simp only [opX, pX] at h
      split at h
      · rename_i ad hx
        obtain ⟨hv, h⟩ := h
        obtain ⟨w', hrun, hk⟩ := run_storeVar' hn hv h
        simp only [execOp, Instr.storeAt, Instr.sureAddr, hx, Sem.run_bind, Sem.run_pure, Result.andThen_ok, hrun]
        exact hK _ _ hk
      · exact h.elim
    case panic x =>
      cases hs
      simp only [opX] at h
      split at h
      · rename_i t v hx
        simp only [execOp, Instr.panic, hx, Sem.run_bind, run_goPanic, Result.andThen_halt]
        exact hP _ _ h
      · exact h.elim
    case binOp => split at hs <;> first | (cases hs; exact absurd rfl hq) | (split at hs <;> cases hs <;> exact absurd rfl hq) | (cases hs; exact raw _ rfl h)
    case convert => split at hs <;> first | (cases hs; exact absurd rfl hq) | (cases hs; exact raw _ rfl h)
    case slice =>
      split at hs
      · simp only [Option.map_eq_some_iff] at hs; obtain ⟨_, _, rfl⟩ := hs; exact absurd rfl hq
      · split at hs
        · simp only [Option.map_eq_some_iff] at hs; obtain ⟨_, _, rfl⟩ := hs; exact absurd rfl hq
        · cases hs
      · cases hs; exact raw _ rfl h
    case load => split at hs <;> first | (cases hs; exact absurd rfl hq) | (simp only [Option.map_eq_some_iff] at hs; obtain ⟨_, _, rfl⟩ := hs; exact absurd rfl hq) | (cases hs; done)
    case build =>
      split at hs
      · split at hs
        · simp only [Option.map_eq_some_iff] at hs; obtain ⟨_, _, rfl⟩ := hs; exact absurd rfl hq
        · cases hs
      · split at hs
        · simp only [Option.map_eq_some_iff] at hs; obtain ⟨_, _, rfl⟩ := hs; exact absurd rfl hq
        · cases hs
      · cases hs
    case fieldAddr =>
      split at hs
      · split at hs
        · split at hs
          · cases hs; exact absurd rfl hq
          · cases hs
        · cases hs
      · cases hs
    case field =>
      split at hs
      · split at hs
        · split at hs
          · cases hs; exact absurd rfl hq
          · simp only [Option.map_eq_some_iff] at hs; obtain ⟨_, _, rfl⟩ := hs; exact absurd rfl hq
          · cases hs
        · cases hs
      · cases hs
    case indexAddr =>
      split at hs
      · simp only [Option.map_eq_some_iff] at hs; obtain ⟨_, _, rfl⟩ := hs; exact absurd rfl hq
      · simp only [Option.map_eq_some_iff] at hs; obtain ⟨_, _, rfl⟩ := hs; exact absurd rfl hq
      · cases hs
    case makeInterface => split at hs <;> first | (cases hs; done) | (cases hs; exact absurd rfl hq)
    case call c =>
      obtain ⟨callee, args, argTypes⟩ := c
      cases callee with
      | value f =>
        have hval : ∀ f, s = .callv f args.toList → Oper.upon P ⟨dst, .call ⟨.value f, args, argTypes⟩, type, pos, after, guard⟩ a next Q ((execOp (ev e) ⟨dst, .call ⟨.value f, args, argTypes⟩, type, pos, after, guard⟩).run P w) := by
          rintro f rfl
          simp only [opX] at h
          split at h
          · rename_i k fs cs hf
            obtain ⟨hc, h⟩ := h
            have hx := callFunc_enter hc (fs ++ args.map (ev e) ++ cs) w
            simp only [execOp, resolve, Deferred.ofValue, hf, Sem.run_bind, Sem.run_pure, Result.andThen_ok, invoke, hx]
            refine Calls.mono (R := fun e w' => match e with | .returned v => K v w' | .panicked ch => Kp ch w' | .outgrown => False) ?_ fun e w' he => ?_
            · have hl : (fs.toList ++ vals e args.toList ++ cs.toList).toArray = fs ++ args.map (ev e) ++ cs := Array.ext' (by simp [vals])
              rw [← hl]; exact h
            · cases e with
              | returned v => exact hK _ _ he
              | panicked ch => exact hP _ _ he
              | outgrown => exact he.elim
          · exact h.elim
        cases f with
        | func k =>
          simp only at hs
          split at hs
          · rename_i hc
            cases hs
            have hx := callFunc_enter hc (args.map (ev e)) w
            simp only [execOp, resolve, ev, Deferred.ofValue, Sem.run_bind, Sem.run_pure, Result.andThen_ok, invoke, Array.empty_append, Array.append_empty, hx]
            refine Calls.mono (R := fun e w' => match e with | .returned v => K v w' | .panicked ch => Kp ch w' | .outgrown => False) ?_ fun e w' he => ?_
            · have hl : (vals e args.toList).toArray = args.map (ev e) := Array.ext' (by simp [vals])
              rw [← hl]; exact h
            · cases e with
              | returned v => exact hK _ _ he
              | panicked ch => exact hP _ _ he
              | outgrown => exact he.elim
          · cases hs
        | tmp t => cases hs; exact hval _ rfl
        | const v => cases hs; exact hval _ rfl
        | global g => cases hs; exact hval _ rfl
      | invoke r m => cases hs; exact raw _ rfl h
      | builtin b =>
        cases b <;> simp only at hs <;> first | (cases hs; exact raw _ rfl h) | skip
        case append =>
          split at hs
          · rename_i x y t u ha ht hu
            split at hs
            · rename_i el el' hut huu
              split at hs
              · rename_i sz b z hsz hb hz
                cases hs
                have ha' : args = #[x, y] := Array.ext' ha
                subst ha'
                obtain ⟨v, w', hrun, hk⟩ := run_app (ty := type) ht hu hut huu hsz hb hz h
                simp only [execOp, resolve, invoke, builtin, Sem.run_bind, Sem.run_pure, Result.andThen_ok, List.map_toArray, List.map_cons, List.map_nil, hrun]
                exact hK _ _ hk
              · cases hs
            · cases hs; exact raw _ rfl h
          · cases hs
        case len =>
          split at hs
          · split at hs
            · cases hs; exact absurd rfl hq
            · cases hs; exact absurd rfl hq
            · cases hs; exact raw _ rfl h
          · cases hs
        case min => split at hs <;> first | (cases hs; exact absurd rfl hq) | (cases hs; exact raw _ rfl h)
        case max => split at hs <;> first | (cases hs; exact absurd rfl hq) | (cases hs; exact raw _ rfl h)
    all_goals first
      | (cases hs; exact absurd rfl hq)
      | (cases hs; exact raw _ rfl h)
      | (cases hs; done)

end
end Go.Shu
