/- Maps from ints, as tables: made, filled, looked up. -/
import Derived.Test.YtojbbajmldbffaaElem
import Derived.Laws.Entries
set_option linter.unusedSimpArgs false
set_option linter.unusedVariables false
namespace Go.Shu
open Go.Instr

def entsOk (es : List MapEntry) (ps : List (Int × Value)) : Prop := es.map (fun e => (e.key, e.val)) = ps.map fun p => (Value.int .i64 p.1, p.2)
def mpt (b : Nat) (ps : List (Int × Value)) : Asn := fun h => ∃ es k, h b = some (.map es k) ∧ entsOk es.toList ps
def seek : List (Int × Value) → Int → Option Value
  | [], _ => none
  | (k, v) :: r, n => if n = k then some v else seek r n

def lkR (r : Option Value) (z : Value) (ok : Bool) : Value := match r with | some v => if ok then .tuple #[v, .bool true] else v | none => if ok then .tuple #[z, .bool false] else z
theorem lkR_some (v z : Value) : lkR (some v) z true = .tuple ([v, .bool true] : List Value).toArray := rfl
theorem lkR_none (z : Value) : lkR none z true = .tuple ([z, .bool false] : List Value).toArray := rfl
theorem lkR_val (v z : Value) : lkR (some v) z false = v := rfl
theorem findNow_int (q : IntKind) (n : Int) : ∀ (es : List MapEntry) (ps : List (Int × Value)) (i : Nat), entsOk es ps →
    (seek ps n = none → findNow (.int q) (.int .i64 n) es i = some none) ∧ ∀ v, seek ps n = some v → ∃ j, findNow (.int q) (.int .i64 n) es i = some (some (j, v))
  | [], [], _, _ => ⟨fun _ => rfl, fun _ h => by cases h⟩
  | [], _ :: _, _, h => by simp [entsOk] at h
  | _ :: _, [], _, h => by simp [entsOk] at h
  | e :: es, (k, v) :: ps, i, h => by
    simp only [entsOk, List.map_cons, List.cons.injEq, Prod.mk.injEq] at h
    obtain ⟨⟨hk, hv⟩, ht⟩ := h
    obtain ⟨h1, h2⟩ := findNow_int q n es ps (i + 1) ht
    by_cases hnk : n = k
    · subst hnk
      refine ⟨fun h => by simp [seek] at h, fun u hu => ?_⟩
      simp only [seek, if_true, Option.some.injEq] at hu
      subst hu
      exact ⟨i, by simp [findNow, hk, sameNow, hv]⟩
    · simp only [seek, if_neg hnk]
      have hs : findNow (.int q) (.int .i64 n) (e :: es) i = findNow (.int q) (.int .i64 n) es (i + 1) := by
        have : (n == k) = false := by simpa using hnk
        simp [findNow, hk, sameNow, this]
      rw [hs]
      exact ⟨h1, h2⟩

section
variable {P : Program} {t kt et : TypeId} {n : Int} {x : Value} {w : World}
theorem run_checkKey_int (hk : P.underlying kt = some (.int .i64)) (b : Bool) : (checkKey b 10000 kt (.int .i64 n)).run P w = .ok () w := by
  show ((underlying kt).bind _).run P w = _
  rw [show ((underlying kt).bind _) = (underlying kt >>= _) from rfl, Sem.run_bind, run_underlying hk]
  rfl
theorem run_findKey (hk : P.underlying kt = some (.int .i64)) {es : List MapEntry} {r : Option (Nat × Value)} (h : findNow (.int .i64) (.int .i64 n) es 0 = some r) : (findKey kt (.int .i64 n) es).run P w = .ok r w := by
  unfold findKey
  rw [Sem.run_bind, run_underlying hk]
  simp [Result.andThen_ok, h]
end

/-- A map's type: its keys are ints; what stands for none. -/
def mapZ (P : Program) (t : TypeId) : Option Value := match P.underlying t with
  | some (.map k e) => (match P.underlying k with
    | some (.int .i64) => (match P.info? e with | some i => i.zero | none => none)
    | _ => none)
  | _ => none
theorem mapZ_inv {P : Program} {t : TypeId} {z : Value} (h : mapZ P t = some z) : ∃ kt et, P.underlying t = some (.map kt et) ∧ P.underlying kt = some (.int .i64) ∧ ∀ w, (zeroValue et).run P w = .ok z w := by
  unfold mapZ at h
  split at h
  · rename_i k e ht
    split at h
    · rename_i hk
      split at h
      · rename_i i hi
        exact ⟨k, e, ht, hk, fun w => by simp [zeroValue, run_typeInfo' hi, h]⟩
      · cases h
    · cases h
  · cases h

namespace S
variable {κ w : World} {l : List Asn} {P : Program} {ρ : Operand → Value}

theorem mkMap {K : Value → World → Prop} {Kp : List PanicEntry → World → Prop} {t tt : TypeId} (H : S κ l w) (hK : ∀ b w', S κ (mpt b [] :: l) w' → K (.map (some b)) w') :
    rawX P (execOp ρ ⟨none, .makeMap t none, tt, "", #[], none⟩) w K Kp := by
  show K (.map (some w.heap.size)) (w.alloc (.map #[] 0))
  refine hK _ _ ?_
  have h := (H.emps).step (B := mpt w.heap.size []) (w' := w.alloc (.map #[] 0)) 0 rfl rfl rfl rfl (by simp) (fun h1 _ _ => by
    refine ⟨fun b => if b = w.heap.size then some (.map #[] 0) else none, ⟨#[], 0, by simp, rfl⟩, ?_, ?_, ?_⟩
    · intro b o hb
      simp only at hb
      split at hb
      · rename_i h; subst h; cases hb; show (w.heap.push _)[w.heap.size]? = _; simp
      · cases hb
    · intro b hb
      right
      simp only at hb
      split at hb
      · rename_i h; omega
      · exact absurd rfl hb
    · intro b _ hlt
      show (w.heap.push _)[b]? = _
      rw [Array.getElem?_push, if_neg (Nat.ne_of_lt hlt)])
  exact h

theorem mtAt (H : S κ l w) (i : Nat) {b : Nat} {ps : List (Int × Value)} (hi : l[i]? = some (mpt b ps)) : ∃ es k, w.heap[b]? = some (.map es k) ∧ entsOk es.toList ps := by
  obtain ⟨h1, hl, es, k, h, he⟩ := H.at_ i hi
  exact ⟨es, k, hl _ _ h, he⟩

theorem insMap {K : Value → World → Prop} {Kp : List PanicEntry → World → Prop} {t tt : TypeId} {b : Nat} {ps : List (Int × Value)} {n : Int} {m k x : Operand} {z : Value} (H : S κ l w) (i : Nat) (hi : l[i]? = some (mpt b ps)) (hz : mapZ P t = some z)
    (hm : ρ m = .map (some b)) (hkey : ρ k = .int .i64 n) (hnew : seek ps n = none) (hK : ∀ w', S κ (l.set i (mpt b (ps ++ [(n, ρ x)]))) w' → K undef w') :
    rawX P (execOp ρ ⟨none, .insert t m k x, tt, "", #[], none⟩) w K Kp := by
  obtain ⟨kt, et, ht, hk, _⟩ := mapZ_inv hz
  obtain ⟨es, c, hb, he⟩ := H.mtAt i hi
  have hlt : b < w.heap.size := (Array.getElem?_eq_some_iff.1 hb).1
  have hrun : (execOp ρ ⟨none, .insert t m k x, tt, "", #[], none⟩).run P w = .ok .skip { w with heap := w.heap.setIfInBounds b (.map (es.push { key := .int .i64 n, val := ρ x, born := c }) (c + 1)) } := by
    show ((mapUpdate t (ρ m) (ρ k) (ρ x)) >>= fun _ => pure Next.skip).run P w = _
    rw [hm, hkey, Sem.run_bind]
    have h1 : (mapUpdate t (.map (some b)) (.int .i64 n) (ρ x)).run P w = .ok () { w with heap := w.heap.setIfInBounds b (.map (es.push { key := .int .i64 n, val := ρ x, born := c }) (c + 1)) } := by
      unfold mapUpdate
      rw [Sem.run_bind, run_underlying ht, Result.andThen_ok]
      show ((getObj b) >>= _).run P w = _
      rw [Sem.run_bind]
      have hg : (getObj b).run P w = .ok (.map es c) w := by simp [getObj, Sem.run, hb]
      rw [hg, Result.andThen_ok]
      show ((checkKey false 10000 kt (.int .i64 n)) >>= _).run P w = _
      rw [Sem.run_bind, run_checkKey_int hk, Result.andThen_ok, Sem.run_bind, run_findKey hk ((findNow_int .i64 n es.toList ps 0 he).1 hnew), Result.andThen_ok]
      have hb' : w.heap[b] = .map es c := by have := (Array.getElem?_eq_some_iff.1 hb).2; exact this
      simp [Go.setObj, Sem.run, hlt, hb']
    rw [h1]
    rfl
  unfold rawX
  rw [hrun]
  refine hK _ ?_
  refine H.step i hi rfl rfl rfl (by simp) (fun h1 hl ⟨es', c', hh, he'⟩ => ?_)
  have e0 := hl _ _ hh
  simp only [heapF, hb, Option.some.injEq, Obj.map.injEq] at e0
  obtain ⟨rfl, rfl⟩ := e0
  refine ⟨fun y => if y = b then some (.map (es.push { key := .int .i64 n, val := ρ x, born := c }) (c + 1)) else none, ⟨es.push { key := .int .i64 n, val := ρ x, born := c }, c + 1, by simp, ?_⟩, ?_, ?_, ?_⟩
  · simp [entsOk] at he ⊢; exact he
  · intro y o hy
    simp only at hy
    split at hy
    · rename_i h; subst h; cases hy; simp [heapF, hlt]
    · cases hy
  · intro y hy
    left
    simp only at hy
    split at hy
    · rename_i h; subst h; rw [hh]; simp
    · exact absurd rfl hy
  · intro y hy _
    have : y ≠ b := fun h => by subst h; rw [hh] at hy; cases hy
    simp [Array.getElem?_setIfInBounds, Ne.symm this]

theorem lookMap {K : Value → World → Prop} {Kp : List PanicEntry → World → Prop} {t tt : TypeId} {b : Nat} {ps : List (Int × Value)} {n : Int} {m k : Operand} {z : Value} {ok : Bool} (H : S κ l w) (i : Nat) (hi : l[i]? = some (mpt b ps)) (hz : mapZ P t = some z)
    (hm : ρ m = .map (some b)) (hkey : ρ k = .int .i64 n)
    (hK : K (lkR (seek ps n) z ok) w) :
    rawX P (execOp ρ ⟨none, .lookup t m k ok, tt, "", #[], none⟩) w K Kp := by
  obtain ⟨kt, et, ht, hk, hz⟩ := mapZ_inv hz
  obtain ⟨es, c, hb, he⟩ := H.mtAt i hi
  have hrun : (execOp ρ ⟨none, .lookup t m k ok, tt, "", #[], none⟩).run P w = .ok (.value (match seek ps n with | some v => if ok then .tuple #[v, .bool true] else v | none => if ok then .tuple #[z, .bool false] else z)) w := by
    show ((lookup t (ρ m) (ρ k) ok) >>= fun v => pure (Next.value v)).run P w = _
    rw [hm, hkey, Sem.run_bind]
    have h1 : (lookup t (.map (some b)) (.int .i64 n) ok).run P w = .ok (match seek ps n with | some v => if ok then .tuple #[v, .bool true] else v | none => if ok then .tuple #[z, .bool false] else z) w := by
      unfold lookup
      rw [Sem.run_bind, run_underlying ht, Result.andThen_ok]
      have hg : (getObj b).run P w = .ok (.map es c) w := by simp [getObj, Sem.run, hb]
      cases hlk : seek ps n with
      | none =>
        simp only [Sem.run_bind, hg, Result.andThen_ok, Sem.run_pure, run_checkKey_int hk, run_findKey hk ((findNow_int .i64 n es.toList ps 0 he).1 hlk), hz]
      | some v =>
        obtain ⟨j, hj⟩ := (findNow_int .i64 n es.toList ps 0 he).2 v hlk
        simp only [Sem.run_bind, hg, Result.andThen_ok, Sem.run_pure, run_checkKey_int hk, run_findKey hk hj]
    rw [h1]
    rfl
  unfold rawX
  rw [hrun]
  exact hK
end S
end Go.Shu
