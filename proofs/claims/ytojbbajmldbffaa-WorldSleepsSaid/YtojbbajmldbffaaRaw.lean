/- Interface values: compared with nil, asserted. -/
import Derived.Test.YtojbbajmldbffaaMaps
set_option linter.unusedSimpArgs false
set_option linter.unusedVariables false
namespace Go.Shu
open Go.Instr
def isI (P : Program) (t : TypeId) : Bool := match P.underlying t with
  | some (.interface _) => true
  | _ => false
def isC (P : Program) (t : TypeId) : Bool := match P.underlying t with
  | some (.interface _) => false
  | some _ => true
  | none => false
def zeroV (P : Program) (t : TypeId) : Option Value := match P.info? t with
  | some i => i.zero
  | none => none
theorem run_zeroV {P : Program} {t : TypeId} {z : Value} (h : zeroV P t = some z) (w : World) : (zeroValue t).run P w = .ok z w := by
  unfold zeroV at h
  split at h
  · rename_i i hi
    simp [zeroValue, run_typeInfo' hi, h]
  · cases h
section
variable {P : Program} {ρ : Operand → Value} {w : World} {K : Value → World → Prop} {Kp : List PanicEntry → World → Prop} {t a tt u : TypeId} {x y : Operand} {d : TypeId} {v : Value}
theorem rawX_val {o : Oper} (h : (execOp ρ o).run P w = .ok (.value v) w) (hK : K v w) : rawX P (execOp ρ o) w K Kp := by
  unfold rawX; rw [h]; exact hK
theorem eqNil_t (hI : isI P t = true) (hx : ρ x = .nilIface) (hy : ρ (.const .nilIface) = .nilIface) (hK : K (.bool true) w) : rawX P (execOp ρ ⟨none, .binOp .eql t x (.const .nilIface) u, tt, "", #[], none⟩) w K Kp := by
  refine rawX_val ?_ hK
  unfold isI at hI
  split at hI
  · rename_i ms hu
    show ((do eqGuard .eql t x (.const .nilIface) (ρ x) (ρ (.const .nilIface)); binOp .eql t (ρ x) (ρ (.const .nilIface))) >>= fun v => pure (Next.value v)).run P w = _
    rw [hx, hy]
    have h1 : (Op.equal t .nilIface .nilIface).run P w = .ok true w := by
      unfold Op.equal Op.maxDepth Op.equalIn
      rw [Sem.run_bind, run_underlying hu]
      rfl
    have h2 : (eqGuard .eql t x (.const .nilIface) .nilIface .nilIface).run P w = .ok () w := by
      unfold eqGuard; simp
    have h3 : (binOp .eql t .nilIface .nilIface).run P w = .ok (.bool true) w := by
      show ((do pure (.bool (← Op.equal t .nilIface .nilIface))) : Sem Value).run P w = _
      rw [Sem.run_bind, h1]; rfl
    rw [Sem.run_bind, Sem.run_bind, h2, Result.andThen_ok, h3]
    rfl
  · cases hI
theorem eqNil_f (hI : isI P t = true) (hx : ρ x = .iface d v) (hy : ρ (.const .nilIface) = .nilIface) (hK : K (.bool false) w) : rawX P (execOp ρ ⟨none, .binOp .eql t x (.const .nilIface) u, tt, "", #[], none⟩) w K Kp := by
  refine rawX_val ?_ hK
  unfold isI at hI
  split at hI
  · rename_i ms hu
    show ((do eqGuard .eql t x (.const .nilIface) (ρ x) (ρ (.const .nilIface)); binOp .eql t (ρ x) (ρ (.const .nilIface))) >>= fun v => pure (Next.value v)).run P w = _
    rw [hx, hy]
    have h1 : (Op.equal t (.iface d v) .nilIface).run P w = .ok false w := by
      unfold Op.equal Op.maxDepth Op.equalIn
      rw [Sem.run_bind, run_underlying hu]
      rfl
    have h2 : (eqGuard .eql t x (.const .nilIface) (.iface d v) .nilIface).run P w = .ok () w := by
      unfold eqGuard; simp
    have h3 : (binOp .eql t (.iface d v) .nilIface).run P w = .ok (.bool false) w := by
      show ((do pure (.bool (← Op.equal t (.iface d v) .nilIface))) : Sem Value).run P w = _
      rw [Sem.run_bind, h1]; rfl
    rw [Sem.run_bind, Sem.run_bind, h2, Result.andThen_ok, h3]
    rfl
  · cases hI
theorem assert_t (hC : isC P a = true) (hx : ρ x = .iface a v) (hK : K (.tuple ([v, .bool true] : List Value).toArray) w) : rawX P (execOp ρ ⟨none, .typeAssert x t a true, tt, "", #[], none⟩) w K Kp := by
  refine rawX_val ?_ hK
  show ((typeAssert (ρ x) t a true) >>= fun v => pure (Next.value v)).run P w = _
  rw [hx, Sem.run_bind]
  have h1 : (typeAssert (.iface a v) t a true).run P w = .ok (.tuple #[v, .bool true]) w := by
    unfold typeAssert
    unfold isC at hC
    split at hC
    · cases hC
    · rename_i dd hne hu
      rw [Sem.run_bind, run_underlying hu, Result.andThen_ok]
      cases dd <;> first | exact absurd rfl (hne _) | simp
    · cases hC
  rw [h1]; rfl
theorem assert_f {z : Value} (hC : isC P a = true) (hz : zeroV P a = some z) (hx : ρ x = .iface d v) (hda : d ≠ a) (hK : K (.tuple ([z, .bool false] : List Value).toArray) w) : rawX P (execOp ρ ⟨none, .typeAssert x t a true, tt, "", #[], none⟩) w K Kp := by
  refine rawX_val ?_ hK
  show ((typeAssert (ρ x) t a true) >>= fun v => pure (Next.value v)).run P w = _
  rw [hx, Sem.run_bind]
  have h1 : (typeAssert (.iface d v) t a true).run P w = .ok (.tuple #[z, .bool false]) w := by
    unfold typeAssert
    unfold isC at hC
    split at hC
    · cases hC
    · rename_i dd hne hu
      rw [Sem.run_bind, run_underlying hu, Result.andThen_ok]
      cases dd <;> first | exact absurd rfl (hne _) | simp [hda, run_zeroV hz]
    · cases hC
  rw [h1]; rfl
theorem eqPtr_f {e : TypeId} {b : Addr} (hI : P.underlying t = some (.pointer e)) (hx : ρ x = .pointer (some b)) (hy : ρ (.const (.pointer none)) = .pointer none) (hK : K (.bool false) w) : rawX P (execOp ρ ⟨none, .binOp .eql t x (.const (.pointer none)) u, tt, "", #[], none⟩) w K Kp := by
  refine rawX_val ?_ hK
  show ((do eqGuard .eql t x (.const (.pointer none)) (ρ x) (ρ (.const (.pointer none))); binOp .eql t (ρ x) (ρ (.const (.pointer none)))) >>= fun v => pure (Next.value v)).run P w = _
  rw [hx, hy]
  have h1 : (Op.equal t (.pointer (some b)) (.pointer none)).run P w = .ok false w := by
    unfold Op.equal Op.maxDepth Op.equalIn
    rw [Sem.run_bind, run_underlying hI]
    rfl
  have h2 : (eqGuard .eql t x (.const (.pointer none)) (.pointer (some b)) (.pointer none)).run P w = .ok () w := by
    unfold eqGuard; simp
  have h3 : (binOp .eql t (.pointer (some b)) (.pointer none)).run P w = .ok (.bool false) w := by
    show ((do pure (.bool (← Op.equal t (.pointer (some b)) (.pointer none)))) : Sem Value).run P w = _
    rw [Sem.run_bind, h1]; rfl
  rw [Sem.run_bind, Sem.run_bind, h2, Result.andThen_ok, h3]
  rfl
def isPtr (P : Program) (t : TypeId) : Bool := match P.underlying t with
  | some (.pointer _) => true
  | _ => false
theorem eqPtr_f' {b : Addr} (hI : isPtr P t = true) (hx : ρ x = .pointer (some b)) (hy : ρ (.const (.pointer none)) = .pointer none) (hK : K (.bool false) w) : rawX P (execOp ρ ⟨none, .binOp .eql t x (.const (.pointer none)) u, tt, "", #[], none⟩) w K Kp := by
  unfold isPtr at hI
  split at hI
  · rename_i e he; exact eqPtr_f he hx hy hK
  · cases hI
end
end Go.Shu
