/- A plain wp over slim code, and that it is sound. -/
import Derived.Test.YtojbbajmldbffaaSlim
import Derived.Defers
import Derived.Laws.Panics
universe u
namespace Go.Shu

abbrev Env := Nat → Value
def upd (e : Env) (d : Nat) (v : Value) : Env := fun x => if x = d then v else e x
def upo (e : Env) : Option Nat → Value → Env
  | none, _ => e
  | some d, v => upd e d v
def ev (e : Env) : Operand → Value
  | .tmp t => e t
  | .const v => v
  | .global g => .pointer (some ⟨g, 0, none⟩)
  | .func f => .func (.func f) #[] #[]

/-- What an argument's type names is not looked into by simp ('-dsimp'). -/
abbrev Dum {α : Sort u} (_ : α) : Type := Unit
/-! ### Small forms that the walk stops at -/
def pX (v : Value) (K : Addr → Prop) (_ : Dum K := ()) : Prop := match v with | .pointer (some a) => K a | _ => False
def tX (v : Value) (K : Bool → Prop) (_ : Dum K := ()) : Prop := match v with | .bool t => K t | _ => False
def ldX {α : Type} (c : Option α) (K : α → Prop) (_ : Dum K := ()) : Prop := ∃ v, c = some v ∧ K v
def reqX (p : Prop) (K : Unit → Prop) (_ : Dum K := ()) : Prop := p ∧ K ()
def gdX (v : Value) (b : Bool) (A B : Unit → Prop) (_ : Dum A := ()) (_ : Dum B := ()) : Prop := match v with | .bool t => if t = b then A () else B () | _ => B ()
def cdX (t : Bool) (A B : Unit → Prop) (_ : Dum A := ()) (_ : Dum B := ()) : Prop := if t = true then A () else B ()
def nilX (v : Value) (K : Value → Prop) (_ : Dum K := ()) : Prop := match v with
  | .pointer (some a) => K (.pointer (some a))
  | .func (.func f) x y => K (.func (.func f) x y)
  | _ => False
def drX (w : World) (K : World → Prop) (_ : Dum K := ()) : Prop := K w.drew
def alX (w : World) (t : TypeId) (c : List Value) (K : Value → World → Prop) (_ : Dum K := ()) : Prop := K (.pointer (some ⟨w.heap.size, 0, none⟩)) (w.alloc (.cells c.toArray t))
def bsX (w : World) (t : TypeId) (n : Nat) (c : List Value) (K : Value → World → Prop) (_ : Dum K := ()) : Prop := K (.slice (some ⟨w.heap.size, 0, none⟩) n n) (w.alloc (.cells c.toArray t))
def callX (P : Program) (k : FuncId) (args : List Value) (w : World) (K : Value → World → Prop) (Kp : List PanicEntry → World → Prop) (_ : Dum K := ()) (_ : Dum Kp := ()) : Prop :=
  Calls P k args.toArray w fun e w' => match e with
    | .returned v => K v w'
    | .panicked ch => Kp ch w'
    | .outgrown => False
def survX (pend : List (Nat × (World → Prop))) (surv : List Nat) (w w' : World) (K : Unit → Prop) (_ : Dum K := ()) (_ : Dum pend := ()) : Prop := (∀ p ∈ pend, p.1 ∈ surv → p.2 w → p.2 w') ∧ K ()
def rawX (P : Program) (s : Sem Next) (w : World) (K : Value → World → Prop) (Kp : List PanicEntry → World → Prop) (_ : Dum K := ()) (_ : Dum Kp := ()) : Prop :=
  match s.run P w with
  | .ok (.value v) w' => K v w'
  | .ok .skip w' => K undef w'
  | .halt (.panic v) w' => Kp [{ v, recovered := false }] w'
  | _ => False

def putL : List Value → Nat → List Value → List Value
  | c, _, [] => c
  | c, off, v :: r => putL (c.set off v) (off + 1) r

theorem length_putL : ∀ (vs c : List Value) (off : Nat), (putL c off vs).length = c.length
  | [], _, _ => rfl
  | v :: r, c, off => by rw [putL, length_putL r]; simp

def rowOf (w : World) (a : Addr) (n : Nat) : Option (List Value) :=
  match w.heap[a.block]? with
  | some (.cells c _ _) => if a.spot.isNone && decide (a.off + n ≤ c.size) then some ((c.toList.drop a.off).take n) else none
  | _ => none

def setObj (w : World) (b : Nat) (o : Obj) : World := { w with heap := w.heap.setIfInBounds b o }

def stX (w : World) (a : Addr) (vs : List Value) (K : World → Prop) (_ : Dum K := ()) : Prop :=
  ∃ c T, w.heap[a.block]? = some (.cells c T (0, 0)) ∧ a.spot = none ∧ a.off + vs.length ≤ c.size ∧ vs.all Value.oneCell' = true ∧
    K (setObj w a.block (.cells (putL c.toList a.off vs).toArray T (0, 0)))

def fillL : List Value → List (Nat × Nat × Value) → Option (List Value)
  | c, [] => some c
  | c, (off, s, v) :: r => if v.cells.toList.length = s ∧ off + s ≤ c.length then fillL (putL c off v.cells.toList) r else none

def intV (op : BinOp) (k : IntKind) (a b : Int) : Option Value :=
  match op with
  | .add => some (.int k (k.wrap (a + b)))
  | .sub => some (.int k (k.wrap (a - b)))
  | .mul => some (.int k (k.wrap (a * b)))
  | .quo => if b = 0 then none else some (.int k (k.wrap (a.tdiv b)))
  | .rem => if b = 0 then none else some (.int k (a.tmod b))
  | .and => some (.int k (k.wrap (BitVec.ofInt k.bits a &&& BitVec.ofInt k.bits b).toNat))
  | .or => some (.int k (k.wrap (BitVec.ofInt k.bits a ||| BitVec.ofInt k.bits b).toNat))
  | .xor => some (.int k (k.wrap (BitVec.ofInt k.bits a ^^^ BitVec.ofInt k.bits b).toNat))
  | .eql => some (.bool (decide (a = b)))
  | .neq => some (.bool (!decide (a = b)))
  | .lss => some (.bool (decide (a < b)))
  | .leq => some (.bool (decide (a ≤ b)))
  | .gtr => some (.bool (decide (b < a)))
  | .geq => some (.bool (decide (b ≤ a)))
  | _ => none
def shV (op : BinOp) (k : IntKind) (a b : Int) : Option Value :=
  if b < 0 then none else match op with
  | .shl => some (.int k (k.wrap (a * 2 ^ (Nat.min b.toNat k.bits))))
  | .shr => some (.int k (a.fdiv (2 ^ (Nat.min b.toNat k.bits))))
  | _ => none
def binV (op : BinOp) (x y : Value) : Option Value :=
  match x, y with
  | .int k a, .int k' b => if op = .shl ∨ op = .shr then shV op k a b else if k = k' then intV op k a b else none
  | .string a, .string b => match op with
    | .add => if a.size + b.size ≤ 9223372036854775807 then some (.string (a ++ b)) else none
    | .eql => some (.bool (a.toList == b.toList))
    | .neq => some (.bool (!(a.toList == b.toList)))
    | _ => none
  | _, _ => none
def beqV (neg : Bool) (x y : Value) : Option Value :=
  match x, y with
  | .bool a, .bool b => some (.bool (xor neg (a == b)))
  | _, _ => none
def unV (op : UnOp) (x : Value) : Option Value :=
  match op, x with
  | .not, .bool b => some (.bool !b)
  | .neg, .int k n => some (.int k (k.wrap (0 - n)))
  | .xor, .int k n => some (.int k (k.wrap (BitVec.ofInt k.bits (if k.signed then -1 else k.max) ^^^ BitVec.ofInt k.bits n).toNat))
  | _, _ => none
def cvV (k : IntKind) (x : Value) : Option Value := match x with | .int _ n => some (.int k (k.wrap n)) | _ => none
def lenV (str : Bool) (x : Value) : Option Value := match str, x with
  | false, .slice _ n _ => some (.int .i64 n)
  | true, .string s => some (.int .i64 s.size)
  | _, _ => none
def mmV (mx : Bool) (x y : Value) : Option Value := match x, y with
  | .int k a, .int _ b => some (.int k (if mx then (if b > a then b else a) else (if b < a then b else a)))
  | _, _ => none
def extV (x : Value) (i : Nat) : Option Value := match x with | .tuple vs => vs[i]? | _ => none
def fdV (off : Nat) (n : Option Nat) (x : Value) : Option Value := match x with
  | .agg cs => match n with
    | none => cs[off]?
    | some n => some (.agg (cs.extract off (off + n)))
  | _ => none

def ixX (len : Nat) (a : Addr) (esz : Nat) (i : Value) (K : Value → Prop) (_ : Dum K := ()) : Prop := match i with
  | .int _ n => reqX (0 ≤ n ∧ n < (len : Int)) (fun _ => K (.pointer (some (a.add (n.toNat * esz)))))
  | _ => False
def slcX (x : Value) (K : Option Addr → Nat → Nat → Prop) (_ : Dum K := ()) : Prop := match x with | .slice a n c => K a n c | _ => False
def intX (x : Value) (K : Int → Prop) (_ : Dum K := ()) : Prop := match x with | .int _ n => K n | _ => False
def someX {α : Type} (x : Option α) (K : α → Prop) (_ : Dum K := ()) : Prop := match x with | some a => K a | none => False
def bndX (x : Option Value) (d : Int) (K : Int → Prop) (_ : Dum K := ()) : Prop := match x with | none => K d | some v => intX v K

def rowO (w : World) (b : Option Addr) (n : Nat) (l : List Value) : Prop := match b with
  | some b => rowOf w b n = some l
  | none => l = []
/-- append: where there is room, and where there is none. -/
def appX (t : TypeId) (esz bytes : Nat) (zero : Array Value) (x y : Value) (w : World) (K : Value → World → Prop) (_ : Dum K := ()) : Prop :=
  slcX x fun a n c => slcX y fun b m _ =>
    ∃ vs, rowO w b (m * esz) vs ∧
      (n + m ≤ c → (match a with
        | some a => stX w (a.add (n * esz)) vs fun w' => K (.slice (some a) (n + m) c) w'
        | none => K (.slice none (n + m) c) w)) ∧
      (c < n + m → ∃ old, rowO w a (n * esz) old ∧ Builtin.nextslicecap (n + m) c * bytes ≤ 281474976710656 ∧
        ∀ cap, n + m ≤ cap → cap < 9223372036854775808 → ∀ sp : List Value, sp.length = (cap - (n + m)) * zero.size →
          K (.slice (some ⟨w.heap.size, 0, none⟩) (n + m) cap) (w.drew.alloc (.cells (old ++ vs ++ sp).toArray t)))

def vals (e : Env) (l : List Operand) : List Value := l.map (ev e)
def pvals (e : Env) (l : List (Nat × Nat × Operand)) : List (Nat × Nat × Value) := l.map fun p => (p.1, p.2.1, ev e p.2.2)

/-- An operation that reads alone. -/
def qX (e : Env) (w : World) (op : SOp) (K : Value → Prop) (_ : Dum K := ()) : Prop :=
  match op with
  | .mv x => K (ev e x)
  | .pick c a b => tX (ev e c) fun t => K (bif t then ev e a else ev e b)
  | .bd z ps => ldX (fillL z (pvals e ps)) fun l => K (.agg l.toArray)
  | .ld a => pX (ev e a) fun a => ldX (w.cell? a) K
  | .lda n a => pX (ev e a) fun a => ldX (rowOf w a n) fun l => K (.agg l.toArray)
  | .nil x => nilX (ev e x) K
  | .bin op x y => ldX (binV op (ev e x) (ev e y)) K
  | .beq neg x y => ldX (beqV neg (ev e x) (ev e y)) K
  | .un op x => ldX (unV op (ev e x)) K
  | .cv k x => ldX (cvV k (ev e x)) K
  | .fa off x => pX (ev e x) fun a => K (.pointer (some (a.add off)))
  | .fd off n x => ldX (fdV off n (ev e x)) K
  | .ix esz x i => slcX (ev e x) fun a n _ => someX a fun a => ixX n a esz (ev e i) K
  | .ixa len esz x i => pX (ev e x) fun a => ixX len a esz (ev e i) K
  | .sl esz x lo hi mx => slcX (ev e x) fun a n c => bndX (mx.map (ev e)) c fun m => bndX (hi.map (ev e)) n fun h => bndX (lo.map (ev e)) 0 fun l =>
      reqX (0 ≤ l ∧ l ≤ h ∧ h ≤ m ∧ m ≤ (c : Int) ∧ (mx.isSome → hi.isSome)) (fun _ => K (.slice (if m.toNat = l.toNat then a else a.map (·.add (l.toNat * esz))) (h.toNat - l.toNat) (m.toNat - l.toNat)))
  | .sla len esz x lo hi => pX (ev e x) fun a => bndX (hi.map (ev e)) len fun h => bndX (lo.map (ev e)) 0 fun l =>
      reqX (0 ≤ l ∧ l ≤ h ∧ h ≤ (len : Int)) (fun _ => K (.slice (some (if len = l.toNat then a else a.add (l.toNat * esz))) (h.toNat - l.toNat) (len - l.toNat)))
  | .len str x => ldX (lenV str (ev e x)) K
  | .min x y => ldX (mmV false (ev e x) (ev e y)) K
  | .max x y => ldX (mmV true (ev e x) (ev e y)) K
  | .ext x i => ldX (extV (ev e x) i) K
  | .mi t x => K (.iface t (ev e x))
  | .mf fn first cap => K (.func fn (vals e first).toArray (vals e cap).toArray)
  | _ => False

/-- Any operation. -/
def opX (P : Program) (e : Env) (w : World) (op : SOp) (K : Value → World → Prop) (Kp : List PanicEntry → World → Prop) (_ : Dum K := ()) : Prop :=
  match op with
  | .al t z => alX w t z K
  | .box t x => alX w t (ev e x).cells.toList K
  | .bs t n z ps => ldX (fillL z (pvals e ps)) fun l => bsX w t n l K
  | .st n a v => pX (ev e a) fun a => reqX ((ev e v).cells.toList.length = n) (fun _ => stX w a (ev e v).cells.toList fun w' => K undef w')
  | .app t s b z x y => appX t s b z (ev e x) (ev e y) w K
  | .call f args => callX P f (vals e args) w K Kp
  | .callv f args => match ev e f with
    | .func (.func k) first cap => reqX (callable P k = true) (fun _ => callX P k (first.toList ++ vals e args ++ cap.toList) w K Kp)
    | _ => False
  | .pan x => match ev e x with
    | .iface t v => Kp [{ v := .iface t v, recovered := false }] w
    | _ => False
  | .raw o t => rawX P (execOp (ev e) ⟨none, o, t, "", #[], none⟩) w K Kp
  | op => qX e w op fun v => K v w

def gX (e : Env) (g : Option (Nat × Bool)) (A B : Unit → Prop) (_ : Dum A := ()) (_ : Dum B := ()) : Prop := match g with
  | none => A ()
  | some (t, b) => gdX (e t) b A B

def Xs (P : Program) (Kp : List PanicEntry → World → Prop) : List SIns → (Env → World → Prop) → Env → World → Prop
  | [], K, e, w => K e w
  | s :: r, K, e, w => gX e s.guard (fun _ => opX P e w s.op (fun v w' => Xs P Kp r K (upo e s.dst v) w') Kp) (fun _ => Xs P Kp r K (upo e s.dst undef) w)

/-- What must hold of a world, that this load yields what it yielded. -/
def ldJ (e : Env) (w : World) : SOp → World → Prop
  | .ld a => fun w' => match ev e a with | .pointer (some a) => w'.cell? a = w.cell? a | _ => True
  | .lda n a => fun w' => match ev e a with | .pointer (some a) => rowOf w' a n = rowOf w a n | _ => True
  | _ => fun _ => True

def Xd (P : Program) (Kp : List PanicEntry → World → Prop) : DT → (pend : List (Nat × (World → Prop))) → (Env → World → Prop) → Env → World → Dum pend → Prop
  | .n, _, K, e, w, _ => K e w
  | .q i s r, pend, K, e, w, _ => gX e s.guard (fun _ => qX e w s.op fun v => Xd P Kp r (if s.op.loads then (i, ldJ e w s.op) :: pend else pend) K (upo e s.dst v) w ()) (fun _ => Xd P Kp r pend K (upo e s.dst undef) w ())
  | .x surv s r, pend, K, e, w, _ => gX e s.guard (fun _ => opX P e w s.op (fun v w' => survX pend surv w w' (fun _ => Xd P Kp r pend K (upo e s.dst v) w' ())) Kp) (fun _ => Xd P Kp r pend K (upo e s.dst undef) w ())
  | .b l r, pend, K, e, w, _ => Xd P Kp l pend K e w () ∧ Xd P Kp r pend K e w ()

inductive Ex where
  | n
  | x (id : Nat)
  | r

def thenX (K : Env → World → Prop) (Q : Ex → Env → World → Prop) : Ex → Env → World → Prop
  | .n => K
  | x => Q x
def blockX (id : Nat) (Q : Ex → Env → World → Prop) : Ex → Env → World → Prop
  | .x j => if j = id then Q .n else Q (.x j)
  | x => Q x

def X (P : Program) (Kp : List PanicEntry → World → Prop) : SC → (Ex → Env → World → Prop) → Env → World → Prop
  | .skip, Q, e, w => Q .n e w
  | .ops l, Q, e, w => Xs P Kp l (Q .n) e w
  | .draw l, Q, e, w => drX w fun w => Xd P Kp l [] (Q .n) e w ()
  | .seq a b, Q, e, w => X P Kp a (thenX (X P Kp b Q) Q) e w
  | .cond c a b, Q, e, w => tX (ev e c) fun t => cdX t (fun _ => X P Kp a Q e w) (fun _ => X P Kp b Q e w)
  | .block id b, Q, e, w => X P Kp b (blockX id Q) e w
  | .loop b, Q, e, w => ∃ (I : Env → World → Prop) (μ : Env → World → Nat), I e w ∧ ∀ e w, I e w → X P Kp b (thenX (fun e' w' => I e' w' ∧ μ e' w' < μ e w) Q) e w
  | .exit id, Q, e, w => Q (.x id) e w
  | .ret, Q, e, w => Q .r e w

end Go.Shu
