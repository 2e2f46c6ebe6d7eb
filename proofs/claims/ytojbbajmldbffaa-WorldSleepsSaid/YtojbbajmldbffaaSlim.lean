/- Slim code: the program's tables resolved; an order for each region that draws. -/
import Derived.Test.YtojbbajmldbffaaRegion
import Derived.Laws.Cells
import Derived.Laws.Append
import Derived.Laws.World
import Derived.Laws.Tables
namespace Go.Shu

/-! ### What an operation is, its types resolved -/

inductive SOp where
  | mv (x : Operand)
  | pick (c a b : Operand)
  | al (t : TypeId) (zero : List Value)
  | box (t : TypeId) (x : Operand)
  | bd (zero : List Value) (parts : List (Nat × Nat × Operand))
  | bs (t : TypeId) (len : Nat) (zero : List Value) (parts : List (Nat × Nat × Operand))
  | ld (a : Operand)
  | lda (n : Nat) (a : Operand)
  | st (n : Nat) (a v : Operand)
  | nil (x : Operand)
  | bin (op : BinOp) (x y : Operand)
  | beq (neg : Bool) (x y : Operand)
  | un (op : UnOp) (x : Operand)
  | cv (k : IntKind) (x : Operand)
  | fa (off : Nat) (x : Operand)
  | fd (off : Nat) (n : Option Nat) (x : Operand)
  | ix (esz : Nat) (x i : Operand)
  | ixa (len esz : Nat) (x i : Operand)
  | sl (esz : Nat) (x : Operand) (lo hi mx : Option Operand)
  | sla (len esz : Nat) (x : Operand) (lo hi : Option Operand)
  | len (str : Bool) (x : Operand)
  | min (x y : Operand)
  | max (x y : Operand)
  | app (t : TypeId) (esz bytes : Nat) (zero : Array Value) (x y : Operand)
  | ext (x : Operand) (i : Nat)
  | mi (t : TypeId) (x : Operand)
  | mf (fn : Fn) (first captured : List Operand)
  | call (f : FuncId) (args : List Operand)
  | callv (f : Operand) (args : List Operand)
  | pan (x : Operand)
  | raw (o : Op) (t : TypeId)
  deriving Inhabited

structure SIns where
  dst : Option Nat
  op : SOp
  guard : Option (Nat × Bool) := none
  deriving Inhabited

inductive DT where
  | n
  | q (i : Nat) (s : SIns) (r : DT)
  | x (surv : List Nat) (s : SIns) (r : DT)
  | b (l r : DT)
  deriving Inhabited

inductive SC where
  | skip
  | ops (l : List SIns)
  | draw (l : DT)
  | seq (a b : SC)
  | cond (c : Operand) (a b : SC)
  | block (id : Nat) (b : SC)
  | loop (b : SC)
  | exit (id : Nat)
  | ret
  deriving Inhabited

def tyZero (P : Program) (t : TypeId) : Option (Array Value) := (P.info? t).bind fun i => i.zero.map Value.cells
def tySize (P : Program) (t : TypeId) : Option Nat := (P.info? t).map (·.size)
def tyAgg (P : Program) (t : TypeId) : Option Bool := (P.underlying t).map fun | .struct _ | .array _ _ => true | _ => false
def callable (P : Program) (f : FuncId) : Bool := match P.funcs[f]? with | some fn => fn.name != "runtime.NumGoroutine" && fn.body.isSome | none => false

def slimParts (place : Nat → Option (Nat × Nat)) : List (Nat × Operand) → Option (List (Nat × Nat × Operand))
  | [] => some []
  | (i, x) :: r => match place i, slimParts place r with
    | some (off, s), some r => some ((off, s, x) :: r)
    | _, _ => none

def scalar (P : Program) (t : TypeId) : Bool := tyAgg P t == some false

def slimOp (P : Program) (o : Oper) : Option SOp :=
  match o.op with
  | .move x | .assign x => some (.mv x)
  | .pick c a b => some (.pick c a b)
  | .alloc t => (tyZero P t).map fun z => .al t z.toList
  | .box t x => some (.box t x)
  | .build t parts => match P.info? t, P.underlying t with
    | some it, some (.array _ e) => match it.zero, P.info? e with
      | some z, some ie => (slimParts (fun i => some (i * ie.size, ie.size)) parts.toList).map (.bd z.cells.toList ·)
      | _, _ => none
    | some it, some (.struct fs) => match it.zero, fs.toList.mapM (fun f => (P.info? f.type).map fun i => (f.offset, i.size)) with
      | some z, some places => (slimParts (places.toArray[·]?) parts.toList).map (.bd z.cells.toList ·)
      | _, _ => none
    | _, _ => none
  | .buildSlice t len parts => match P.underlying t with
    | some (.slice e) => match tySize P e, tyZero P e with
      | some s, some z => if len * s ≤ 2 ^ 24 then
          (slimParts (fun i => some (i * s, s)) parts.toList).map fun ps => .bs e len ((Array.range (len * s)).map (z[· % z.size]!)).toList ps
        else none
      | _, _ => none
    | _ => none
  | .load t a => match tyAgg P t with
    | some false => some (.ld a)
    | some true => (tySize P t).map fun n => .lda n a
    | none => none
  | .store t a v => (tySize P t).map fun n => .st n a v
  | .nilCheck x => some (.nil x)
  | .binOp op t x y _ => match P.underlying t with
    | some (.int _) | some .string => some (.bin op x y)
    | some .bool => match op with | .eql => some (.beq false x y) | .neq => some (.beq true x y) | _ => none
    | _ => some (.raw o.op o.type)
  | .unOp op _ x => some (.un op x)
  | .convert s d x => match P.underlying s, P.underlying d with
    | some (.int _), some (.int k) => some (.cv k x)
    | _, _ => some (.raw o.op o.type)
  | .fieldAddr s x f => match P.underlying s with
    | some (.struct fs) => match fs[f]? with
      | some f => match tySize P f.type with
        | some (_ + 1) => some (.fa f.offset x)
        | _ => none
      | none => none
    | _ => none
  | .field s x f => match P.underlying s with
    | some (.struct fs) => match fs[f]? with
      | some f => match tyAgg P f.type with
        | some false => some (.fd f.offset none x)
        | some true => (tySize P f.type).map fun n => .fd f.offset (some n) x
        | none => none
      | none => none
    | _ => none
  | .indexAddr t x i => match P.underlying t with
    | some (.slice e) => (tySize P e).map fun s => .ix s x i
    | some (.array n e) => (tySize P e).map fun s => .ixa n s x i
    | _ => none
  | .slice t x lo hi mx => match P.underlying t with
    | some (.slice e) => (tySize P e).map fun s => .sl s x lo hi mx
    | some (.array n e) => if mx.isNone then (tySize P e).map fun s => .sla n s x lo hi else none
    | _ => some (.raw o.op o.type)
  | .makeInterface t x => match P.underlying t with
    | some (.interface _) | none => none
    | _ => some (.mi t x)
  | .makeFunc fn first captured => some (.mf fn first.toList captured.toList)
  | .extract x i => some (.ext x i)
  | .panic x => some (.pan x)
  | .call c => match c.callee with
    | .value (.func f) => if callable P f then some (.call f c.args.toList) else none
    | .value x => some (.callv x c.args.toList)
    | .builtin .len => match c.args.toList, c.argTypes[0]? with
      | [x], some t => match P.underlying t with
        | some (.slice _) => some (.len false x)
        | some .string => some (.len true x)
        | _ => some (.raw o.op o.type)
      | _, _ => none
    | .builtin .min => match c.args.toList with | [x, y] => some (.min x y) | _ => some (.raw o.op o.type)
    | .builtin .max => match c.args.toList with | [x, y] => some (.max x y) | _ => some (.raw o.op o.type)
    | .builtin .append => match c.args.toList, c.argTypes[0]?, c.argTypes[1]? with
      | [x, y], some t, some u => match P.underlying t, P.underlying u with
        | some (.slice e), some (.slice _) => match tySize P e, (P.info? e).map (·.bytes), tyZero P e with
          | some s, some (b + 1), some z => some (.app e s (b + 1) z x y)
          | _, _, _ => none
        | _, _ => some (.raw o.op o.type)
      | _, _, _ => none
    | _ => some (.raw o.op o.type)
  | .defer _ | .go _ | .select .. | .recv .. | .send .. => none
  | _ => some (.raw o.op o.type)

def dstOk (n : Nat) : Option Nat → Bool
  | none => true
  | some d => decide (d < n)

/-- A guard names an operation; what is looked at is its temporary. -/
def slimIns (P : Program) (n : Nat) (ops : List Oper) (o : Oper) : Option SIns :=
  match slimOp P o with
  | none => none
  | some op =>
    if dstOk n o.dst then
      match o.guard with
      | none => some { dst := o.dst, op }
      | some (j, b) => match (ops[j]?).bind (·.dst) with
        | some t => if t < n then some { dst := o.dst, op, guard := some (t, b) } else none
        | none => none
    else none

def slimList (P : Program) (n : Nat) (ops : List Oper) : List Oper → Option (List SIns)
  | [] => some []
  | o :: r => match slimIns P n ops o, slimList P n ops r with
    | some s, some l => some (s :: l)
    | _, _ => none

/-- Whatever world: these yield a value and leave the world (a load: if its cells are as they are). -/
def SOp.quiet : SOp → Bool
  | .mv _ | .pick .. | .bd .. | .ld _ | .lda .. | .nil _ | .bin .. | .beq .. | .un .. | .cv .. | .fa .. | .fd .. | .ix .. | .ixa .. | .sl .. | .sla .. | .len .. | .min .. | .max .. | .ext .. | .mi .. | .mf .. => true
  | _ => false
def SOp.loads : SOp → Bool
  | .ld _ | .lda .. => true
  | _ => false

/-- Which operations each one waits for, at however many steps: by masks. -/
def ancOf (acc : List Nat) : List Edge → Nat
  | [] => 0
  | e :: r => if Region.binds .any e && decide (e.on < acc.length) then (1 <<< e.on) ||| acc.getD e.on 0 ||| ancOf acc r else ancOf acc r
def anc : List Nat → List Oper → List Nat
  | acc, [] => acc
  | acc, o :: r => anc (acc ++ [ancOf acc o.after.toList]) r

def slimDraw (P : Program) (n : Nat) (ops : List Oper) (A : List Nat) : ST → List (Nat × Bool) → Option DT
  | .n, _ => some .n
  | .q i r, seen => match ops[i]? with
    | none => none
    | some o => match slimIns P n ops o with
      | none => none
      | some s => if s.op.quiet && s.dst.isSome then (slimDraw P n ops A r ((i, s.op.loads) :: seen)).map (.q i s ·) else none
  | .x i r, seen => match ops[i]? with
    | none => none
    | some o => match slimIns P n ops o with
      | none => none
      | some s => (slimDraw P n ops A r seen).map (.x ((seen.filter fun p => p.2 && !(A.getD i 0).testBit p.1).map (·.1)) s ·)
  | .b l r, seen => match slimDraw P n ops A l seen, slimDraw P n ops A r seen with
    | some x, some y => some (.b x y)
    | _, _ => none

def slim (P : Program) (n : Nat) (hints : List (Nat × ST × List OD)) : Code → Option SC
  | .skip => some .skip
  | .region id ops false => let _ := id; (slimList P n ops.toList ops.toList).map .ops
  | .region id ops true => match hints.lookup id with
    | none => none
    | some (σ, D) => if P.follows .mixedOrders && Region.noSelect ops && decide (σ.size = ops.size) && decide (D = ops.toList.map (odOf ops)) && okF D σ false 0 then
        (slimDraw P n ops.toList (anc [] ops.toList) σ []).map .draw
      else none
  | .seq a b => match slim P n hints a, slim P n hints b with
    | some x, some y => some (.seq x y)
    | _, _ => none
  | .cond c a b => match slim P n hints a, slim P n hints b with
    | some x, some y => some (.cond c x y)
    | _, _ => none
  | .block id b => (slim P n hints b).map (.block id)
  | .loop b => (slim P n hints b).map .loop
  | .exit id => some (.exit id)
  | .ret => some .ret
  | _ => none

end Go.Shu
