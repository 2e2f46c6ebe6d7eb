/- All goroutines as plain data: what an instruction does; how a world lies in memory. -/
import Derived.Test.YtojbbajmldbffaaData
set_option linter.unusedSimpArgs false
set_option linter.unusedVariables false
namespace Go.Shu

structure Wait where
  g : Nat
  case : Int
  v : Int
  deriving Inhabited, DecidableEq
structure Chan where
  room : Int
  buffer : List Int
  senders : List Wait
  receivers : List Wait
  closed : Bool
  deriving Inhabited, DecidableEq
structure Gor where
  status : Int
  s : List Fr
  waits : Ins
structure Wd where
  gs : List Gor
  clock : Nat
  chans : List Chan
  locks : List (List Nat)
  sleep : List HItem
  seq : Nat
  out : List Int
  end_ : Int
  code : Int
  ready : List Nat

def noIns : Ins := ⟨0, 0, 0, 0⟩
def Gor.modTop (G : Gor) (h : Fr → Fr) : Gor := { G with s := G.s.modify (G.s.length - 1) h }
def Wd.modG (W : Wd) (g : Nat) (f : Gor → Gor) : Wd := { W with gs := W.gs.modify g f }
def Wd.wake (W : Wd) (g : Nat) : Wd := { W.modG g (fun G => { G with status := 1, waits := noIns }) with ready := W.ready ++ [g] }
def Wd.setReg (W : Wd) (g : Nat) (n v : Int) : Wd := W.modG g fun G => G.modTop fun f => f.set n v
def Wd.status (W : Wd) (g : Nat) (s : Int) (x : Ins) : Wd := W.modG g fun G => { G with status := s, waits := x }

/-- What an instruction comes to. -/
inductive OR where
  | ok (W : Wd)
  | trap (c : Int) (W : Wd)

def callW (W : Wd) (g : Nat) (G : Gor) (f : Fr) (x : Ins) : OR :=
  if G.s.length < 16 then .ok (W.modG g fun G => { G with s := G.s ++ [call1 x.a (f.get x.b) x.c] }) else .trap (-4) W
def backW (W : Wd) (g : Nat) (G : Gor) (f : Fr) (x : Ins) : OR :=
  if 2 ≤ G.s.length then .ok (W.modG g fun G => { G with s := G.s.dropLast.modify (G.s.length - 2) fun h => h.set f.into (f.get x.a) })
  else .ok { W.status g 4 noIns with end_ := if g = 0 then 1 else W.end_ }
def spawnW (W : Wd) (g : Nat) (f : Fr) (x : Ins) : OR :=
  if 100 ≤ W.gs.length then .trap (-5) W
  else .ok ((Wd.wake { W with gs := W.gs ++ [⟨0, [begin1 x.a (f.get x.b)], noIns⟩] } W.gs.length).setReg g x.c W.gs.length)
def sleepW (W : Wd) (g : Nat) (f : Fr) (x : Ins) : OR :=
  let n := if 1048576 < f.get x.a then 1048576 else f.get x.a
  if 0 < n then .ok (Wd.status { W with sleep := Shu.ins (⟨W.clock + n.toNat, W.seq, g⟩ : HItem) W.sleep, seq := W.seq + 1 } g 3 noIns) else .ok W
def emitW (W : Wd) (f : Fr) (x : Ins) : OR :=
  if 1000 ≤ W.out.length then .trap (-6) W else .ok { W with out := W.out ++ [f.get x.a] }

/-! ### In memory -/
def encPtr (b : Nat) : List Value := [.pointer (some ⟨b, 0, none⟩)]
theorem encPtr_len (b : Nat) : (encPtr b).length = 1 := rfl
def encInt (n : Int) : List Value := [.int .i64 n]
theorem encInt_len (n : Int) : (encInt n).length = 1 := rfl
def encNat (n : Nat) : List Value := [.int .i64 n]
theorem encNat_len (n : Nat) : (encNat n).length = 1 := rfl
def encVal (v : Value) : List Value := [v]
theorem encVal_len (v : Value) : (encVal v).length = 1 := rfl
def encG (a : Nat × Value) : List Value := [.pointer (some ⟨a.1, 0, none⟩)]
theorem encG_len (a : Nat × Value) : (encG a).length = 1 := rfl
def encWait (x : Wait) : List Value := [.int .i64 x.g, .int .i64 x.case, .int .i64 x.v]
theorem encWait_len (x : Wait) : (encWait x).length = 3 := rfl

/-- The program's words. -/
structure PV where
  fv : Value
  cv : Value
  locks : Int
  kv : Value
  fs : List Value
def progA (pv : PV) (p : Prog) : Asn := star (pur (pv.fs.length = p.funcs.length) :: sle 1 encVal pv.fv pv.fs :: sle 1 encInt pv.cv p.chans :: sle 3 encCase pv.kv p.cases :: List.zipWith (fun v f => sle 4 encIns v f) pv.fs p.funcs)

/-- Where it all lies. -/
structure Lay where
  gv : Value
  cv : Value
  lv : Value
  hv : Value
  ov : Value
  rd : Value
  dr : Value
  gl : List (Nat × Value)
  cl : List Nat
  ll : List Nat
  hl : List HItem

def gA (a : Nat × Value) (G : Gor) : Asn := ex fun ws : Ins => star [pt a.1 (.int .i64 G.status :: a.2 :: encIns ws), sle 11 encFr a.2 G.s, pur (G.status = 2 → ws = G.waits)]
def chA (b : Nat) (c : Chan) : Asn := ex fun v : Value × Value × Value => star [pt b [.int .i64 c.room, v.1, v.2.1, v.2.2, .bool c.closed], sle 1 encInt v.1 c.buffer, sle 3 encWait v.2.1 c.senders, sle 3 encWait v.2.2 c.receivers]
def lkA (b : Nat) (l : List Nat) : Asn := ex fun v : Value => star [pt b [.int .i64 (match l with | [] => -1 | o :: _ => (o : Int)), v], sle 1 encNat v l.tail]

def wCells (pv : PV) (x : Lay) (W : Wd) : List Value := [pv.fv, pv.cv, .int .i64 pv.locks, pv.kv, x.gv, .int .u64 W.clock, x.cv, x.lv, x.hv, .int .u64 W.seq, x.ov, .int .i64 W.end_, .int .i64 W.code, x.rd, x.dr]
def wL (wb : Nat) (pv : PV) (x : Lay) (W : Wd) (F : List Asn) : List Asn :=
  star (List.zipWith gA x.gl W.gs) :: pt wb (wCells pv x W) :: sle 1 encG x.gv x.gl :: sle 3 encItem x.hv x.hl :: sle 1 encInt x.ov W.out :: sle 1 encPtr x.cv x.cl :: sle 1 encPtr x.lv x.ll :: star (List.zipWith chA x.cl W.chans) :: star (List.zipWith lkA x.ll W.locks) :: sle 1 encNat x.rd W.ready :: F
/-- One goroutine's own lie open. -/
def wO (g gp : Nat) (st : Int) (sv : Value) (ws : Ins) (fs : List Fr) (wb : Nat) (pv : PV) (x : Lay) (W : Wd) (F : List Asn) : List Asn :=
  pt gp (.int .i64 st :: sv :: encIns ws) :: sle 11 encFr sv fs :: star ((List.zipWith gA x.gl W.gs).eraseIdx g) :: pt wb (wCells pv x W) :: sle 1 encG x.gv x.gl :: sle 3 encItem x.hv x.hl :: sle 1 encInt x.ov W.out :: sle 1 encPtr x.cv x.cl :: sle 1 encPtr x.lv x.ll :: star (List.zipWith chA x.cl W.chans) :: star (List.zipWith lkA x.ll W.locks) :: sle 1 encNat x.rd W.ready :: F

structure WOk (x : Lay) (W : Wd) : Prop where
  heap : HeapOf x.hl W.sleep
  gl : x.gl.length = W.gs.length
  cl : x.cl.length = W.chans.length
  ll : x.ll.length = W.locks.length
  gmax : W.gs.length ≤ 100
  sleeps : W.sleep.length < 900000
  seq : W.seq < 1000000000000000000
  clock : W.clock < 1000000000000000000
  seqs : ∀ y ∈ W.sleep, y.seq < W.seq
  outs : W.out.length ≤ 1000
  readys : W.ready.length < 900000
  stacks : ∀ G ∈ W.gs, 0 < G.s.length ∧ G.s.length ≤ 16

namespace S
variable {κ w : World} {F : List Asn} {wb : Nat} {pv : PV} {x : Lay} {W : Wd}

theorem zip_get {α β γ : Type} {f : α → β → γ} {l : List α} {m : List β} {i : Nat} {a : α} {b : β} (h1 : l[i]? = some a) (h2 : m[i]? = some b) : (List.zipWith f l m)[i]? = some (f a b) := by
  rw [List.getElem?_zipWith, h1, h2]
theorem zip_set {α β γ : Type} {f : α → β → γ} : ∀ {l : List α} {m : List β} {i : Nat} {a : α} {b : β}, List.zipWith f (l.set i a) (m.set i b) = (List.zipWith f l m).set i (f a b)
  | [], [], _, _, _ => rfl
  | [], _ :: _, i, _, _ => by cases i <;> rfl
  | _ :: _, [], i, _, _ => by cases i <;> rfl
  | _ :: _, _ :: _, 0, _, _ => rfl
  | x :: l, y :: m, i + 1, a, b => by simp [zip_set]

theorem gopen {g gp : Nat} {sv : Value} {G : Gor} (H : S κ (wL wb pv x W F) w) (hg : W.gs[g]? = some G) (hl : x.gl[g]? = some (gp, sv)) : ∃ ws, (G.status = 2 → ws = G.waits) ∧ S κ (wO g gp G.status sv ws G.s wb pv x W F) w := by
  have H1 := S.focus (L := List.zipWith gA x.gl W.gs) (l := pt wb (wCells pv x W) :: sle 1 encG x.gv x.gl :: sle 3 encItem x.hv x.hl :: sle 1 encInt x.ov W.out :: sle 1 encPtr x.cv x.cl :: sle 1 encPtr x.lv x.ll :: star (List.zipWith chA x.cl W.chans) :: star (List.zipWith lkA x.ll W.locks) :: sle 1 encNat x.rd W.ready :: F) H g
  rw [List.getD_eq_getElem?_getD, zip_get hl hg] at H1
  obtain ⟨ws, H2⟩ := S.exs H1
  have H3 := S.flat H2
  have H4 := H3.mv 2
  obtain ⟨hp, H5⟩ := S.purs H4
  exact ⟨ws, hp, H5⟩

theorem gclose {g gp : Nat} {st : Int} {sv : Value} {ws wt : Ins} {fs : List Fr} {a : Nat × Value} (H : S κ (wO g gp st sv ws fs wb pv x W F) w) (hg : g < W.gs.length) (hlen : x.gl.length = W.gs.length) (hl : x.gl[g]? = some a) (ha : a.1 = gp) (hw : st = 2 → ws = wt) :
    S κ (wL wb pv { x with gl := x.gl.set g (gp, sv) } { W with gs := W.gs.set g ⟨st, fs, wt⟩ } F) w := by
  have H1 : S κ (pt gp (.int .i64 st :: sv :: encIns ws) :: sle 11 encFr sv fs :: pur (st = 2 → ws = wt) :: star ((List.zipWith gA x.gl W.gs).eraseIdx g) :: pt wb (wCells pv x W) :: sle 1 encG x.gv x.gl :: sle 3 encItem x.hv x.hl :: sle 1 encInt x.ov W.out :: sle 1 encPtr x.cv x.cl :: sle 1 encPtr x.lv x.ll :: star (List.zipWith chA x.cl W.chans) :: star (List.zipWith lkA x.ll W.locks) :: sle 1 encNat x.rd W.ready :: F) w :=
    ((H.purI hw).mv 2).mv 2
  have H2 := S.nest (l1 := [pt gp (.int .i64 st :: sv :: encIns ws), sle 11 encFr sv fs, pur (st = 2 → ws = wt)]) H1
  have H3 : S κ (gA (gp, sv) ⟨st, fs, wt⟩ :: star ((List.zipWith gA x.gl W.gs).eraseIdx g) :: pt wb (wCells pv x W) :: sle 1 encG x.gv x.gl :: sle 3 encItem x.hv x.hl :: sle 1 encInt x.ov W.out :: sle 1 encPtr x.cv x.cl :: sle 1 encPtr x.lv x.ll :: star (List.zipWith chA x.cl W.chans) :: star (List.zipWith lkA x.ll W.locks) :: sle 1 encNat x.rd W.ready :: F) w :=
    S.exI (A := fun ws : Ins => star [pt gp (.int .i64 st :: sv :: encIns ws), sle 11 encFr sv fs, pur (st = 2 → ws = wt)]) ws H2
  have H4 := S.unfocus (L := List.zipWith gA x.gl W.gs) (i := g) (by rw [List.length_zipWith]; omega) H3
  rw [← zip_set] at H4
  have e : (x.gl.set g (gp, sv)).flatMap encG = x.gl.flatMap encG := by
    have h1 := flat_put encG_len hl (gp, sv)
    have h2 := flat_put encG_len hl a
    have h3 : encG (gp, sv) = encG a := by simp [encG, ha]
    rw [h3] at h1
    rw [← h1, h2]
    congr 1
    have := (List.getElem?_eq_some_iff.1 hl).2
    rw [← this]; exact List.set_getElem_self _
  unfold wL
  have e2 : sle 1 encG x.gv (x.gl.set g (gp, sv)) = sle 1 encG x.gv x.gl := by unfold sle; rw [e]
  show S κ (star (List.zipWith gA (x.gl.set g (gp, sv)) (W.gs.set g ⟨st, fs, wt⟩)) :: pt wb (wCells pv x W) :: sle 1 encG x.gv (x.gl.set g (gp, sv)) :: _) w
  rw [e2]
  exact H4

theorem gclose' {g gp : Nat} {st : Int} {sv : Value} {ws wt : Ins} {fs : List Fr} (H : S κ (wO g gp st sv ws fs wb pv x W F) w) (hg : g < W.gs.length) (hlen : x.gl.length = W.gs.length) (hl : x.gl[g]? = some (gp, sv)) (hw : st = 2 → ws = wt) :
    S κ (wL wb pv x { W with gs := W.gs.set g ⟨st, fs, wt⟩ } F) w := by
  have h := H.gclose hg hlen hl rfl hw
  have e : x.gl.set g (gp, sv) = x.gl := by
    have := (List.getElem?_eq_some_iff.1 hl).2
    rw [← this]; exact List.set_getElem_self _
  have e3 : ({ x with gl := x.gl.set g (gp, sv) } : Lay) = x := by rw [e]
  rw [e3] at h
  exact h

/-- A row of single words. -/
theorem sle_at1 {l : List Asn} {α : Type} {enc : α → List Value} {v : Value} {xs : List α} (H : S κ l w) (i : Nat) (hi : l[i]? = some (sle 1 enc v xs)) (he : ∀ x, (enc x).length = 1) : ∃ a cap, v = .slice a xs.length cap ∧
    ∀ j x, xs[j]? = some x → ∃ b, a = some ⟨b, 0, none⟩ ∧ w.cell? ⟨b, j, none⟩ = (enc x)[0]? := by
  obtain ⟨a, cap, hv, h⟩ := H.sle_form i hi he (by decide)
  refine ⟨a, cap, hv, fun j x hj => ?_⟩
  obtain ⟨b, hb, _, hc⟩ := h j x hj
  refine ⟨b, hb, ?_⟩
  have := hc 0 (by omega)
  simpa using this
end S

theorem modify_set {α : Type} {l : List α} {i : Nat} {a : α} {f : α → α} (h : l[i]? = some a) : l.modify i f = l.set i (f a) := by
  apply List.ext_getElem?
  intro j
  rw [List.getElem?_modify, List.getElem?_set]
  by_cases hij : i = j
  · subst hij
    obtain ⟨h1, h2⟩ := List.getElem?_eq_some_iff.1 h
    simp [h1, h2]
  · simp [hij]
theorem set_self' {α : Type} {l : List α} {i : Nat} {a : α} (h : l[i]? = some a) : l.set i a = l := by
  have := (List.getElem?_eq_some_iff.1 h).2
  rw [← this]; exact List.set_getElem_self _
theorem modG_eq {W : Wd} {g : Nat} {G : Gor} {f : Gor → Gor} (h : W.gs[g]? = some G) : W.modG g f = { W with gs := W.gs.set g (f G) } := by
  unfold Wd.modG; rw [modify_set h]
theorem modTop_eq {G : Gor} {f : Fr} {h : Fr → Fr} (hf : G.s[G.s.length - 1]? = some f) : G.modTop h = { G with s := G.s.set (G.s.length - 1) (h f) } := by
  unfold Gor.modTop; rw [modify_set hf]

/-- A goroutine that runs, its last frame. -/
structure Runs (x : Lay) (W : Wd) (g gp sb cap : Nat) (G : Gor) (f : Fr) : Prop where
  hg : W.gs[g]? = some G
  hl : x.gl[g]? = some (gp, .slice (some ⟨sb, 0, none⟩) G.s.length cap)
  hf : G.s[G.s.length - 1]? = some f

def opOk (κ : World) (wb : Nat) (pv : PV) (F : List Asn) (r : OR) : Value → World → Prop := fun v w' => v = .tuple #[] ∧ ∃ W' x', r = .ok W' ∧ WOk x' W' ∧ S κ (wL wb pv x' W' F) w'
def opTr (κ : World) (wb : Nat) (pv : PV) (F : List Asn) (tt : TypeId) (r : OR) : List PanicEntry → World → Prop := fun ch w' => ∃ c W' x', r = .trap c W' ∧ ch = [{ v := .iface tt (.int .i64 c), recovered := false }] ∧ WOk x' W' ∧ S κ (wL wb pv x' W' F) w'
theorem opOk_mk {κ w' : World} {wb : Nat} {pv : PV} {F : List Asn} {r : OR} {x' : Lay} {W' : Wd} (H : S κ (wL wb pv x' W' F) w') (hr : r = .ok W') (ok : WOk x' W') : opOk κ wb pv F r (.tuple #[]) w' := ⟨rfl, W', x', hr, ok, H⟩
theorem opTr_mk {κ w' : World} {wb : Nat} {pv : PV} {F : List Asn} {r : OR} {x' : Lay} {W' : Wd} {tt : TypeId} {c : Int} (H : S κ (wL wb pv x' W' F) w') (hr : r = .trap c W') (ok : WOk x' W') : opTr κ wb pv F tt r [{ v := .iface tt (.int .i64 c), recovered := false }] w' := ⟨c, W', x', hr, rfl, ok, H⟩
/-- Closed again, as it was. -/
theorem S.gback {κ w : World} {F : List Asn} {wb : Nat} {pv : PV} {x : Lay} {W : Wd} {g gp sb cap : Nat} {G : Gor} {ws : Ins} (H : S κ (wO g gp G.status (.slice (some ⟨sb, 0, none⟩) G.s.length cap) ws G.s wb pv x W F) w) (hg : W.gs[g]? = some G) (hl : x.gl[g]? = some (gp, .slice (some ⟨sb, 0, none⟩) G.s.length cap)) (hlen : x.gl.length = W.gs.length) (hws : G.status = 2 → ws = G.waits) : S κ (wL wb pv x W F) w := by
  have h := H.gclose' (wt := G.waits) (List.getElem?_eq_some_iff.1 hg).1 hlen hl hws
  rw [show ({ W with gs := W.gs.set g ⟨G.status, G.s, G.waits⟩ } : Wd) = W from by rw [set_self' hg]] at h
  exact h
/-- One goroutine more. -/
theorem S.gadd {κ w : World} {R : List Asn} {nb : Nat} {st : Int} {sv : Value} {ws wt : Ins} {fs : List Fr} {gl : List (Nat × Value)} {gs : List Gor} (H : S κ (pt nb (.int .i64 st :: sv :: encIns ws) :: sle 11 encFr sv fs :: star (List.zipWith gA gl gs) :: R) w) (hlen : gl.length = gs.length) (hw : st = 2 → ws = wt) :
    S κ (star (List.zipWith gA (gl ++ [(nb, sv)]) (gs ++ [⟨st, fs, wt⟩])) :: R) w := by
  have H1 : S κ (pt nb (.int .i64 st :: sv :: encIns ws) :: sle 11 encFr sv fs :: pur (st = 2 → ws = wt) :: star (List.zipWith gA gl gs) :: R) w := ((H.purI hw).mv 2).mv 2
  have H2 := S.nest (l1 := [pt nb (.int .i64 st :: sv :: encIns ws), sle 11 encFr sv fs, pur (st = 2 → ws = wt)]) H1
  have H3 : S κ (gA (nb, sv) ⟨st, fs, wt⟩ :: star (List.zipWith gA gl gs) :: R) w :=
    S.exI (A := fun ws : Ins => star [pt nb (.int .i64 st :: sv :: encIns ws), sle 11 encFr sv fs, pur (st = 2 → ws = wt)]) ws H2
  have H4 := S.nest (l1 := [star (List.zipWith gA gl gs), gA (nb, sv) ⟨st, fs, wt⟩]) (H3.mv 1)
  rw [List.zipWith_append hlen]
  exact H4.head fun h s => star_flat (l2 := [gA (nb, sv) ⟨st, fs, wt⟩]) s
theorem S.wpush {κ w : World} {F : List Asn} {wb : Nat} {pv : PV} {x : Lay} {W : Wd} {A : Asn} (H : S κ (A :: wL wb pv x W F) w) : S κ (wL wb pv x W (A :: F)) w :=
  (((((((((H.mv 10).mv 10).mv 10).mv 10).mv 10).mv 10).mv 10).mv 10).mv 10).mv 10
theorem S.wpop {κ w : World} {F : List Asn} {wb : Nat} {pv : PV} {x : Lay} {W : Wd} {A : Asn} (H : S κ (wL wb pv x W (A :: F)) w) : S κ (A :: wL wb pv x W F) w := H.mv 10
theorem S.opush {κ w : World} {F : List Asn} {wb g gp : Nat} {st : Int} {sv : Value} {ws : Ins} {fs : List Fr} {pv : PV} {x : Lay} {W : Wd} {A : Asn} (H : S κ (A :: wO g gp st sv ws fs wb pv x W F) w) : S κ (wO g gp st sv ws fs wb pv x W (A :: F)) w :=
  (((((((((((H.mv 12).mv 12).mv 12).mv 12).mv 12).mv 12).mv 12).mv 12).mv 12).mv 12).mv 12).mv 12
theorem S.opop {κ w : World} {F : List Asn} {wb g gp : Nat} {st : Int} {sv : Value} {ws : Ins} {fs : List Fr} {pv : PV} {x : Lay} {W : Wd} {A : Asn} (H : S κ (wO g gp st sv ws fs wb pv x W (A :: F)) w) : S κ (A :: wO g gp st sv ws fs wb pv x W F) w := H.mv 12
theorem WOk.setG {x : Lay} {W : Wd} {g : Nat} {G : Gor} (ok : WOk x W) (h : 0 < G.s.length ∧ G.s.length ≤ 16) : WOk x { W with gs := W.gs.set g G } := by
  have hs := ok.stacks
  refine { ok with gl := by simp [ok.gl], gmax := by simp [ok.gmax], stacks := fun G' hG' => ?_ }
  rcases List.mem_or_eq_of_mem_set hG' with hG' | rfl
  · exact hs G' hG'
  · exact h
theorem WOk.stack {x : Lay} {W : Wd} {g : Nat} {G : Gor} (ok : WOk x W) (h : W.gs[g]? = some G) : 0 < G.s.length ∧ G.s.length ≤ 16 := ok.stacks G (List.mem_of_getElem? h)
/-- What of the program is read. -/
theorem S.prog {κ w : World} {l : List Asn} {pv : PV} {p : Prog} {fn : Nat} {code : List Ins} (H : S κ l w) (i : Nat) (hi : l[i]? = some (progA pv p)) (hf : p.funcs[fn]? = some code) : ∃ fb cap a c, pv.fv = .slice (some ⟨fb, 0, none⟩) pv.fs.length cap ∧ fn < pv.fs.length ∧ w.cell? ⟨fb, fn, none⟩ = some (.slice a code.length c) ∧
    ∀ j x, code[j]? = some x → ∃ cb, a = some ⟨cb, 0, none⟩ ∧ rowOf w ⟨cb, j * 4, none⟩ 4 = some (encIns x) := by
  have H1 := H.mv i
  rw [List.getD_eq_getElem?_getD, hi] at H1
  have H2 := S.flat (l1 := pur (pv.fs.length = p.funcs.length) :: sle 1 encVal pv.fv pv.fs :: sle 1 encInt pv.cv p.chans :: sle 3 encCase pv.kv p.cases :: List.zipWith (fun v f => sle 4 encIns v f) pv.fs p.funcs) H1
  obtain ⟨hlen, H3⟩ := S.purs H2
  have hlt : fn < pv.fs.length := by rw [hlen]; exact (List.getElem?_eq_some_iff.1 hf).1
  obtain ⟨a, cap, hv, hrow⟩ := S.sle_at1 (v := pv.fv) (xs := pv.fs) H3 0 rfl encVal_len
  obtain ⟨fb, rfl, hc⟩ := hrow fn _ (List.getElem?_eq_getElem hlt)
  have hz : (List.zipWith (fun v f => sle 4 encIns v f) pv.fs p.funcs)[fn]? = some (sle 4 encIns pv.fs[fn] code) := S.zip_get (List.getElem?_eq_getElem hlt) hf
  have hzl : fn < (List.zipWith (fun v f => sle 4 encIns v f) pv.fs p.funcs).length := (List.getElem?_eq_some_iff.1 hz).1
  obtain ⟨a2, c2, hv2, hrow2⟩ := S.sle_form (v := pv.fs[fn]) (xs := code) H3 (fn + 3) (by
    show ((List.zipWith (fun v f => sle 4 encIns v f) pv.fs p.funcs) ++ _)[fn]? = _
    rw [List.getElem?_append_left hzl]; exact hz) encIns_len (by decide)
  refine ⟨fb, cap, a2, c2, hv, hlt, by rw [hc, ← hv2]; rfl, fun j x hj => ?_⟩
  obtain ⟨cb, hcb, hr, _⟩ := hrow2 j x hj
  exact ⟨cb, hcb, hr⟩
/-- Opened and closed, whatever stands behind. -/
theorem S.gopenR {κ w : World} {R : List Asn} {gl : List (Nat × Value)} {gs : List Gor} {g gp : Nat} {sv : Value} {G : Gor} (H : S κ (star (List.zipWith gA gl gs) :: R) w) (hg : gs[g]? = some G) (hl : gl[g]? = some (gp, sv)) :
    ∃ ws, (G.status = 2 → ws = G.waits) ∧ S κ (pt gp (.int .i64 G.status :: sv :: encIns ws) :: sle 11 encFr sv G.s :: star ((List.zipWith gA gl gs).eraseIdx g) :: R) w := by
  have H1 := S.focus (L := List.zipWith gA gl gs) (l := R) H g
  rw [List.getD_eq_getElem?_getD, S.zip_get hl hg] at H1
  obtain ⟨ws, H2⟩ := S.exs H1
  have H3 := S.flat H2
  obtain ⟨hp, H5⟩ := S.purs (H3.mv 2)
  exact ⟨ws, hp, H5⟩
theorem S.gcloseR {κ w : World} {R : List Asn} {gl : List (Nat × Value)} {gs : List Gor} {g gp : Nat} {sv : Value} {G : Gor} {ws : Ins} (H : S κ (pt gp (.int .i64 G.status :: sv :: encIns ws) :: sle 11 encFr sv G.s :: star ((List.zipWith gA gl gs).eraseIdx g) :: R) w) (hg : gs[g]? = some G) (hl : gl[g]? = some (gp, sv)) (hw : G.status = 2 → ws = G.waits) :
    S κ (star (List.zipWith gA gl gs) :: R) w := by
  have H1 : S κ (pt gp (.int .i64 G.status :: sv :: encIns ws) :: sle 11 encFr sv G.s :: pur (G.status = 2 → ws = G.waits) :: star ((List.zipWith gA gl gs).eraseIdx g) :: R) w := ((H.purI hw).mv 2).mv 2
  have H2 := S.nest (l1 := [pt gp (.int .i64 G.status :: sv :: encIns ws), sle 11 encFr sv G.s, pur (G.status = 2 → ws = G.waits)]) H1
  have H3 : S κ (gA (gp, sv) G :: star ((List.zipWith gA gl gs).eraseIdx g) :: R) w :=
    S.exI (A := fun ws : Ins => star [pt gp (.int .i64 G.status :: sv :: encIns ws), sle 11 encFr sv G.s, pur (G.status = 2 → ws = G.waits)]) ws H2
  have hz := S.zip_get (f := gA) hl hg
  have H4 := S.unfocus (L := List.zipWith gA gl gs) (i := g) (List.getElem?_eq_some_iff.1 hz).1 H3
  rw [set_self' hz] at H4
  exact H4
theorem S.progChans {κ w : World} {l : List Asn} {pv : PV} {p : Prog} (H : S κ l w) (i : Nat) (hi : l[i]? = some (progA pv p)) : (∃ a c, pv.cv = .slice a p.chans.length c) ∧ (∃ a c, pv.kv = .slice a p.cases.length c) ∧ (∃ a c, pv.fv = .slice a p.funcs.length c) := by
  have H1 := H.mv i
  rw [List.getD_eq_getElem?_getD, hi] at H1
  have H2 := S.flat (l1 := pur (pv.fs.length = p.funcs.length) :: sle 1 encVal pv.fv pv.fs :: sle 1 encInt pv.cv p.chans :: sle 3 encCase pv.kv p.cases :: List.zipWith (fun v f => sle 4 encIns v f) pv.fs p.funcs) H1
  obtain ⟨hlen, H3⟩ := S.purs H2
  obtain ⟨a, c, h1, _⟩ := S.sle_form (v := pv.fv) (xs := pv.fs) H3 0 rfl encVal_len (by decide)
  obtain ⟨a2, c2, h2, _⟩ := S.sle_form (v := pv.cv) (xs := p.chans) H3 1 rfl encInt_len (by decide)
  obtain ⟨a3, c3, h3, _⟩ := S.sle_form (v := pv.kv) (xs := p.cases) H3 2 rfl encCase_len (by decide)
  exact ⟨⟨a2, c2, h2⟩, ⟨a3, c3, h3⟩, ⟨a, c, by rw [h1, hlen]⟩⟩
end Go.Shu
