/- One instruction of one goroutine: contracts. -/
import Derived.Test.YtojbbajmldbffaaSlimDoW
import Derived.Test.YtojbbajmldbffaaWorldW
import Derived.Test.YtojbbajmldbffaaRaw
set_option linter.unusedSimpArgs false
set_option linter.unusedVariables false
set_option maxRecDepth 20000
set_option maxHeartbeats 2000000
namespace Go.Proofs.Ytojbbajmldbffaa
open Go.Shu
variable {κ w : World} {F : List Asn} {wb : Nat} {pv : PV} {x : Lay} {W : Wd}

/-- How a trap ends. -/
def trapped (c : Int) (W : Wd) : Wd := { W with end_ := 2, code := c }

theorem caught_none (H : S κ F w) : CallsD Try.prog 21 (#[.pointer (some ⟨wb, 0, none⟩)]) .returning w fun en u' w' => en = .returned (.tuple #[]) ∧ u' = .returning ∧ S κ F w' := by
  refine callsD_of_XR (args := [.pointer (some ⟨wb, 0, none⟩)]) Try.func21 sl21 (by show 1 ≤ _; decide) ?_
  rw [argE_argEnv]
  simp -dsimp (disch := omega) only [s21, xr, xo, xv, recV]
  refine eqNil_t (by kernel_rfl) (by simp -dsimp (disch := omega) only [xr]) rfl ?_
  simp -dsimp (disch := omega) only [xr, xo, xv]
  exact ⟨trivial, trivial, H⟩

theorem caught_trap {c : Int} (H : S κ (wL wb pv x W F) w) : CallsD Try.prog 21 (#[.pointer (some ⟨wb, 0, none⟩)]) (.panicking [{ v := .iface 80 (.int .i64 c), recovered := false }]) w
    fun en u' w' => en = .returned (.tuple #[]) ∧ settle u' = .returning ∧ S κ (wL wb pv x (trapped c W) F) w' := by
  refine callsD_of_XR (args := [.pointer (some ⟨wb, 0, none⟩)]) Try.func21 sl21 (by show 1 ≤ _; decide) ?_
  rw [argE_argEnv]
  simp -dsimp (disch := omega) only [s21, xr, xo, xv, recV]
  refine eqNil_f (d := 80) (v := .int .i64 c) (by kernel_rfl) (by simp -dsimp (disch := omega) only [xr]) rfl ?_
  simp -dsimp (disch := omega) only [xr, xo, xv]
  refine assert_t (v := .int .i64 c) (by kernel_rfl) (by simp -dsimp (disch := omega) only [xr]) ?_
  simp -dsimp (disch := omega) only [xr, xo, xv]
  refine H.sto 1 (off := 11) (vs := [.int .i64 2]) rfl (by simp [wCells]) rfl fun w1 H1 => ?_
  simp -dsimp (disch := omega) only [xr, xo, xv]
  refine H1.sto 1 (off := 12) (vs := [.int .i64 c]) rfl (by simp [wCells, putL]) rfl fun w2 H2 => ?_
  simp -dsimp (disch := omega) only [xr, xo, xv]
  exact ⟨trivial, rfl, H2⟩

/-- Another panic goes on. -/
theorem caught_other {d : TypeId} {v : Value} (H : S κ F w) (hd : d ≠ 80) : CallsD Try.prog 21 (#[.pointer (some ⟨wb, 0, none⟩)]) (.panicking [{ v := .iface d v, recovered := false }]) w
    fun en u' w' => ∃ ch, en = .panicked ch ∧ raised u' ch = .panicking [{ v := .iface d v, recovered := false }, { v := .iface d v, recovered := true }] ∧ S κ F w' := by
  refine callsD_of_XR (args := [.pointer (some ⟨wb, 0, none⟩)]) Try.func21 sl21 (by show 1 ≤ _; decide) ?_
  rw [argE_argEnv]
  simp -dsimp (disch := omega) only [s21, xr, xo, xv, recV]
  refine eqNil_f (d := d) (v := v) (by kernel_rfl) (by simp -dsimp (disch := omega) only [xr]) rfl ?_
  simp -dsimp (disch := omega) only [xr, xo, xv]
  refine assert_f (d := d) (v := v) (z := .int .i64 0) (by kernel_rfl) (by kernel_rfl) (by simp -dsimp (disch := omega) only [xr]) hd ?_
  simp -dsimp (disch := omega) only [xr, xo, xv, xk]
  exact ⟨_, rfl, rfl, H⟩

def wtab : List (Int × Value) := [(9, .func (.func 36) #[] #[]), (10, .func (.func 37) #[] #[]), (11, .func (.func 38) #[] #[]), (12, .func (.func 39) #[] #[]), (13, .func (.func 40) #[] #[]), (14, .func (.func 41) #[] #[]), (15, .func (.func 42) #[] #[]), (17, .func (.func 43) #[] #[]), (18, .func (.func 44) #[] #[]), (19, .func (.func 45) #[] #[]), (20, .func (.func 46) #[] #[]), (22, .func (.func 47) #[] #[])]
theorem wtable_T (H : S κ F w) : T Try.prog 26 [] w fun v w' => ∃ b, v = .map (some b) ∧ S κ (mpt b wtab :: F) w' := by
  refine T.of Try.func26 sl26 rfl ?_
  simp -dsimp (disch := omega) only [s26, xr, xo]
  refine H.mkMap fun b w1 H1 => ?_
  simp -dsimp (disch := omega) only [xr, xo]
  refine H1.insMap 0 (z := .nilFunc) (n := 9) rfl (by kernel_rfl) (by simp -dsimp (disch := omega) only [xr]) rfl (by rfl) fun w1 H1 => ?_
  simp -dsimp (disch := omega) only [xr, xo]
  refine H1.insMap 0 (z := .nilFunc) (n := 10) rfl (by kernel_rfl) (by simp -dsimp (disch := omega) only [xr]) rfl (by rfl) fun w1 H1 => ?_
  simp -dsimp (disch := omega) only [xr, xo]
  refine H1.insMap 0 (z := .nilFunc) (n := 11) rfl (by kernel_rfl) (by simp -dsimp (disch := omega) only [xr]) rfl (by rfl) fun w1 H1 => ?_
  simp -dsimp (disch := omega) only [xr, xo]
  refine H1.insMap 0 (z := .nilFunc) (n := 12) rfl (by kernel_rfl) (by simp -dsimp (disch := omega) only [xr]) rfl (by rfl) fun w1 H1 => ?_
  simp -dsimp (disch := omega) only [xr, xo]
  refine H1.insMap 0 (z := .nilFunc) (n := 13) rfl (by kernel_rfl) (by simp -dsimp (disch := omega) only [xr]) rfl (by rfl) fun w1 H1 => ?_
  simp -dsimp (disch := omega) only [xr, xo]
  refine H1.insMap 0 (z := .nilFunc) (n := 14) rfl (by kernel_rfl) (by simp -dsimp (disch := omega) only [xr]) rfl (by rfl) fun w1 H1 => ?_
  simp -dsimp (disch := omega) only [xr, xo]
  refine H1.insMap 0 (z := .nilFunc) (n := 15) rfl (by kernel_rfl) (by simp -dsimp (disch := omega) only [xr]) rfl (by rfl) fun w1 H1 => ?_
  simp -dsimp (disch := omega) only [xr, xo]
  refine H1.insMap 0 (z := .nilFunc) (n := 17) rfl (by kernel_rfl) (by simp -dsimp (disch := omega) only [xr]) rfl (by rfl) fun w1 H1 => ?_
  simp -dsimp (disch := omega) only [xr, xo]
  refine H1.insMap 0 (z := .nilFunc) (n := 18) rfl (by kernel_rfl) (by simp -dsimp (disch := omega) only [xr]) rfl (by rfl) fun w1 H1 => ?_
  simp -dsimp (disch := omega) only [xr, xo]
  refine H1.insMap 0 (z := .nilFunc) (n := 19) rfl (by kernel_rfl) (by simp -dsimp (disch := omega) only [xr]) rfl (by rfl) fun w1 H1 => ?_
  simp -dsimp (disch := omega) only [xr, xo]
  refine H1.insMap 0 (z := .nilFunc) (n := 20) rfl (by kernel_rfl) (by simp -dsimp (disch := omega) only [xr]) rfl (by rfl) fun w1 H1 => ?_
  simp -dsimp (disch := omega) only [xr, xo]
  refine H1.insMap 0 (z := .nilFunc) (n := 22) rfl (by kernel_rfl) (by simp -dsimp (disch := omega) only [xr]) rfl (by rfl) fun w1 H1 => ?_
  simp -dsimp (disch := omega) only [xr, xo]
  exact ⟨b, rfl, H1⟩

/-- What an op does that registers alone don't decide (those that need no channel, no lock, no draw). -/
def deed (W : Wd) (g : Nat) (G : Gor) (f : Fr) (i : Ins) : OR :=
  if i.op = 9 then callW W g G f i else if i.op = 10 then backW W g G f i else if i.op = 11 then spawnW W g f i
  else if i.op = 17 then sleepW W g f i else if i.op = 20 then emitW W f i else if i.op = 22 then .trap i.a W else .ok W
/-- What such an op asks. -/
structure DeedOk (W : Wd) (f : Fr) (i : Ins) : Prop where
  op : i.op = 9 ∨ i.op = 10 ∨ i.op = 11 ∨ i.op = 12 ∨ i.op = 17 ∨ i.op = 20 ∨ i.op = 22
  a : i.op = 10 ∨ i.op = 17 ∨ i.op = 20 → okReg i.a
  b : i.op = 9 ∨ i.op = 11 → okReg i.b
  c : i.op = 11 → okReg i.c
  into : okReg f.into
  range : -9223372036854775808 ≤ f.get i.a ∧ f.get i.a ≤ 9223372036854775807
  clock : W.clock < 900000000000000000
  seq : W.seq < 900000000000000000
  sleeps : W.sleep.length < 800000
  readys : W.ready.length < 800000

theorem opTr_false {tt : TypeId} {r : OR} {ch : List PanicEntry} {w : World} (h : False) : opTr κ wb pv F tt r ch w := h.elim
theorem wdisp {g gp sb cap : Nat} {G : Gor} {f : Fr} {i : Ins} (ok : WOk x W) (h : Runs x W g gp sb cap G f) (hd : DeedOk W f i) : ∃ k, seek wtab i.op = some (.func (.func k) #[] #[]) ∧ callable Try.prog k = true ∧
    ∀ {κ w : World} {F : List Asn}, S κ (wL wb pv x W F) w → TP Try.prog k [.pointer (some ⟨wb, 0, none⟩), .int .i64 g, .pointer (some ⟨sb, (G.s.length - 1) * 11, none⟩), .agg (encIns i).toArray] w (opOk κ wb pv F (deed W g G f i)) (opTr κ wb pv F 80 (deed W g G f i)) := by
  have fl : ∀ {P : Program} {k : FuncId} {args : List Value} {κ w : World} {F : List Asn} {r : OR}, TP P k args w (opOk κ wb pv F r) (fun _ _ => False) → TP P k args w (opOk κ wb pv F r) (opTr κ wb pv F 80 r) := by
    intro P k args κ w F r h
    refine Calls.mono h fun e w' he => ?_
    cases e <;> first | exact he | exact he.elim
  rcases hd.op with c | c | c | c | c | c | c
  · refine ⟨36, by rw [c]; rfl, by kernel_rfl, fun H => ?_⟩
    have e : deed W g G f i = callW W g G f i := by simp [deed, c]
    rw [e]; exact call_T H ok h (hd.b (by omega))
  · refine ⟨37, by rw [c]; rfl, by kernel_rfl, fun H => ?_⟩
    have e : deed W g G f i = backW W g G f i := by simp [deed, c]
    rw [e]; exact fl (back_T H ok h (hd.a (by omega)) hd.into)
  · refine ⟨38, by rw [c]; rfl, by kernel_rfl, fun H => ?_⟩
    have e : deed W g G f i = spawnW W g f i := by simp [deed, c]
    rw [e]; exact spawn_T H ok h (hd.b (by omega)) (hd.c c) hd.readys
  · refine ⟨39, by rw [c]; rfl, by kernel_rfl, fun {κ w F} H => ?_⟩
    have e : deed W g G f i = .ok W := by simp [deed, c]
    rw [e]
    refine fl (Calls.mono (yield_T H) fun e w' he => ?_)
    obtain ⟨v, rfl, rfl, H2⟩ := he
    exact opOk_mk H2 rfl ok
  · refine ⟨43, by rw [c]; rfl, by kernel_rfl, fun H => ?_⟩
    have e : deed W g G f i = sleepW W g f i := by simp [deed, c]
    rw [e]; exact fl (sleep_T H ok h (hd.a (by omega)) hd.range hd.clock hd.seq hd.sleeps)
  · refine ⟨46, by rw [c]; rfl, by kernel_rfl, fun H => ?_⟩
    have e : deed W g G f i = emitW W f i := by simp [deed, c]
    rw [e]; exact emit_T H ok h (hd.a (by omega))
  · refine ⟨47, by rw [c]; rfl, by kernel_rfl, fun H => ?_⟩
    have e : deed W g G f i = .trap i.a W := by simp [deed, c]
    rw [e]; exact stop_T (f := f) (gp := gp) (sb := sb) (cap := cap) (G := G) H ok _

theorem defer_none {e : Env} {R : Ending → World → Prop} {da : List Value} (H : S κ F w) (hda : da = [.pointer (some ⟨wb, 0, none⟩)]) (hR : ∀ w', S κ F w' → R (.returned (e 4)) w') : deferX Try.prog 21 da [.t 4] e .returning w R := by
  subst hda
  refine CallsD.mono (caught_none H) fun en u' w' h => ?_
  obtain ⟨rfl, rfl, H2⟩ := h
  exact hR w' H2
theorem defer_trap {e : Env} {R : Ending → World → Prop} {da : List Value} {c : Int} (H : S κ (wL wb pv x W F) w) (hda : da = [.pointer (some ⟨wb, 0, none⟩)]) (hR : ∀ w', S κ (wL wb pv x (trapped c W) F) w' → R (.returned (e 4)) w') :
    deferX Try.prog 21 da [.t 4] e (.panicking [{ v := .iface 80 (.int .i64 c), recovered := false }]) w R := by
  subst hda
  refine CallsD.mono (caught_trap (c := c) H) fun en u' w' h => ?_
  obtain ⟨rfl, h1, H2⟩ := h
  show endX _ _ (settle u') _ _
  rw [h1]
  exact hR w' H2

/-- One instruction of one that can go on. -/
def restI (i : Ins) : Bool := decide (i.op = 12) || decide (i.op = 17)
def doW (p : Prog) (W : Wd) (g : Nat) (G : Gor) (f : Fr) : Wd × Bool :=
  match (p.funcs[f.fn.toNat]?).bind fun l => l[f.at_.toNat]? with
  | none => (trapped (-7) W, false)
  | some i => match pureOp { f with at_ := f.at_ + 1 } i with
    | some h => ({ W with gs := W.gs.set g { G with s := G.s.set (G.s.length - 1) h } }, restI i)
    | none => match deed { W with gs := W.gs.set g { G with s := G.s.set (G.s.length - 1) { f with at_ := f.at_ + 1 } } } g { G with s := G.s.set (G.s.length - 1) { f with at_ := f.at_ + 1 } } { f with at_ := f.at_ + 1 } i with
      | .ok W' => (W', restI i)
      | .trap c W' => (trapped c W', false)
/-- What it asks. -/
structure StepOk (p : Prog) (W : Wd) (f : Fr) : Prop where
  fn : 0 ≤ f.fn ∧ f.fn.toNat < p.funcs.length
  at_ : 0 ≤ f.at_ ∧ f.at_ < 1000000
  lens : ∀ l ∈ p.funcs, l.length < 1000000
  nf : p.funcs.length < 1000000
  pure : ∀ l i, p.funcs[f.fn.toNat]? = some l → l[f.at_.toNat]? = some i → okPure i
  deed : ∀ l i, p.funcs[f.fn.toNat]? = some l → l[f.at_.toNat]? = some i → pureOp { f with at_ := f.at_ + 1 } i = none → DeedOk W { f with at_ := f.at_ + 1 } i

theorem do_T {p : Prog} {g gp sb cap : Nat} {G : Gor} {f : Fr} (H : S κ (wL wb pv x W (progA pv p :: F)) w) (ok : WOk x W) (h : Runs x W g gp sb cap G f) (hs : StepOk p W f) :
    T Try.prog 17 [.pointer (some ⟨wb, 0, none⟩), .int .i64 g] w fun v w' => v = .bool (doW p W g G f).2 ∧ ∃ x', WOk x' (doW p W g G f).1 ∧ S κ (wL wb pv x' (doW p W g G f).1 (progA pv p :: F)) w' := by
  obtain ⟨ws, hws, H0⟩ := H.gopen h.hg h.hl
  have hgl := (List.getElem?_eq_some_iff.1 h.hg).1
  have hglx : g < x.gl.length := by rw [ok.gl]; exact hgl
  have hst := ok.stack h.hg
  obtain ⟨code, hcode⟩ : ∃ code, p.funcs[f.fn.toNat]? = some code := ⟨_, List.getElem?_eq_getElem hs.fn.2⟩
  have hcl := hs.lens code (List.mem_of_getElem? hcode)
  obtain ⟨hf0, hf1⟩ := hs.fn
  obtain ⟨ha0, ha1⟩ := hs.at_
  have hnf := hs.nf
  refine calls_of_XD (args := [.pointer (some ⟨wb, 0, none⟩), .int .i64 g]) Try.func17 sl17 (by show 2 ≤ _; decide) ?_
  rw [argE_argEnv]
  simp -dsimp (disch := omega) only [s17, xr, xo, xv]
  refine ⟨21, #[], #[], rfl, by kernel_rfl, ?_⟩
  obtain ⟨a, gc, hgv, hrow⟩ := H0.sle_at1 (v := x.gv) (xs := x.gl) 4 rfl encG_len
  obtain ⟨gb, rfl, hgc⟩ := hrow g _ h.hl
  have hw := H0.cell 3 rfl
  have hp := H0.cell 0 rfl
  simp -dsimp (disch := omega) only [xr, xo, xv, hw, hp, wCells, hgv, hgc, encG]
  have H1 : S κ (sle 11 encFr (.slice (some ⟨sb, 0, none⟩) G.s.length cap) G.s :: pt gp (.int .i64 G.status :: .slice (some ⟨sb, 0, none⟩) G.s.length cap :: encIns ws) :: (wO g gp G.status (.slice (some ⟨sb, 0, none⟩) G.s.length cap) ws G.s wb pv x W (progA pv p :: F)).tail.tail) w := H0.mv 1
  have hb := Top_T H1 hst.1 (by omega)
  refine T.call hb ?_
  clear hb H1
  rintro v w1 ⟨rfl, H1⟩
  simp -dsimp (disch := omega) only [xr, xo, xv]
  refine H1.dr fun w2 H2 => ?_
  have hw2 := H2.cell 3 rfl
  obtain ⟨q0, q1, _, _⟩ := H2.fr 0 rfl h.hf
  obtain ⟨fb, pcap, ca, cc, hfv, hfl, hfc, hins⟩ := H2.prog (i := 12) rfl hcode
  simp -dsimp (disch := omega) only [xr, xo, xv, hw2, wCells, q0, q1, hfv, hfc]
  have H3 : S κ (wO g gp G.status (.slice (some ⟨sb, 0, none⟩) G.s.length cap) ws G.s wb pv x W (progA pv p :: F)) w2 := H2.mv 1
  by_cases hat : code.length ≤ f.at_.toNat
  · have d : decide ((code.length : Int) ≤ f.at_) = true := decide_eq_true (by omega)
    have hdo : doW p W g G f = (trapped (-7) W, false) := by
      unfold doW
      rw [hcode]
      simp [List.getElem?_eq_none hat]
    simp -dsimp (disch := omega) only [xr, xo, xv, xk, d, hdo]
    exact defer_trap (H3.gback h.hg h.hl ok.gl hws) rfl fun w' H' => ⟨_, rfl, rfl, x, { ok with }, H'⟩
  · have d : decide ((code.length : Int) ≤ f.at_) = false := decide_eq_false (by omega)
    have hat' : f.at_.toNat < code.length := by omega
    obtain ⟨i, hi⟩ : ∃ i, code[f.at_.toNat]? = some i := ⟨_, List.getElem?_eq_getElem hat'⟩
    obtain ⟨cb, rfl, hrow4⟩ := hins _ i hi
    simp -dsimp (disch := omega) only [xr, xo, xv, xk, d, q1, hrow4]
    refine H3.al fun b7 w3 H4 => ?_
    simp -dsimp (disch := omega) only [xr, xo, xv, encIns_len]
    refine H4.sto 0 (off := 0) (vs := encIns i) rfl (by simp [encIns]) rfl fun w4 H5 => ?_
    have H5 : S κ (sle 11 encFr (.slice (some ⟨sb, 0, none⟩) G.s.length cap) G.s :: pt b7 (encIns i) :: pt gp (.int .i64 G.status :: .slice (some ⟨sb, 0, none⟩) G.s.length cap :: encIns ws) :: (wO g gp G.status (.slice (some ⟨sb, 0, none⟩) G.s.length cap) ws G.s wb pv x W (progA pv p :: F)).tail.tail) w4 := H5.mv 2
    have hr7 : rowOf w4 ⟨b7, 0, none⟩ 4 = some (encIns i) := H5.row 1 rfl 0 4 (Nat.le_refl _)
    simp -dsimp (disch := omega) only [xr, xo, xv, hr7]
    have hb := Pure_T H5 h.hf (hs.pure code i hcode hi) (by omega)
    refine T.call hb ?_
    clear hb
    rintro v w5 hpost
    cases hpu : pureOp { f with at_ := f.at_ + 1 } i with
    | some hh =>
      rw [hpu] at hpost
      obtain ⟨rfl, H6⟩ := hpost
      have hdo : doW p W g G f = ({ W with gs := W.gs.set g { G with s := G.s.set (G.s.length - 1) hh } }, restI i) := by
        unfold doW
        rw [hcode]
        simp only [Option.bind_some, hi, hpu]
      have hx := H6.cell 1 rfl
      have H7 : S κ (wO g gp G.status (.slice (some ⟨sb, 0, none⟩) G.s.length cap) ws (G.s.set (G.s.length - 1) hh) wb pv x W (progA pv p :: F)) w5 := (H6.del 1).mv 1
      have H8 := H7.gclose' (wt := G.waits) hgl ok.gl h.hl hws
      have ok2 := ok.setG (g := g) (G := { G with s := G.s.set (G.s.length - 1) hh }) (by simpa using hst)
      rcases Bool.eq_false_or_eq_true (decide (i.op = 12)) with d12 | d12
      · have hre : restI i = true := by simp [restI, d12]
        simp -dsimp (disch := omega) only [xr, xo, xv, hdo, hx, encIns, d12]
        exact defer_none H8 rfl fun w' H' => ⟨_, rfl, by rw [hre]; rfl, x, ok2, H'⟩
      · have hre : restI i = decide (i.op = 17) := by simp [restI, d12]
        simp -dsimp (disch := omega) only [xr, xo, xv, hdo, hx, encIns, d12]
        exact defer_none H8 rfl fun w' H' => ⟨_, rfl, by rw [hre]; rfl, x, ok2, H'⟩
    | none =>
      rw [hpu] at hpost
      obtain ⟨rfl, H6⟩ := hpost
      have hd := hs.deed code i hcode hi hpu
      have hop := hd.op
      have d16 : decide (i.op = 16) = false := decide_eq_false (by omega)
      have d21 : decide (i.op = 21) = false := decide_eq_false (by omega)
      have hx := H6.cell 1 rfl
      obtain ⟨_, qq1, _, _⟩ := H6.fr 0 rfl h.hf
      simp -dsimp (disch := omega) only [xr, xo, xv, hx, encIns, d16, d21, qq1]
      refine H6.frAt 0 rfl h.hf fun w6 H7 => ?_
      simp -dsimp (disch := omega) only [xr, xo, xv]
      have H7 : S κ (wO g gp G.status (.slice (some ⟨sb, 0, none⟩) G.s.length cap) ws (G.s.set (G.s.length - 1) { f with at_ := f.at_ + 1 }) wb pv x W (pt b7 (encIns i) :: progA pv p :: F)) w6 := S.opush (((H7.mv 1).mv 2).mv 1)
      have H8 := H7.gclose' (wt := G.waits) hgl ok.gl h.hl hws
      have ok2 := ok.setG (g := g) (G := { G with s := G.s.set (G.s.length - 1) { f with at_ := f.at_ + 1 } }) (by simpa using hst)
      refine H8.wpop.dr fun w7 H9 => ?_
      have hx7 := H9.cell 0 rfl
      have hr7 : rowOf w7 ⟨b7, 0, none⟩ 4 = some (encIns i) := H9.row 0 rfl 0 4 (Nat.le_refl _)
      simp -dsimp (disch := omega) only [xr, xo, xv, hx7, hr7, encIns]
      have hb := wtable_T H9
      refine T.call hb ?_
      clear hb
      rintro v w8 ⟨tb, rfl, HA⟩
      have hx8 := HA.cell 1 rfl
      have hr8 : rowOf w8 ⟨b7, 0, none⟩ 4 = some (encIns i) := HA.row 1 rfl 0 4 (Nat.le_refl _)
      simp -dsimp (disch := omega) only [xp, xr, xo, xv, hx7, hx8, hr7, hr8, encIns]
      have hruns : Runs x { W with gs := W.gs.set g ⟨G.status, G.s.set (G.s.length - 1) { f with at_ := f.at_ + 1 }, G.waits⟩ } g gp sb cap ⟨G.status, G.s.set (G.s.length - 1) { f with at_ := f.at_ + 1 }, G.waits⟩ { f with at_ := f.at_ + 1 } :=
        ⟨by simp [hgl], by simp only [List.length_set]; exact h.hl, by simp only [List.length_set]; rw [List.getElem?_set_self (by omega)]⟩
      obtain ⟨k, e1, e2, hk⟩ := wdisp (wb := wb) (pv := pv) ok2 hruns { hd with }
      have HB : S κ (wL wb pv x { W with gs := W.gs.set g ⟨G.status, G.s.set (G.s.length - 1) { f with at_ := f.at_ + 1 }, G.waits⟩ } (mpt tb wtab :: pt b7 (encIns i) :: progA pv p :: F)) w8 := ((((((((((HA.mv 11).mv 11).mv 11).mv 11).mv 11).mv 11).mv 11).mv 11).mv 11).mv 11)
      have hcall := hk HB
      simp only [List.length_set] at hcall
      refine HA.lookMap 0 (z := .nilFunc) (n := i.op) rfl (by kernel_rfl) (by simp -dsimp (disch := omega) only [xr]) (by simp -dsimp (disch := omega) only [xr]) ?_
      rw [e1, lkR_val]
      simp -dsimp (disch := omega) only [xp, xr, xo, xv, xk, hx7, hx8, hr7, hr8, encIns, e2]
      refine TP.call hcall ?_ ?_
      · rintro v w9 ⟨rfl, W', x', hW, okW, HC⟩
        have hdo : doW p W g G f = (W', restI i) := by
          unfold doW
          rw [hcode]
          simp only [Option.bind_some, hi, hpu]
          rw [hW]
        have HC := HC.mv 11
        have HD : S κ (wL wb pv x' W' (mpt tb wtab :: progA pv p :: F)) w9 := HC.drop
        have hx := HC.cell 0 rfl
        rcases Bool.eq_false_or_eq_true (decide (i.op = 12)) with d12 | d12
        · have hre : restI i = true := by simp [restI, d12]
          simp -dsimp (disch := omega) only [xp, xr, xo, xv, hdo, hx, encIns, d12]
          exact defer_none HD.wpop.drop rfl fun w' H' => ⟨_, rfl, by rw [hre]; rfl, x', okW, H'⟩
        · have hre : restI i = decide (i.op = 17) := by simp [restI, d12]
          simp -dsimp (disch := omega) only [xp, xr, xo, xv, hdo, hx, encIns, d12]
          exact defer_none HD.wpop.drop rfl fun w' H' => ⟨_, rfl, by rw [hre]; rfl, x', okW, H'⟩
      · rintro ch w9 ⟨c, W', x', hW, rfl, okW, HC⟩
        have hdo : doW p W g G f = (trapped c W', false) := by
          unfold doW
          rw [hcode]
          simp only [Option.bind_some, hi, hpu]
          rw [hW]
        rw [hdo]
        exact defer_trap ((HC.mv 10).drop.mv 10).drop rfl fun w' H' => ⟨_, rfl, rfl, x', { okW with }, H'⟩
end Go.Proofs.Ytojbbajmldbffaa
