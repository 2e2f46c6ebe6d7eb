/- Who sleeps wakes in time: the law's own walk. -/
import Derived.Test.YtojbbajmldbffaaSlimLawW
import Derived.Test.YtojbbajmldbffaaSleepMW
set_option linter.unusedSimpArgs false
set_option linter.unusedVariables false
set_option maxRecDepth 20000
set_option maxHeartbeats 4000000
namespace Go.Proofs.Ytojbbajmldbffaa
open Go.Shu
variable {κ w : World} {F : List Asn} {wb : Nat} {pv : PV} {x : Lay} {W : Wd}

theorem runsOf {g : Nat} {G : Gor} {f : Fr} (H : S κ (wR wb pv x W F) w) (ok : WOk x W) (hg : W.gs[g]? = some G) (hs : G.s = [f]) : ∃ gp sb cap, Runs x W g gp sb cap G f := by
  have hgl := (List.getElem?_eq_some_iff.1 hg).1
  obtain ⟨⟨gp, sv⟩, hl⟩ : ∃ a, x.gl[g]? = some a := ⟨_, List.getElem?_eq_getElem (by rw [ok.gl]; exact hgl)⟩
  obtain ⟨ws, _, H0⟩ := S.gopenR (R := (wR wb pv x W F).tail) H hg hl
  obtain ⟨a, cap, rfl, hr⟩ := S.sle_form (v := sv) (xs := G.s) H0 1 rfl encFr_len (by decide)
  obtain ⟨sb, rfl, _⟩ := hr 0 f (by rw [hs]; rfl)
  exact ⟨gp, sb, cap, hg, hl, by rw [hs]; rfl⟩

theorem none6 {a b : Value} : T Try.prog 6 [a, b] w fun v w' => v = .int .i64 0 ∧ w' = w := by
  refine T.of Try.func6 sl6 rfl ?_
  simp -dsimp (disch := omega) only [s6, xr, xo, xv]
  exact ⟨trivial, trivial⟩

/-- A program without channels lies in memory. -/
theorem progOf {fv : Value} {fs : List Value} {codes : List (List Ins)} (H : S κ (sle 1 encVal fv fs :: (List.zipWith (fun v f => sle 4 encIns v f) fs codes ++ F)) w) (hl : fs.length = codes.length) :
    S κ (progA ⟨fv, .slice none 0 0, 0, .slice none 0 0, fs⟩ ⟨codes, [], 0, []⟩ :: F) w := by
  have H1 : S κ (sle 1 encVal fv fs :: sle 1 encInt (.slice none 0 0) [] :: sle 3 encCase (.slice none 0 0) [] :: (List.zipWith (fun v f => sle 4 encIns v f) fs codes ++ F)) w := (((S.slc_nil (esz := 1) (S.slc_nil (esz := 3) H))).mv 2)
  exact S.nest (l1 := pur (fs.length = codes.length) :: sle 1 encVal fv fs :: sle 1 encInt (.slice none 0 0) [] :: sle 3 encCase (.slice none 0 0) [] :: List.zipWith (fun v f => sle 4 encIns v f) fs codes) (S.purI hl H1)

def progA0 : Prog := ⟨[[⟨20, 0, 0, 0⟩, ⟨10, 0, 0, 0⟩]], [], 0, []⟩
def frA : Fr := begin1 0 0
def frB : Fr := { frA with at_ := 1 }
def gorA : Gor := ⟨1, [frA], noIns⟩
def gorB : Gor := ⟨1, [frB], noIns⟩
def wdB : Wd := ⟨[gorB], 0, [], [], [], 0, [0], 0, 0, []⟩
def gorC : Gor := ⟨4, [{ frA with at_ := 2 }], noIns⟩
def wdC : Wd := ⟨[gorC], 0, [], [], [], 0, [0], 1, 0, []⟩
theorem awakeA : (execW progA0 newW 0 gorA frA).2 = true ∧ (execW progA0 newW 0 gorA frA).1 = wdB := ⟨rfl, rfl⟩
theorem awakeB : (execW progA0 wdB 0 gorB frB).2 = false ∧ (execW progA0 wdB 0 gorB frB).1 = wdC := ⟨rfl, rfl⟩
theorem okA {W : Wd} {f : Fr} (hf : f.fn = 0) (ha : f.at_ = 0 ∨ f.at_ = 1) (h0 : f.get 0 = 0) (hi : f.into = 0) (hw : W.clock = 0 ∧ W.seq = 0 ∧ W.sleep = [] ∧ W.ready = []) : StepOk progA0 W f := by
  refine ⟨by rw [hf]; decide, by omega, by decide, by decide, fun l i hl hi' => ?_, fun l i hl hi' _ => ?_⟩
  all_goals
    rw [hf] at hl
    cases hl
    rcases ha with ha | ha
    all_goals
      rw [ha] at hi'
      cases hi'
  · exact ⟨by decide, by decide, by decide, by decide⟩
  · exact ⟨by decide, by decide, by decide, by decide⟩
  · exact ⟨by decide, by decide, by decide, by decide, by show okReg f.into; rw [hi]; decide, by show _ ≤ f.get 0 ∧ f.get 0 ≤ _; rw [h0]; decide, by rw [hw.1]; decide, by rw [hw.2.1]; decide, by rw [hw.2.2.1]; decide, by rw [hw.2.2.2]; decide⟩
  · exact ⟨by decide, by decide, by decide, by decide, by show okReg f.into; rw [hi]; decide, by show _ ≤ f.get 0 ∧ f.get 0 ≤ _; rw [h0]; decide, by rw [hw.1]; decide, by rw [hw.2.1]; decide, by rw [hw.2.2.1]; decide, by rw [hw.2.2.2]; decide⟩

theorem awake_T (H : S κ F w) : T Try.prog 4 [] w fun v w' => v = .bool true ∧ S κ F w' := by
  refine T.of Try.func4 sl4 rfl ?_
  simp -dsimp (disch := omega) only [s4, xr, xo, xv]
  refine H.bs fun cb w1 H1 => ?_
  simp -dsimp (disch := omega) only [xr, xo, xv]
  refine H1.bs fun fb w2 H2 => ?_
  simp -dsimp (disch := omega) only [xr, xo, xv]
  have H3 : S κ (sle 1 encVal (.slice (some ⟨fb, 0, none⟩) 1 1) [.slice (some ⟨cb, 0, none⟩) 2 2] :: (List.zipWith (fun v f => sle 4 encIns v f) [.slice (some ⟨cb, 0, none⟩) 2 2] [[⟨20, 0, 0, 0⟩, ⟨10, 0, 0, 0⟩]] ++ F)) w2 :=
    (S.slc_mk (esz := 4) ((S.slc_mk (esz := 1) H2 rfl).mv 1) rfl).mv 1
  have H4 : S κ (progA ⟨.slice (some ⟨fb, 0, none⟩) 1 1, .slice none 0 0, 0, .slice none 0 0, [.slice (some ⟨cb, 0, none⟩) 2 2]⟩ progA0 :: F) w2 := progOf H3 rfl
  generalize hpv : (⟨.slice (some ⟨fb, 0, none⟩) 1 1, .slice none 0 0, 0, .slice none 0 0, [.slice (some ⟨cb, 0, none⟩) 2 2]⟩ : PV) = pv at H4
  have hb := New0_T H4 rfl (by rw [← hpv])
  rw [show ([pv.fv, pv.cv, .int .i64 pv.locks, pv.kv] : List Value) = [.slice (some ⟨fb, 0, none⟩) 1 1, .slice none 0 0, .int .i64 0, .slice none 0 0] by rw [← hpv]] at hb
  refine T.call hb ?_
  clear hb
  rintro v w3 ⟨wb, x, rfl, ok, H5⟩
  simp -dsimp (disch := omega) only [xr, xo, xv]
  refine eqPtr_f' (b := ⟨wb, 0, none⟩) (by kernel_rfl) (by simp -dsimp (disch := omega) only [xr]) rfl ?_
  simp -dsimp (disch := omega) only [xr, xo, xv]
  obtain ⟨gp, sb, cap, hr⟩ := runsOf (g := 0) (G := gorA) (f := frA) H5 ok rfl rfl
  have hb := Exec_T (dv := .func (.func 11) #[] #[]) H5 ok hr (fun _ _ => okA rfl (.inl rfl) rfl rfl ⟨rfl, rfl, rfl, rfl⟩) ⟨rfl, rfl⟩
  rw [awakeA.1, awakeA.2] at hb
  refine T.call hb ?_
  clear hb
  rintro v w4 ⟨x1, rv, rfl, ok1, H6⟩
  simp -dsimp (disch := omega) only [xr, xo, xv]
  have H6 : S κ (sle 1 encNat rv [] :: wR wb pv x1 wdB (progA pv progA0 :: F)) w4 := rpop H6
  have hv1 := H6.slc_one (v := rv) 0 rfl
  have H6 := H6.drop
  obtain ⟨gp, sb, cap, hr⟩ := runsOf (g := 0) (G := gorB) (f := frB) H6 ok1 rfl rfl
  have hb := Exec_T (dv := .func (.func 11) #[] #[]) H6 ok1 hr (fun _ _ => okA rfl (.inr rfl) rfl rfl ⟨rfl, rfl, rfl, rfl⟩) ⟨rfl, rfl⟩
  rw [awakeB.1, awakeB.2] at hb
  refine T.call hb ?_
  clear hb
  rintro v w5 ⟨x2, rv2, rfl, ok2, H7⟩
  have H7 : S κ (sle 1 encNat rv2 [] :: wR wb pv x2 wdC (progA pv progA0 :: F)) w5 := rpop H7
  have hv2 := H7.slc_one (v := rv2) 0 rfl
  have H7 := H7.drop
  simp -dsimp (disch := omega) only [xr, xo, xv]
  refine H7.al fun b3 w6 H8 => ?_
  simp -dsimp (disch := omega) only [xr, xo, xv]
  refine H8.al fun b4 w7 H9 => ?_
  simp -dsimp (disch := omega) only [xr, xo, xv]
  refine H9.sto 1 (off := 0) (vs := [.bool true, rv]) rfl (by simp) (by rw [List.all_cons, List.all_cons, hv1.2]; rfl) fun w8 HA => ?_
  simp -dsimp (disch := omega) only [xr, xo, xv]
  refine HA.sto 0 (off := 0) (vs := [.bool false, rv2]) rfl (by simp) (by rw [List.all_cons, List.all_cons, hv2.2]; rfl) fun w9 HB => ?_
  have HB : S κ (wR wb pv x2 wdC (pt b4 [.bool false, rv2] :: pt b3 [.bool true, rv] :: progA pv progA0 :: F)) w9 := ((((((((HB.mv 10).mv 10).mv 10).mv 10).mv 10).mv 10).mv 10).mv 10).mv 10
  simp -dsimp (disch := omega) only [xr, xo, xv]
  have hb := End_T HB
  refine T.call hb ?_
  clear hb
  rintro v w10 ⟨rfl, HC⟩
  simp -dsimp (disch := omega) only [xr, xo, xv]
  have hb := Out_T HC (by decide)
  refine T.call hb ?_
  clear hb
  intro v w11 HD
  obtain ⟨oa, oc, rfl, hrow⟩ := HD.sle_at1 (v := v) (xs := wdC.out) 0 rfl encInt_len
  obtain ⟨ob, rfl, ho⟩ := hrow 0 0 rfl
  have h3 := HD.cell 11 rfl
  have h4 := HD.cell 10 rfl
  have hE : wdC.end_ = 1 := rfl
  have hL : wdC.out.length = 1 := rfl
  have dd : decide ((1 : Int) = 1) = true := rfl
  have dd0 : decide ((0 : Int) = 0) = true := rfl
  have dd1 : decide (((1 : Nat) : Int) = 1) = true := rfl
  have dd4 : decide ((4 : Int) = 4) = true := rfl
  simp -dsimp (disch := omega) only [xr, xo, xv, h3, h4, hE, hL, dd, dd0, dd1, ho, encInt, Bool.not_false, decide_true]
  have hb := Status_T (g := 0) (G := gorC) (HD.drop) rfl (show x2.gl[0]? = some (x2.gl[0]'(by rw [ok2.gl]; decide)) from List.getElem?_eq_getElem _) ok2.gl (by decide)
  refine T.call hb ?_
  clear hb
  rintro v w12 ⟨rfl, HE⟩
  have hS : gorC.status = 4 := rfl
  simp -dsimp (disch := omega) only [xr, xo, xv, hS, decide_true]
  exact ⟨trivial, HE.drop.drop.drop.drop.drop.drop.drop.drop.drop.drop.drop.drop⟩

/-! ### The steps are such -/
theorem mainC_len (d : Nat → Nat) (n : Nat) : (mainC d n).length = 2 * n + 2 := by unfold mainC; rw [List.length_append, pairs_len]; rfl
theorem progS_lens {d : Nat → Nat} {n : Nat} (hn : n ≤ 20) : ∀ l ∈ (progS d n).funcs, l.length < 1000000 := by
  intro l hl
  simp only [progS, List.mem_cons, List.not_mem_nil, or_false] at hl
  rcases hl with rfl | rfl
  · rw [mainC_len]; omega
  · decide
theorem okMain {d : Nat → Nat} {n j : Nat} {W : Wd} {f : Fr} (hn : n ≤ 20) (hj : j < 2 * n) (hfn : f.fn = 0) (hat : f.at_ = j) (hi : f.into = 0) (hr : j % 2 = 1 → -1000000 ≤ f.get 1 ∧ f.get 1 ≤ 1000000) (hc : W.clock = 0) (hq : W.seq = 0) (hs : W.sleep = []) (hrd : W.ready = []) :
    StepOk (progS d n) W f := by
  have key : ∀ l i, (progS d n).funcs[f.fn.toNat]? = some l → l[f.at_.toNat]? = some i → (j % 2 = 0 ∧ ∃ b, i = ⟨1, 1, b, 0⟩) ∨ (j % 2 = 1 ∧ i = ⟨11, 1, 1, 2⟩) := by
    intro l i hl hi'
    rw [hfn] at hl
    cases hl
    rw [hat] at hi'
    have hk : j / 2 < n := by omega
    obtain ⟨h1, h2⟩ := main_get d n (j / 2) hk
    rcases Nat.mod_two_eq_zero_or_one j with h | h
    · left
      have e : ((j : Int)).toNat = 2 * (j / 2) := by omega
      rw [e, h1] at hi'
      cases hi'
      exact ⟨h, _, rfl⟩
    · right
      have e : ((j : Int)).toNat = 2 * (j / 2) + 1 := by omega
      rw [e, h2] at hi'
      cases hi'
      exact ⟨h, rfl⟩
  refine ⟨by rw [hfn]; exact ⟨by decide, (by decide : (0 : Nat) < 2)⟩, by omega, progS_lens hn, (by decide : (2 : Nat) < 1000000), fun l i hl hi' => ?_, fun l i hl hi' hp => ?_⟩
  · rcases key l i hl hi' with ⟨_, b, rfl⟩ | ⟨_, rfl⟩
    · exact ⟨fun _ => (by decide : okReg 1), fun h => absurd h.1 (by decide : ¬ (2 : Int) ≤ 1), fun h => absurd h.1 (by decide : ¬ (3 : Int) ≤ 1), fun h => absurd h (by decide : ¬ (1 : Int) = 8)⟩
    · exact ⟨by decide, by decide, by decide, by decide⟩
  · rcases key l i hl hi' with ⟨_, b, rfl⟩ | ⟨hodd, rfl⟩
    · cases hp
    · have hr := hr hodd
      exact ⟨by decide, by decide, by decide, by decide, by show okReg f.into; rw [hi]; decide, by show _ ≤ f.get 1 ∧ f.get 1 ≤ _; omega, by rw [hc]; decide, by rw [hq]; decide, by rw [hs]; decide, by rw [hrd]; decide⟩
theorem okChild {d : Nat → Nat} {n : Nat} {W : Wd} {f : Fr} (hn : n ≤ 20) (hfn : f.fn = 1) (hat : 0 ≤ f.at_ ∧ f.at_ ≤ 9) (hi : f.into = 0) (h0 : -1000000 ≤ f.get 0 ∧ f.get 0 ≤ 1000000) (h3 : -1000000 ≤ f.get 3 ∧ f.get 3 ≤ 1000000) (hc : W.clock ≤ 1000) (hq : W.seq ≤ 1000) (hs : W.sleep.length ≤ 1000) (hrd : W.ready = []) :
    StepOk (progS d n) W f := by
  have key : ∀ l i, (progS d n).funcs[f.fn.toNat]? = some l → l[f.at_.toNat]? = some i → okPure i ∧ (pureOp { f with at_ := f.at_ + 1 } i = none → (i = ⟨17, 0, 0, 0⟩ ∨ i = ⟨20, 3, 0, 0⟩ ∨ i = ⟨10, 0, 0, 0⟩)) := by
    intro l i hl hi'
    rw [hfn] at hl
    cases hl
    obtain ⟨a, ha⟩ : ∃ a : Nat, f.at_ = a := ⟨f.at_.toNat, by omega⟩
    rw [ha] at hi'
    have ha9 : a ≤ 9 := by omega
    simp only [Int.toNat_natCast] at hi'
    rcases a with _ | _ | _ | _ | _ | _ | _ | _ | _ | _ | a
    all_goals first
      | omega
      | (cases hi'; exact ⟨⟨by decide, by decide, by decide, by decide⟩, fun h => by first | exact .inl rfl | exact .inr (.inl rfl) | exact .inr (.inr rfl) | cases h⟩)
  refine ⟨by rw [hfn]; exact ⟨by decide, (by decide : (1 : Nat) < 2)⟩, by omega, progS_lens hn, (by decide : (2 : Nat) < 1000000), fun l i hl hi' => (key l i hl hi').1, fun l i hl hi' hp => ?_⟩
  rcases (key l i hl hi').2 hp with rfl | rfl | rfl
  all_goals
    exact ⟨by decide, by decide, by decide, by decide, by show okReg f.into; rw [hi]; decide, by first | (show _ ≤ f.get 0 ∧ f.get 0 ≤ _; omega) | (show _ ≤ f.get 3 ∧ f.get 3 ≤ _; omega), by omega, by omega, by omega, by rw [hrd]; decide⟩

/-- One Exec; who can go on is not looked at. -/
theorem Exec_S {p : Prog} {g : Nat} {G : Gor} {f : Fr} {k : FuncId} (H : S κ (wR wb pv x W (progA pv p :: F)) w) (ok : WOk x W) (hg : W.gs[g]? = some G) (hs : G.s = [f]) (hstep : W.end_ = 0 → G.status = 1 → StepOk p { W with ready := [] } f) :
    T Try.prog 7 [.pointer (some ⟨wb, 0, none⟩), .int .i64 g, .func (.func k) #[] #[]] w fun v w' => ∃ x', WOk x' (execW p W g G f).1 ∧ S κ (wR wb pv x' (execW p W g G f).1 (progA pv p :: F)) w' := by
  obtain ⟨gp, sb, cap, hr⟩ := runsOf H ok hg hs
  refine Calls.mono (Exec_T H ok hr hstep ⟨rfl, rfl⟩) fun e w' he => ?_
  obtain ⟨v, he, x', rv, _, ok', H'⟩ := he
  exact ⟨v, he, x', ok', (rpop H').drop⟩
end Go.Proofs.Ytojbbajmldbffaa
