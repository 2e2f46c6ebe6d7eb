/- The world's exported functions: contracts. -/
import Derived.Test.YtojbbajmldbffaaDoW
set_option linter.unusedSimpArgs false
set_option linter.unusedVariables false
set_option maxRecDepth 20000
set_option maxHeartbeats 2000000
namespace Go.Proofs.Ytojbbajmldbffaa
open Go.Shu
variable {κ w : World} {F : List Asn} {wb : Nat} {pv : PV} {x : Lay} {W : Wd}

/-- At rest: who can go on is the caller's. -/
def wR (wb : Nat) (pv : PV) (x : Lay) (W : Wd) (F : List Asn) : List Asn :=
  star (List.zipWith gA x.gl W.gs) :: pt wb (wCells pv x W) :: sle 1 encG x.gv x.gl :: sle 3 encItem x.hv x.hl :: sle 1 encInt x.ov W.out :: sle 1 encPtr x.cv x.cl :: sle 1 encPtr x.lv x.ll :: star (List.zipWith chA x.cl W.chans) :: star (List.zipWith lkA x.ll W.locks) :: F

def execW (p : Prog) (W : Wd) (g : Nat) (G : Gor) (f : Fr) : Wd × Bool :=
  if W.end_ ≠ 0 ∨ G.status ≠ 1 then ({ W with ready := [] }, false)
  else
    let r := doW p { W with ready := [] } g G f
    (r.1, !r.2 && decide (r.1.end_ = 0) && (match r.1.gs[g]? with | some G' => decide (G'.status = 1) | none => false))

theorem deed_len {g : Nat} {G : Gor} {f : Fr} {i : Ins} {W' : Wd} : (deed W g G f i = .ok W' ∨ ∃ c, deed W g G f i = .trap c W') → W.gs.length ≤ W'.gs.length := by
  unfold deed callW backW spawnW sleepW emitW
  intro h
  dsimp only at h
  repeat' split at h
  all_goals
    rcases h with h | ⟨c, h⟩
    all_goals first
      | (cases h; done)
      | (cases h; simp [Wd.modG, Wd.status, Wd.wake, Wd.setReg]; done)
theorem doW_len {p : Prog} {g : Nat} {G : Gor} {f : Fr} : W.gs.length ≤ (doW p W g G f).1.gs.length := by
  unfold doW
  split
  · exact Nat.le_refl _
  · split
    · simp
    · split
      · rename_i h; have := deed_len (.inl h); simpa using this
      · rename_i h; have := deed_len (.inr ⟨_, h⟩); simpa [trapped] using this

theorem rpush {A : Asn} (H : S κ (A :: wR wb pv x W F) w) : S κ (wR wb pv x W (A :: F)) w := ((((((((H.mv 9).mv 9).mv 9).mv 9).mv 9).mv 9).mv 9).mv 9).mv 9
theorem rpop {A : Asn} (H : S κ (wR wb pv x W (A :: F)) w) : S κ (A :: wR wb pv x W F) w := H.mv 9
theorem Exec_T {p : Prog} {g gp sb cap : Nat} {G : Gor} {f : Fr} {dv : Value} (H : S κ (wR wb pv x W (progA pv p :: F)) w) (ok : WOk x W) (h : Runs x W g gp sb cap G f) (hs : W.end_ = 0 → G.status = 1 → StepOk p { W with ready := [] } f) (hdv : dv.cells.toList = [dv] ∧ dv.oneCell' = true) :
    T Try.prog 7 [.pointer (some ⟨wb, 0, none⟩), .int .i64 g, dv] w fun v w' => ∃ x' rv, v = .agg ([.bool (execW p W g G f).2, rv] : List Value).toArray ∧ WOk x' (execW p W g G f).1 ∧
      S κ (wR wb pv x' (execW p W g G f).1 (sle 1 encNat rv (execW p W g G f).1.ready :: progA pv p :: F)) w' := by
  have hgl := (List.getElem?_eq_some_iff.1 h.hg).1
  have hlx := ok.gl
  have hgm := ok.gmax
  obtain ⟨ws, hws, H0⟩ := S.gopenR (R := (wR wb pv x W (progA pv p :: F)).tail) H h.hg h.hl
  obtain ⟨a, gc, hgv, hrow⟩ := S.sle_at1 (v := x.gv) (xs := x.gl) H0 4 rfl encG_len
  obtain ⟨gb, rfl, hgc⟩ := hrow g _ h.hl
  have hglx : g < x.gl.length := by omega
  refine T.of Try.func7 sl7 rfl ?_
  simp -dsimp (disch := omega) only [s7, xr, xo, xv]
  refine H0.al fun b6 w1 H1 => ?_
  obtain ⟨a1, gc1, hgv1, hrow1⟩ := S.sle_at1 (v := x.gv) (xs := x.gl) H1 5 rfl encG_len
  rw [hgv] at hgv1
  cases hgv1
  obtain ⟨gb1, hgb1, hgc1⟩ := hrow1 g _ h.hl
  cases hgb1
  have hw := H1.cell 4 rfl
  have hp := H1.cell 1 rfl
  have d1 : decide ((g : Int) < 0) = false := decide_eq_false (by omega)
  have d2 : decide ((x.gl.length : Int) ≤ g) = false := decide_eq_false (by omega)
  by_cases he : W.end_ = 0
  · have d3 : decide (W.end_ = 0) = true := decide_eq_true he
    by_cases hst : G.status = 1
    · have d4 : decide (G.status = 1) = true := decide_eq_true hst
      simp -dsimp (disch := omega) only [xr, xo, xv, hw, hp, wCells, hgv, hgc1, encG, d1, d2, d3, d4, Bool.not_true]
      refine H1.sto 4 (off := 13) (vs := [.slice none 0 0]) rfl (by simp [wCells]) rfl fun w2 H2 => ?_
      simp -dsimp (disch := omega) only [xr, xo, xv, hdv.1]
      refine H2.sto 4 (off := 14) (vs := [dv]) rfl (by simp [wCells, putL]) (by simp [hdv.2]) fun w3 H3 => ?_
      simp -dsimp (disch := omega) only [xr, xo, xv]
      have H4 : S κ (pt b6 [.bool false, .slice none 0 0] :: wR wb pv { x with rd := .slice none 0 0, dr := dv } { W with ready := [] } (progA pv p :: F)) w3 :=
        (S.gcloseR (R := pt b6 [.bool false, .slice none 0 0] :: (wR wb pv { x with rd := .slice none 0 0, dr := dv } W (progA pv p :: F)).tail) (((H3.mv 3).mv 3).mv 3) h.hg h.hl hws).mv 1
      have H5 : S κ (wL wb pv { x with rd := .slice none 0 0, dr := dv } { W with ready := [] } (progA pv p :: pt b6 [.bool false, .slice none 0 0] :: F)) w3 := rpush (S.slc_nil (esz := 1) (rpush ((rpush H4).mv 10)))
      have ok2 : WOk { x with rd := .slice none 0 0, dr := dv } { W with ready := [] } := { ok with readys := by simp }
      have hb := do_T H5 ok2 ⟨h.hg, h.hl, h.hf⟩ (hs he hst)
      refine T.call hb ?_
      clear hb
      rintro v w4 ⟨rfl, x', ok3, H6⟩
      have hex : execW p W g G f = ((doW p { W with ready := [] } g G f).1, !(doW p { W with ready := [] } g G f).2 && decide ((doW p { W with ready := [] } g G f).1.end_ = 0) && (match (doW p { W with ready := [] } g G f).1.gs[g]? with | some G' => decide (G'.status = 1) | none => false)) := by
        unfold execW; rw [if_neg (by simp [he, hst])]
      rw [hex]
      have hgl2 : g < (doW p { W with ready := [] } g G f).1.gs.length := Nat.lt_of_lt_of_le hgl (doW_len (W := { W with ready := [] }))
      generalize doW p { W with ready := [] } g G f = r at ok3 H6 hgl2
      obtain ⟨W2, rest⟩ := r
      simp only at ok3 H6 hgl2
      obtain ⟨G', hg'⟩ : ∃ G', W2.gs[g]? = some G' := ⟨_, List.getElem?_eq_getElem hgl2⟩
      obtain ⟨⟨gp', sv'⟩, hl'⟩ : ∃ a, x'.gl[g]? = some a := ⟨_, List.getElem?_eq_getElem (by rw [ok3.gl]; exact hgl2)⟩
      obtain ⟨ws', hws', H7⟩ := S.gopenR (R := (wL wb pv x' W2 (progA pv p :: pt b6 [.bool false, .slice none 0 0] :: F)).tail) H6 hg' hl'
      simp -dsimp (disch := omega) only [xr, xo, xv]
      refine H7.dr fun w5 H8 => ?_
      obtain ⟨a2, gc2, hgv2, hrow2⟩ := S.sle_at1 (v := x'.gv) (xs := x'.gl) H8 4 rfl encG_len
      obtain ⟨gb2, rfl, hgc2⟩ := hrow2 g _ hl'
      have hw := H8.cell 3 rfl
      have hp := H8.cell 0 rfl
      have hglx2 : g < x'.gl.length := by rw [ok3.gl]; exact hgl2
      have hrd := (H8.slc_one (v := x'.rd) 11 rfl)
      rw [hg']
      have fin : ∀ {keep : Bool} {w6 : World}, S κ (pt b6 [.bool keep, x'.rd] :: pt gp' (.int .i64 G'.status :: sv' :: encIns ws') :: sle 11 encFr sv' G'.s :: star ((List.zipWith gA x'.gl W2.gs).eraseIdx g) :: (wR wb pv x' W2 (sle 1 encNat x'.rd W2.ready :: progA pv p :: F)).tail) w6 →
          S κ (wR wb pv x' W2 (sle 1 encNat x'.rd W2.ready :: progA pv p :: F)) w6 := fun h6 => S.gcloseR (R := (wR wb pv x' W2 (sle 1 encNat x'.rd W2.ready :: progA pv p :: F)).tail) h6.drop hg' hl' hws'
      have H8 : S κ (pt b6 [.bool false, .slice none 0 0] :: pt gp' (.int .i64 G'.status :: sv' :: encIns ws') :: sle 11 encFr sv' G'.s :: star ((List.zipWith gA x'.gl W2.gs).eraseIdx g) :: (wR wb pv x' W2 (sle 1 encNat x'.rd W2.ready :: progA pv p :: F)).tail) w5 := H8.mv 13
      rcases rest with _ | _
      · rcases Bool.eq_false_or_eq_true (decide (W2.end_ = 0)) with e1 | e1
        · rcases Bool.eq_false_or_eq_true (decide (G'.status = 1)) with e2 | e2
          · simp -dsimp (disch := omega) only [xp, xr, xo, xv, hw, hp, wCells, hgv2, hgc2, encG, e1, e2, Bool.not_false, Bool.not_true, hrd.1]
            refine H8.sto 0 (off := 0) (vs := [.bool true, x'.rd]) rfl (by simp) (by rw [List.all_cons, List.all_cons, hrd.2]; rfl) fun w6 H9 => ?_
            have hr : rowOf w6 ⟨b6, 0, none⟩ 2 = some [.bool true, x'.rd] := H9.row 0 rfl 0 2 (Nat.le_refl _)
            simp -dsimp (disch := omega) only [xp, xr, xo, xv, hr]
            exact ⟨x', x'.rd, rfl, ok3, fin H9⟩
          · simp -dsimp (disch := omega) only [xp, xr, xo, xv, hw, hp, wCells, hgv2, hgc2, encG, e1, e2, Bool.not_false, Bool.not_true, hrd.1]
            refine H8.sto 0 (off := 0) (vs := [.bool false, x'.rd]) rfl (by simp) (by rw [List.all_cons, List.all_cons, hrd.2]; rfl) fun w6 H9 => ?_
            have hr : rowOf w6 ⟨b6, 0, none⟩ 2 = some [.bool false, x'.rd] := H9.row 0 rfl 0 2 (Nat.le_refl _)
            simp -dsimp (disch := omega) only [xp, xr, xo, xv, hr]
            exact ⟨x', x'.rd, rfl, ok3, fin H9⟩
        · simp -dsimp (disch := omega) only [xp, xr, xo, xv, hw, hp, wCells, hgv2, hgc2, encG, e1, Bool.not_false, Bool.not_true, hrd.1]
          refine H8.sto 0 (off := 0) (vs := [.bool false, x'.rd]) rfl (by simp) (by rw [List.all_cons, List.all_cons, hrd.2]; rfl) fun w6 H9 => ?_
          have hr : rowOf w6 ⟨b6, 0, none⟩ 2 = some [.bool false, x'.rd] := H9.row 0 rfl 0 2 (Nat.le_refl _)
          simp -dsimp (disch := omega) only [xp, xr, xo, xv, hr]
          exact ⟨x', x'.rd, rfl, ok3, fin H9⟩
      · simp -dsimp (disch := omega) only [xp, xr, xo, xv, hw, hp, wCells, hgv2, hgc2, encG, Bool.not_false, Bool.not_true, hrd.1]
        refine H8.sto 0 (off := 0) (vs := [.bool false, x'.rd]) rfl (by simp) (by rw [List.all_cons, List.all_cons, hrd.2]; rfl) fun w6 H9 => ?_
        have hr : rowOf w6 ⟨b6, 0, none⟩ 2 = some [.bool false, x'.rd] := H9.row 0 rfl 0 2 (Nat.le_refl _)
        simp -dsimp (disch := omega) only [xp, xr, xo, xv, hr]
        exact ⟨x', x'.rd, rfl, ok3, fin H9⟩
    · have d4 : decide (G.status = 1) = false := decide_eq_false hst
      simp -dsimp (disch := omega) only [xr, xo, xv, hw, hp, wCells, hgv, hgc1, encG, d1, d2, d3, d4, Bool.not_true, Bool.not_false]
      refine H1.sto 0 (off := 0) (vs := [.bool false, .slice none 0 0]) rfl (by simp) rfl fun w2 H2 => ?_
      have hr : rowOf w2 ⟨b6, 0, none⟩ 2 = some [.bool false, .slice none 0 0] := H2.row 0 rfl 0 2 (Nat.le_refl _)
      simp -dsimp (disch := omega) only [xr, xo, xv, hr]
      have hex : execW p W g G f = ({ W with ready := [] }, false) := by unfold execW; rw [if_pos (by simp [hst])]
      rw [hex]
      have H3 : S κ (wR wb pv x { W with ready := [] } (progA pv p :: F)) w2 := S.gcloseR (R := (wR wb pv x W (progA pv p :: F)).tail) H2.drop h.hg h.hl hws
      exact ⟨x, .slice none 0 0, rfl, { ok with readys := by simp }, rpush (S.slc_nil (esz := 1) H3)⟩
  · have d3 : decide (W.end_ = 0) = false := decide_eq_false he
    simp -dsimp (disch := omega) only [xr, xo, xv, hw, hp, wCells, hgv, hgc1, encG, d1, d2, d3, Bool.not_false]
    refine H1.sto 0 (off := 0) (vs := [.bool false, .slice none 0 0]) rfl (by simp) rfl fun w2 H2 => ?_
    have hr : rowOf w2 ⟨b6, 0, none⟩ 2 = some [.bool false, .slice none 0 0] := H2.row 0 rfl 0 2 (Nat.le_refl _)
    simp -dsimp (disch := omega) only [xr, xo, xv, hr]
    have hex : execW p W g G f = ({ W with ready := [] }, false) := by unfold execW; rw [if_pos (by simp [he])]
    rw [hex]
    have H3 : S κ (wR wb pv x { W with ready := [] } (progA pv p :: F)) w2 := S.gcloseR (R := (wR wb pv x W (progA pv p :: F)).tail) H2.drop h.hg h.hl hws
    exact ⟨x, .slice none 0 0, rfl, { ok with readys := by simp }, rpush (S.slc_nil (esz := 1) H3)⟩

def wakeAll (W : Wd) (l : List HItem) : Wd := l.foldl (fun W y => W.wake y.id) W
def tickW (W : Wd) : Wd :=
  if W.end_ ≠ 0 then { W with ready := [] }
  else wakeAll { W with clock := W.clock + 1, ready := [], sleep := W.sleep.dropWhile fun y => decide (y.at_ ≤ W.clock + 1) } (W.sleep.takeWhile fun y => decide (y.at_ ≤ W.clock + 1))

theorem wakeAll_len (l : List HItem) : ∀ W : Wd, (wakeAll W l).gs.length = W.gs.length ∧ (wakeAll W l).ready.length = W.ready.length + l.length := by
  induction l with
  | nil => intro W; exact ⟨rfl, rfl⟩
  | cons y l ih =>
    intro W
    obtain ⟨h1, h2⟩ := ih (W.wake y.id)
    refine ⟨by rw [show wakeAll W (y :: l) = wakeAll (W.wake y.id) l from rfl, h1]; simp [Wd.wake, Wd.modG], ?_⟩
    rw [show wakeAll W (y :: l) = wakeAll (W.wake y.id) l from rfl, h2]
    simp [Wd.wake, Wd.modG]; omega
theorem WOk.wake {g : Nat} {rd : Value} (ok : WOk x W) (hr : W.ready.length + 1 < 900000) : WOk { x with rd := rd } (W.wake g) := by
  have hs := ok.stacks
  refine { ok with gl := by simp [Wd.wake, Wd.modG, ok.gl], gmax := by simp [Wd.wake, Wd.modG, ok.gmax], readys := by simp [Wd.wake, Wd.modG]; omega, stacks := fun G' hG' => ?_ }
  simp only [Wd.wake, Wd.modG] at hG'
  obtain ⟨j, hj, hG2⟩ := List.getElem_of_mem hG'
  rw [List.getElem_modify] at hG2
  have hj' : j < W.gs.length := by simpa using hj
  have h2 := hs W.gs[j] (List.getElem_mem hj')
  split at hG2
  · rw [← hG2]; exact h2
  · rw [← hG2]; exact h2

theorem Tick_T (H : S κ (wR wb pv x W F) w) (ok : WOk x W) (hid : ∀ y ∈ W.sleep, y.id < W.gs.length) (hcl : W.clock < 900000000000000000) :
    T Try.prog 8 [.pointer (some ⟨wb, 0, none⟩)] w fun v w' => ∃ x', WOk x' (tickW W) ∧ S κ (wR wb pv x' (tickW W) (sle 1 encNat v (tickW W).ready :: F)) w' := by
  have hsl := ok.sleeps
  refine T.of Try.func8 sl8 rfl ?_
  have hw := H.cell 1 rfl
  by_cases he : W.end_ = 0
  · have d : decide (W.end_ = 0) = true := decide_eq_true he
    have htick : tickW W = wakeAll { W with clock := W.clock + 1, ready := [], sleep := W.sleep.dropWhile fun y => decide (y.at_ ≤ W.clock + 1) } (W.sleep.takeWhile fun y => decide (y.at_ ≤ W.clock + 1)) := by unfold tickW; rw [if_neg (by simp [he])]
    simp -dsimp (disch := omega) only [s8, xr, xo, xv, hw, wCells, d, Bool.not_true]
    refine H.sto 1 (off := 5) (vs := [.int .u64 ((W.clock : Int) + 1)]) rfl (by simp [wCells]) rfl fun w1 H1 => ?_
    simp -dsimp (disch := omega) only [xr, xo, xv]
    refine H1.sto 1 (off := 13) (vs := [.slice none 0 0]) rfl (by simp [wCells, putL]) rfl fun w2 H2 => ?_
    simp -dsimp (disch := omega) only [xr, xo, xv]
    have H2 : S κ (wR wb pv { x with rd := .slice none 0 0 } { W with clock := W.clock + 1, ready := [] } F) w2 := H2
    refine H2.dr fun w3 H3 => ?_
    have hw := H3.cell 1 rfl
    simp -dsimp (disch := omega) only [xr, xo, xv, hw, wCells]
    have hcast : ((W.clock + 1 : Nat) : Int) = (W.clock : Int) + 1 := by omega
    have hb := Wake_T (now := W.clock + 1) (o := 8) (hv := x.hv) (l := x.hl) ((H3.mv 3).mv 2) rfl ok.heap (by rw [ok.heap.length]; omega)
    simp only [hcast] at hb
    simp -dsimp (disch := omega) only [xr, xo, xv, hw, wCells, hcast]
    refine T.call hb ?_
    clear hb
    rintro v w4 ⟨hv', l', hh', H4⟩
    generalize hits : (W.sleep.takeWhile fun y => decide (y.at_ ≤ W.clock + 1)) = its at H4 htick
    generalize hrst : (W.sleep.dropWhile fun y => decide (y.at_ ≤ W.clock + 1)) = rst at hh' htick
    have hsplit : its ++ rst = W.sleep := by rw [← hits, ← hrst]; exact List.takeWhile_append_dropWhile
    have hlen : its.length ≤ W.sleep.length := by rw [← hsplit]; simp
    have H5 : S κ (wL wb pv { x with rd := .slice none 0 0, hv := hv', hl := l' } { W with clock := W.clock + 1, ready := [], sleep := rst } (sle 3 encItem v its :: F)) w4 :=
      rpush (S.slc_nil (esz := 1) (rpush (((((H4.mv 2).mv 2).mv 4).mv 3).mv 4 |>.mv 4)))
    obtain ⟨va, vc, rfl, _⟩ := H5.sle_form (v := v) (xs := its) 10 rfl encItem_len (by decide)
    simp -dsimp (disch := omega) only [xp, xr, xo, xv]
    have hcons : ∀ k, k < its.length → wakeAll { W with clock := W.clock + 1, ready := [], sleep := rst } (its.take (k + 1)) = (wakeAll { W with clock := W.clock + 1, ready := [], sleep := rst } (its.take k)).wake (hd its k).id := by
      intro k hk
      rw [List.take_succ_eq_append_getElem hk]
      unfold wakeAll
      rw [List.foldl_append]
      simp [hd, hk]
    have ok5 : WOk { x with rd := .slice none 0 0, hv := hv', hl := l' } { W with clock := W.clock + 1, ready := [], sleep := rst } := by
      have hsq := ok.seqs
      refine { ok with heap := hh', sleeps := ?_, clock := ?_, seqs := fun y hy => ?_, readys := by simp }
      · show rst.length < 900000
        have : rst.length ≤ W.sleep.length := by rw [← hsplit]; simp
        omega
      · show W.clock + 1 < _; omega
      · exact hsq y (by rw [← hsplit]; exact List.mem_append_right _ hy)
    refine ⟨fun e w => ∃ (k : Nat) (x2 : Lay), e 0 = .pointer (some ⟨wb, 0, none⟩) ∧ e 27 = .slice va its.length vc ∧ e 28 = .int .i64 its.length ∧ e 29 = .int .i64 k ∧ k ≤ its.length ∧ WOk x2 (wakeAll { W with clock := W.clock + 1, ready := [], sleep := rst } (its.take k)) ∧
        S κ (wL wb pv x2 (wakeAll { W with clock := W.clock + 1, ready := [], sleep := rst } (its.take k)) (sle 3 encItem (.slice va its.length vc) its :: F)) w, fun e _ => its.length - inat (e 29),
      ⟨0, _, by simp -dsimp (disch := omega) only [xr], by simp -dsimp (disch := omega) only [xr], by simp -dsimp (disch := omega) only [xr], by simp -dsimp (disch := omega) only [xr]; rfl, by omega, ok5, H5⟩, ?_⟩
    rintro e w5 ⟨k, x2, e0, e27, e28, e29, hk, ok6, H6⟩
    obtain ⟨hgs, hrdy⟩ := wakeAll_len (its.take k) { W with clock := W.clock + 1, ready := [], sleep := rst }
    by_cases hkl : k < its.length
    · have d1 : decide ((k : Int) < its.length) = true := decide_eq_true (by omega)
      obtain ⟨va', vc', hv1, hrow⟩ := H6.sle_form (v := .slice va its.length vc) (xs := its) 10 rfl encItem_len (by decide)
      cases hv1
      obtain ⟨vb, rfl, hr, _⟩ := hrow k _ (hd_some hkl)
      simp -dsimp (disch := omega) only [xp, xr, xo, xv, e0, e27, e28, e29, d1, hr]
      refine H6.al fun b4 w6 H7 => ?_
      simp -dsimp (disch := omega) only [xp, xr, xo, xv, encItem_len]
      refine H7.sto 0 (off := 0) (vs := encItem (hd its k)) rfl (by simp [encItem]) rfl fun w7 H8 => ?_
      have hc4 := H8.cell 0 rfl
      simp -dsimp (disch := omega) only [xp, xr, xo, xv, encItem, hc4, e0]
      have hmem : hd its k ∈ W.sleep := by
        rw [← hsplit]; exact List.mem_append_left _ (List.mem_of_getElem? (hd_some hkl))
      have hidk := hid _ hmem
      obtain ⟨Gk, hGk⟩ : ∃ G', (wakeAll { W with clock := W.clock + 1, ready := [], sleep := rst } (its.take k)).gs[(hd its k).id]? = some G' := ⟨_, List.getElem?_eq_getElem (by rw [hgs]; exact hidk)⟩
      obtain ⟨⟨gpk, svk⟩, hlk⟩ : ∃ a, x2.gl[(hd its k).id]? = some a := ⟨_, List.getElem?_eq_getElem (by rw [ok6.gl, hgs]; exact hidk)⟩
      have H9 : S κ (wL wb pv x2 (wakeAll { W with clock := W.clock + 1, ready := [], sleep := rst } (its.take k)) (sle 3 encItem (.slice (some ⟨vb, 0, none⟩) its.length vc) its :: F)) w7 := H8.drop
      have hready : (wakeAll { W with clock := W.clock + 1, ready := [], sleep := rst } (its.take k)).ready.length = k := by rw [hrdy]; simp; omega
      have hb := wake_T H9 hGk hlk ok6.gl ok6.gmax (by omega)
      refine T.call hb ?_
      clear hb
      rintro v w8 ⟨rfl, rd, HA⟩
      simp -dsimp (disch := omega) only [xp, xr, xo, xv, e29]
      refine ⟨⟨k + 1, { x2 with rd := rd }, e0, e27, e28, by simp, by omega, ?_, ?_⟩, ?_⟩
      · rw [hcons k hkl]; exact WOk.wake ok6 (by omega)
      · rw [hcons k hkl]; exact HA
      · simp only [inat_int]; omega
    · have d1 : decide ((k : Int) < its.length) = false := decide_eq_false (by omega)
      have hkk : k = its.length := by omega
      subst hkk
      rw [List.take_length] at H6 ok6
      have hw := H6.cell 1 rfl
      simp -dsimp (disch := omega) only [xp, xr, xo, xv, e0, e27, e28, e29, d1, hw, wCells]
      rw [htick]
      exact ⟨x2, ok6, (H6.mv 10).drop⟩
  · have d : decide (W.end_ = 0) = false := decide_eq_false he
    have htick : tickW W = { W with ready := [] } := by unfold tickW; rw [if_pos he]
    simp -dsimp (disch := omega) only [s8, xr, xo, xv, hw, wCells, d, Bool.not_false, htick]
    exact ⟨x, { ok with readys := by simp }, rpush (S.slc_nil (esz := 1) H)⟩

theorem Status_T {g gp : Nat} {sv : Value} {G : Gor} (H : S κ (wR wb pv x W F) w) (hg : W.gs[g]? = some G) (hl : x.gl[g]? = some (gp, sv)) (hlen : x.gl.length = W.gs.length) (hm : W.gs.length ≤ 100) :
    T Try.prog 13 [.pointer (some ⟨wb, 0, none⟩), .int .i64 g] w fun v w' => v = .int .i64 G.status ∧ S κ (wR wb pv x W F) w' := by
  have hgl := (List.getElem?_eq_some_iff.1 hg).1
  obtain ⟨ws, hws, H0⟩ := S.gopenR (R := (wR wb pv x W F).tail) H hg hl
  obtain ⟨a, gc, hgv, hrow⟩ := S.sle_at1 (v := x.gv) (xs := x.gl) H0 4 rfl encG_len
  obtain ⟨gb, rfl, hgc⟩ := hrow g _ hl
  have hglx : g < x.gl.length := by omega
  have hw := H0.cell 3 rfl
  have hp := H0.cell 0 rfl
  have d1 : decide ((g : Int) < 0) = false := decide_eq_false (by omega)
  have d2 : decide ((x.gl.length : Int) ≤ g) = false := decide_eq_false (by omega)
  refine T.of Try.func13 sl13 rfl ?_
  simp -dsimp (disch := omega) only [s13, xr, xo, xv, hw, hp, wCells, hgv, hgc, encG, d1, d2]
  exact ⟨trivial, H⟩
theorem End_T (H : S κ (wR wb pv x W F) w) : T Try.prog 12 [.pointer (some ⟨wb, 0, none⟩)] w fun v w' => v = .tuple ([.int .i64 W.end_, .int .i64 W.code] : List Value).toArray ∧ S κ (wR wb pv x W F) w' := by
  refine T.of Try.func12 sl12 rfl ?_
  simp -dsimp (disch := omega) only [s12, xr, xo, xv]
  refine H.dr fun w1 H1 => ?_
  have hw := H1.cell 1 rfl
  simp -dsimp (disch := omega) only [xr, xo, xv, hw, wCells]
  exact ⟨trivial, H1⟩
theorem Out_T (H : S κ (wR wb pv x W F) w) (ho : W.out.length ≤ 1000) : T Try.prog 9 [.pointer (some ⟨wb, 0, none⟩)] w fun v w' => S κ (sle 1 encInt v W.out :: wR wb pv x W F) w' := by
  refine T.of Try.func9 sl9 rfl ?_
  simp -dsimp (disch := omega) only [s9, xr, xo, xv]
  refine H.bs fun b1 w1 H1 => ?_
  have H1 : S κ (sle 1 encInt (.slice (some ⟨b1, 0, none⟩) 0 0) [] :: wR wb pv x W F) w1 := H1.slc_mk rfl
  have hw := H1.cell 2 rfl
  simp -dsimp (disch := omega) only [xr, xo, xv, hw, wCells]
  refine H1.sle_apps 0 5 rfl rfl encInt_len (fun _ => rfl) (by rfl) (by decide) (by simp; omega) fun v2 w2 H2 => ?_
  simp -dsimp (disch := omega) only [xr, xo, xv]
  exact H2
theorem Sleepers_T (H : S κ (wR wb pv x W F) w) (ok : WOk x W) : T Try.prog 10 [.pointer (some ⟨wb, 0, none⟩)] w fun v w' => S κ (sle 3 encItem v W.sleep :: wR wb pv x W F) w' := by
  have hsl := ok.sleeps
  refine T.of Try.func10 sl10 rfl ?_
  simp -dsimp (disch := omega) only [s10, xr, xo, xv]
  have hb := List_T (o := 8) (hv := x.hv) (l := x.hl) ((H.mv 3).mv 2) rfl ok.heap (by rw [ok.heap.length]; omega)
  refine T.call hb ?_
  clear hb
  intro v w1 H1
  simp -dsimp (disch := omega) only [xr, xo, xv]
  exact ((((H1.mv 1).mv 4).mv 2).mv 4).mv 4

theorem addStar (H : S κ F w) : S κ (star [] :: F) w := H.emps.head fun _ _ => trivial
/-- A new world, of a program without channels and locks. -/
def newW : Wd := ⟨[⟨1, [begin1 0 0], noIns⟩], 0, [], [], [], 0, [], 0, 0, []⟩
theorem New0_T {p : Prog} (H : S κ (progA pv p :: F) w) (hc : p.chans = []) (hl : pv.locks = 0) :
    T Try.prog 5 [.agg ([pv.fv, pv.cv, .int .i64 pv.locks, pv.kv] : List Value).toArray] w fun v w' => ∃ wb x, v = .pointer (some ⟨wb, 0, none⟩) ∧ WOk x newW ∧ S κ (wR wb pv x newW (progA pv p :: F)) w' := by
  refine T.of Try.func5 sl5 rfl ?_
  simp -dsimp (disch := omega) only [s5, xr, xo, xv]
  refine H.al fun b1 w1 H1 => ?_
  simp -dsimp (disch := omega) only [xr, xo, xv]
  refine H1.dr fun w2 H2 => ?_
  have hr : rowOf w2 ⟨b1, 0, none⟩ 4 = some [pv.fv, pv.cv, .int .i64 pv.locks, pv.kv] := H2.row 0 rfl 0 4 (Nat.le_refl _)
  simp -dsimp (disch := omega) only [xr, xo, xv, hr]
  have hb := Begin_T (fn := 0) (arg := 0) H2
  refine T.call hb ?_
  clear hb
  rintro v w3 ⟨sb, rfl, H3⟩
  have hr3 : rowOf w3 ⟨b1, 0, none⟩ 4 = some [pv.fv, pv.cv, .int .i64 pv.locks, pv.kv] := H3.row 1 rfl 0 4 (Nat.le_refl _)
  simp -dsimp (disch := omega) only [xp, xr, xo, xv, hr, hr3]
  refine H3.al fun gp w4 H4 => ?_
  have hr4 : rowOf w4 ⟨b1, 0, none⟩ 4 = some [pv.fv, pv.cv, .int .i64 pv.locks, pv.kv] := H4.row 2 rfl 0 4 (Nat.le_refl _)
  simp -dsimp (disch := omega) only [xp, xr, xo, xv, hr, hr3, hr4]
  refine H4.bs fun gb w5 H5 => ?_
  have hr5 : rowOf w5 ⟨b1, 0, none⟩ 4 = some [pv.fv, pv.cv, .int .i64 pv.locks, pv.kv] := H5.row 3 rfl 0 4 (Nat.le_refl _)
  simp -dsimp (disch := omega) only [xp, xr, xo, xv, hr, hr4, hr5]
  refine H5.al fun wb w6 H6 => ?_
  simp -dsimp (disch := omega) only [xp, xr, xo, xv, hr5]
  obtain ⟨⟨ca, cc, hcv⟩, _, _⟩ := H6.progChans 5 rfl
  rw [hc] at hcv
  have hb1 := H6.cell 4 rfl
  simp -dsimp (disch := omega) only [xp, xr, xo, xv, hb1, hcv]
  refine ⟨fun e w => e 1 = .pointer (some ⟨b1, 0, none⟩) ∧ e 3 = .pointer (some ⟨wb, 0, none⟩) ∧ e 15 = .int .i64 0 ∧ e 16 = .int .i64 0 ∧ w = w6, fun _ _ => 0, ⟨by simp -dsimp (disch := omega) only [xr], by simp -dsimp (disch := omega) only [xr], by simp -dsimp (disch := omega) only [xr]; rfl, by simp -dsimp (disch := omega) only [xr], rfl⟩, ?_⟩
  rintro e w7 ⟨e1, e3, e15, e16, rfl⟩
  have d1 : decide ((0 : Int) < 0) = false := rfl
  have d2 : decide ((0 : Int) < pv.locks) = false := decide_eq_false (by omega)
  have hb1 := H6.cell 4 rfl
  simp -dsimp (disch := omega) only [xp, xr, xo, xv, e1, e3, e15, e16, d1, hb1]
  refine ⟨fun e w => e 3 = .pointer (some ⟨wb, 0, none⟩) ∧ e 33 = .int .i64 pv.locks ∧ e 34 = .int .i64 0 ∧ w = w7, fun _ _ => 0, ⟨by simp -dsimp (disch := omega) only [xr, e3], by simp -dsimp (disch := omega) only [xr], by simp -dsimp (disch := omega) only [xr], rfl⟩, ?_⟩
  rintro e w8 ⟨e3, e33, e34, rfl⟩
  simp -dsimp (disch := omega) only [xp, xr, xo, xv, e3, e33, e34, d2]
  refine ⟨wb, ⟨.slice (some ⟨gb, 0, none⟩) 1 1, .slice none 0 0, .slice none 0 0, .slice none 0 0, .slice none 0 0, .slice none 0 0, .nilFunc, [(gp, .slice (some ⟨sb, 0, none⟩) 1 1)], [], [], []⟩, rfl, ?_, ?_⟩
  · exact ⟨HeapOf.nil, rfl, rfl, rfl, by decide, by decide, by decide, by decide, fun y hy => absurd hy (by simp [newW]), by decide, by decide, fun G hG => by simp [newW] at hG; subst hG; exact ⟨by simp, by simp⟩⟩
  · have H7 : S κ (sle 1 encG (.slice (some ⟨gb, 0, none⟩) 1 1) [(gp, Value.slice (some ⟨sb, 0, none⟩) 1 1)] :: _) w8 := S.slc_mk (esz := 1) ((H6.del 4).mv 1) rfl
    have H8 := ((addStar ((H7.mv 3).mv 3)).mv 2).mv 2
    have H9 := S.gadd (ws := noIns) (wt := noIns) (gl := []) (gs := []) (fs := [begin1 0 0]) (st := 1) (nb := gp) H8 rfl (fun h => by omega)
    have HA := S.slc_nil (esz := 3) (S.slc_nil (esz := 1) (S.slc_nil (esz := 1) (S.slc_nil (esz := 1) (addStar (addStar H9)))))
    have HB := ((HA.mv 7).mv 8).mv 8
    rw [hl] at HB
    have e : wCells pv ⟨.slice (some ⟨gb, 0, none⟩) 1 1, .slice none 0 0, .slice none 0 0, .slice none 0 0, .slice none 0 0, .slice none 0 0, .nilFunc, [(gp, .slice (some ⟨sb, 0, none⟩) 1 1)], [], [], []⟩ newW = [pv.fv, pv.cv, .int .i64 0, pv.kv, .slice (some ⟨gb, 0, none⟩) 1 1, .int .u64 0, .slice none 0 0, .slice none 0 0, .slice none 0 0, .int .u64 0, .slice none 0 0, .int .i64 0, .int .i64 0, .slice none 0 0, .nilFunc] := by
      simp [wCells, newW, hl]
    unfold wR
    rw [e]
    exact HB
end Go.Proofs.Ytojbbajmldbffaa
