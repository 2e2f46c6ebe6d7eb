/- The world's functions: contracts. -/
import Derived.Test.YtojbbajmldbffaaSlimWorldW
import Derived.Test.YtojbbajmldbffaaFrameW
import Derived.Test.YtojbbajmldbffaaHeapW
import Derived.Test.YtojbbajmldbffaaWorldM
set_option linter.unusedSimpArgs false
set_option linter.unusedVariables false
set_option maxRecDepth 20000
set_option maxHeartbeats 2000000
namespace Go.Proofs.Ytojbbajmldbffaa
open Go.Shu
variable {κ w : World} {F : List Asn} {wb : Nat} {pv : PV} {x : Lay} {W : Wd}

theorem wake_T {g gp : Nat} {sv : Value} {G : Gor} (H : S κ (wL wb pv x W F) w) (hg : W.gs[g]? = some G) (hl : x.gl[g]? = some (gp, sv)) (hlen : x.gl.length = W.gs.length) (hm : W.gs.length ≤ 100) (hr : W.ready.length < 1000000) :
    T Try.prog 19 [.pointer (some ⟨wb, 0, none⟩), .int .i64 g] w fun v w' => v = .tuple #[] ∧ ∃ rd, S κ (wL wb pv { x with rd := rd } (W.wake g) F) w' := by
  obtain ⟨ws, _, H0⟩ := H.gopen hg hl
  have hgl := (List.getElem?_eq_some_iff.1 hg).1
  obtain ⟨a, cap, hgv, hrow⟩ := H0.sle_at1 4 rfl encG_len
  obtain ⟨b, rfl, hc⟩ := hrow g _ hl
  have hw := H0.cell 3 rfl
  refine T.of Try.func19 sl19 rfl ?_
  simp -dsimp (disch := omega) only [s19, xr, xo, xv, hw, wCells, hgv, hc, encG]
  refine H0.sto 0 (off := 0) (vs := [.int .i64 1]) rfl (by simp) rfl fun w1 H1 => ?_
  have hw := H1.cell 3 rfl
  simp -dsimp (disch := omega) only [xr, xo, xv, hw, wCells]
  refine H1.bs fun tb w2 H2 => ?_
  simp -dsimp (disch := omega) only [xr, xo, xv]
  refine H2.sle_app 12 (y := g) rfl encNat_len (H2.row 0 rfl 0 1 (by simp)) rfl (by rfl) (by decide) (by omega) fun rd w3 H3 => ?_
  have hv := H3.slc_one 12 rfl
  have hw := H3.cell 4 rfl
  simp -dsimp (disch := omega) only [xr, xo, xv, hv.1]
  refine H3.sto 4 (vs := [rd]) rfl (by simp [wCells]) (by simp [hv.2]) fun w4 H4 => ?_
  simp -dsimp (disch := omega) only [xr, xo, xv]
  refine ⟨trivial, rd, ?_⟩
  have H5 : S κ (wO g gp 1 sv ws G.s wb pv { x with rd := rd } { W with ready := W.ready ++ [g] } F) w4 := H4.drop
  have H6 := H5.gclose' (wt := noIns) hgl hlen hl (fun h => by omega)
  have e2 : W.wake g = { W with gs := W.gs.set g ⟨1, G.s, noIns⟩, ready := W.ready ++ [g] } := by unfold Wd.wake; rw [modG_eq hg]
  rw [e2, ← hgv]
  exact H6

theorem yield_T {a b c d : Value} (H : S κ F w) : T Try.prog 39 [a, b, c, d] w fun v w' => v = .tuple #[] ∧ S κ F w' := by
  refine T.of Try.func39 sl39 rfl ?_
  simp -dsimp (disch := omega) only [s39, xr, xo, xv]
  refine H.al fun b1 w1 H1 => ?_
  simp -dsimp (disch := omega) only [xr]
  exact ⟨trivial, H1.drop⟩

theorem emit_T {g gp sb cap : Nat} {G : Gor} {f : Fr} {i : Ins} (H : S κ (wL wb pv x W F) w) (ok : WOk x W) (h : Runs x W g gp sb cap G f) (ha : okReg i.a) :
    TP Try.prog 46 [.pointer (some ⟨wb, 0, none⟩), .int .i64 g, .pointer (some ⟨sb, (G.s.length - 1) * 11, none⟩), .agg (encIns i).toArray] w (opOk κ wb pv F (emitW W f i)) (opTr κ wb pv F 80 (emitW W f i)) := by
  obtain ⟨ws, hws, H0⟩ := H.gopen h.hg h.hl
  have hgl := (List.getElem?_eq_some_iff.1 h.hg).1
  have houts := ok.outs
  refine TP.of Try.func46 sl46 rfl ?_
  simp -dsimp (disch := omega) only [s46, xr, xo]
  refine H0.al fun b1 w1 H1 => ?_
  obtain ⟨oa, oc, hov, _⟩ := H1.sle_form 7 rfl encInt_len (by decide)
  have hw := H1.cell 4 rfl
  by_cases c : 1000 ≤ W.out.length
  · have d : decide ((1000 : Int) ≤ W.out.length) = true := decide_eq_true (by omega)
    simp -dsimp (disch := omega) only [xr, xo, xv, xk, hw, wCells, hov, d]
    exact opTr_mk (H1.drop.gback h.hg h.hl ok.gl hws) (by unfold emitW; rw [if_pos c]) ok
  · have d : decide ((1000 : Int) ≤ W.out.length) = false := decide_eq_false (by omega)
    simp -dsimp (disch := omega) only [xr, xo, xv, xk, hw, wCells, hov, d]
    refine H1.dr fun w2 H2 => ?_
    obtain ⟨_, _, hreg, _⟩ := H2.fr 2 rfl h.hf
    have r1 := hreg i.a ha
    obtain ⟨ha1, ha2⟩ := ha
    have hx := H2.cell 0 rfl
    have hw := H2.cell 4 rfl
    simp -dsimp (disch := omega) only [xr, xo, xv, xk, hw, wCells, hov, hx, encIns, r1]
    refine H2.bs fun b2 w3 H3 => ?_
    have hw3 := H3.cell 5 rfl
    simp -dsimp (disch := omega) only [xp, xr, xo, xv, hw, hw3, wCells]
    rw [← hov]
    refine H3.sle_app 8 (y := f.get i.a) rfl encInt_len (H3.row 0 rfl 0 1 (by simp)) rfl (by rfl) (by decide) (by omega) fun ov w4 H4 => ?_
    have hv := H4.slc_one 8 rfl
    simp -dsimp (disch := omega) only [xp, xr, xo, xv, hv.1]
    refine H4.sto 5 (vs := [ov]) rfl (by simp [wCells]) (by simp [hv.2]) fun w5 H5 => ?_
    simp -dsimp (disch := omega) only [xp, xr, xo, xv, hv.1]
    have H6 : S κ (wO g gp G.status (.slice (some ⟨sb, 0, none⟩) G.s.length cap) ws G.s wb pv { x with ov := ov } { W with out := W.out ++ [f.get i.a] } F) w5 := H5.drop.drop
    exact opOk_mk (H6.gback h.hg h.hl ok.gl hws) (by unfold emitW; rw [if_neg c]) { ok with outs := by simp; omega }

theorem sleep_T {g gp sb cap : Nat} {G : Gor} {f : Fr} {i : Ins} (H : S κ (wL wb pv x W F) w) (ok : WOk x W) (h : Runs x W g gp sb cap G f) (ha : okReg i.a) (hr : -9223372036854775808 ≤ f.get i.a ∧ f.get i.a ≤ 9223372036854775807) (hcl : W.clock < 900000000000000000) (hsq : W.seq < 900000000000000000) (hsl : W.sleep.length < 800000) :
    TP Try.prog 43 [.pointer (some ⟨wb, 0, none⟩), .int .i64 g, .pointer (some ⟨sb, (G.s.length - 1) * 11, none⟩), .agg (encIns i).toArray] w (opOk κ wb pv F (sleepW W g f i)) (fun _ _ => False) := by
  obtain ⟨ws, hws, H0⟩ := H.gopen h.hg h.hl
  have hgl := (List.getElem?_eq_some_iff.1 h.hg).1
  have hglx : g < x.gl.length := by rw [ok.gl]; exact hgl
  refine TP.of Try.func43 sl43 rfl ?_
  simp -dsimp (disch := omega) only [s43, xr, xo]
  refine H0.al fun b1 w1 H1 => ?_
  simp -dsimp (disch := omega) only [xr, xo]
  refine H1.dr fun w2 H2 => ?_
  obtain ⟨_, _, hreg, _⟩ := H2.fr 2 rfl h.hf
  have r1 := hreg i.a ha
  obtain ⟨ha1, ha2⟩ := ha
  have hx := H2.cell 0 rfl
  have hm : (if (1048576 : Int) < f.get i.a then (1048576 : Int) else f.get i.a) ≤ 1048576 := by split <;> omega
  simp -dsimp (disch := omega) only [xr, xo, xv, hx, encIns, r1]
  have hdef : sleepW W g f i = (if 0 < (if (1048576 : Int) < f.get i.a then (1048576 : Int) else f.get i.a) then .ok (Wd.status { W with sleep := Shu.ins (⟨W.clock + (if (1048576 : Int) < f.get i.a then (1048576 : Int) else f.get i.a).toNat, W.seq, g⟩ : HItem) W.sleep, seq := W.seq + 1 } g 3 noIns) else .ok W) := rfl
  generalize (if (1048576 : Int) < f.get i.a then (1048576 : Int) else f.get i.a) = m at hm hdef
  by_cases c : 0 < m
  · have d : decide (0 < m) = true := decide_eq_true c
    rw [if_pos c] at hdef
    obtain ⟨k, rfl⟩ : ∃ k : Nat, m = k := ⟨m.toNat, by omega⟩
    simp -dsimp (disch := omega) only [xr, xo, xv, d]
    refine H2.dr fun w3 H3 => ?_
    have hw := H3.cell 4 rfl
    simp -dsimp (disch := omega) only [xr, xo, xv, hw, wCells]
    have H3 : S κ (pt wb (wCells pv x W) :: sle 3 encItem x.hv x.hl :: pt b1 (encIns i) :: pt gp (.int .i64 G.status :: .slice (some ⟨sb, 0, none⟩) G.s.length cap :: encIns ws) :: sle 11 encFr (.slice (some ⟨sb, 0, none⟩) G.s.length cap) G.s :: star ((List.zipWith gA x.gl W.gs).eraseIdx g) :: sle 1 encG x.gv x.gl :: sle 1 encInt x.ov W.out :: sle 1 encPtr x.cv x.cl :: sle 1 encPtr x.lv x.ll :: star (List.zipWith chA x.cl W.chans) :: star (List.zipWith lkA x.ll W.locks) :: sle 1 encNat x.rd W.ready :: F) w3 := (H3.mv 6).mv 5
    have hb := Push_T (at_ := W.clock + k) (id := g) H3 (o := 8) rfl rfl ok.heap ok.seqs (by rw [ok.heap.length]; omega) (by omega)
    have e1 : ((W.clock + k : Nat) : Int) = (W.clock : Int) + k := by omega
    rw [e1] at hb
    refine T.call hb ?_
    clear hb
    rintro v w4 ⟨rfl, hv', l', hh', H4⟩
    have H5 : S κ (wO g gp G.status (.slice (some ⟨sb, 0, none⟩) G.s.length cap) ws G.s wb pv { x with hv := hv', hl := l' } { W with sleep := Shu.ins ⟨W.clock + k, W.seq, g⟩ W.sleep, seq := W.seq + 1 } F) w4 := (((((((H4.del 2).mv 1).mv 5).mv 2).mv 5).mv 5).mv 5)
    obtain ⟨a, gc, hgv, hrow⟩ := H5.sle_at1 (v := x.gv) (xs := x.gl) 4 rfl encG_len
    obtain ⟨gb, rfl, hc⟩ := hrow g _ h.hl
    have hw := H5.cell 3 rfl
    simp -dsimp (disch := omega) only [xp, xr, xo, xv, hw, wCells, hgv, hc, encG]
    refine H5.sto 0 (off := 0) (vs := [.int .i64 3]) rfl (by simp) rfl fun w6 H6 => ?_
    simp -dsimp (disch := omega) only [xp, xr, xo, xv]
    have H7 : S κ (wO g gp 3 (.slice (some ⟨sb, 0, none⟩) G.s.length cap) ws G.s wb pv { x with hv := hv', hl := l' } { W with sleep := Shu.ins ⟨W.clock + k, W.seq, g⟩ W.sleep, seq := W.seq + 1 } F) w6 := H6
    have H8 := H7.gclose' (wt := noIns) hgl ok.gl h.hl (fun h => by omega)
    have hsl' : (Shu.ins (⟨W.clock + k, W.seq, g⟩ : HItem) W.sleep).length = W.sleep.length + 1 := (ins_perm _ _).length_eq
    refine opOk_mk H8 ?_ ?_
    · rw [hdef]
      unfold Wd.status
      rw [modG_eq (W := { W with sleep := Shu.ins (⟨W.clock + (k : Int).toNat, W.seq, g⟩ : HItem) W.sleep, seq := W.seq + 1 }) h.hg]
      rfl
    · have hs := ok.stacks
      have hsq := ok.seqs
      refine { ok with heap := hh', gl := by simp [ok.gl], gmax := by simp [ok.gmax], sleeps := by show _ < _; rw [hsl']; omega, seq := by show W.seq + 1 < _; omega, seqs := fun y hy => ?_, stacks := fun G' hG' => ?_ }
      · rcases List.mem_cons.1 ((ins_perm _ _).subset hy) with rfl | hy
        · exact Nat.lt_succ_self _
        · exact Nat.lt_succ_of_lt (hsq y hy)
      · rcases List.mem_or_eq_of_mem_set hG' with hG' | rfl
        · exact hs G' hG'
        · exact hs G (List.mem_of_getElem? h.hg)
  · have d : decide (0 < m) = false := decide_eq_false c
    rw [if_neg c] at hdef
    simp -dsimp (disch := omega) only [xr, xo, xv, d]
    exact opOk_mk (H2.drop.gback h.hg h.hl ok.gl hws) hdef ok

theorem spawn_T {g gp sb cap : Nat} {G : Gor} {f : Fr} {i : Ins} (H : S κ (wL wb pv x W F) w) (ok : WOk x W) (h : Runs x W g gp sb cap G f) (hb : okReg i.b) (hc : okReg i.c) (hrd : W.ready.length < 800000) :
    TP Try.prog 38 [.pointer (some ⟨wb, 0, none⟩), .int .i64 g, .pointer (some ⟨sb, (G.s.length - 1) * 11, none⟩), .agg (encIns i).toArray] w (opOk κ wb pv F (spawnW W g f i)) (opTr κ wb pv F 80 (spawnW W g f i)) := by
  obtain ⟨ws, hws, H0⟩ := H.gopen h.hg h.hl
  have hgl := (List.getElem?_eq_some_iff.1 h.hg).1
  have hlx := ok.gl
  have hgm := ok.gmax
  refine TP.of Try.func38 sl38 rfl ?_
  simp -dsimp (disch := omega) only [s38, xr, xo]
  refine H0.al fun b1 w1 H1 => ?_
  obtain ⟨a, gc, hgv, hrow⟩ := H1.sle_at1 (v := x.gv) (xs := x.gl) 5 rfl encG_len
  have hw := H1.cell 4 rfl
  by_cases c : 100 ≤ W.gs.length
  · have d : decide ((100 : Int) ≤ x.gl.length) = true := decide_eq_true (by omega)
    simp -dsimp (disch := omega) only [xr, xo, xv, xk, hw, wCells, hgv, d]
    exact opTr_mk (H1.drop.gback h.hg h.hl ok.gl hws) (by unfold spawnW; rw [if_pos c]) ok
  · have d : decide ((100 : Int) ≤ x.gl.length) = false := decide_eq_false (by omega)
    simp -dsimp (disch := omega) only [xr, xo, xv, xk, hw, wCells, hgv, d]
    refine H1.dr fun w2 H2 => ?_
    obtain ⟨_, _, hreg, _⟩ := H2.fr 2 rfl h.hf
    have r1 := hreg i.b hb
    obtain ⟨hb1, hb2⟩ := hb
    have hx := H2.cell 0 rfl
    have hw2 := H2.cell 4 rfl
    have H2 : S κ (pt b1 (encIns i) :: wL wb pv x W F) w2 := ((S.opush H2).gback h.hg h.hl ok.gl hws).wpop
    simp -dsimp (disch := omega) only [xr, xo, xv, xk, hw2, wCells, hgv, hx, encIns, r1]
    have hcall := Begin_T (fn := i.a) (arg := f.get i.b) H2
    refine T.call hcall ?_
    clear hcall
    rintro v w3 ⟨nsb, rfl, H3⟩
    have hw3 := H3.cell 3 rfl
    simp -dsimp (disch := omega) only [xp, xr, xo, xv, xk, hw2, hw3, wCells]
    refine H3.al fun nb w4 H4 => ?_
    have hw4 := H4.cell 4 rfl
    simp -dsimp (disch := omega) only [xp, xr, xo, xv, xk, hw2, hw3, hw4, wCells]
    refine H4.bs fun tb w5 H5 => ?_
    have hw5 := H5.cell 5 rfl
    simp -dsimp (disch := omega) only [xp, xr, xo, xv, xk, hw2, hw4, hw5, wCells]
    have hn5 : ∀ t : Nat × Value, (sle 1 encG x.gv x.gl) = sle 1 encG (.slice a x.gl.length gc) x.gl := fun _ => by rw [hgv]
    refine S.sle_app (v := .slice a x.gl.length gc) H5 6 (y := (nb, .slice (some ⟨nsb, 0, none⟩) 1 1)) (congrArg some (hn5 (0, .nilFunc))) encG_len (H5.row 0 rfl 0 1 (by simp)) rfl (by rfl) (by decide) (by omega) fun gv w6 H6 => ?_
    have hv := H6.slc_one 6 rfl
    simp -dsimp (disch := omega) only [xp, xr, xo, xv, hv.1]
    refine H6.sto 5 (vs := [gv]) rfl (by simp [wCells]) (by simp [hv.2]) fun w7 H7 => ?_
    simp -dsimp (disch := omega) only [xp, xr, xo, xv]
    have H8 : S κ (pt nb (.int .i64 0 :: .slice (some ⟨nsb, 0, none⟩) 1 1 :: encIns noIns) :: sle 11 encFr (.slice (some ⟨nsb, 0, none⟩) 1 1) [begin1 i.a (f.get i.b)] :: star (List.zipWith gA x.gl W.gs) :: pt b1 (encIns i) ::
        (wL wb pv { x with gv := gv, gl := x.gl ++ [(nb, .slice (some ⟨nsb, 0, none⟩) 1 1)] } { W with gs := W.gs ++ [⟨0, [begin1 i.a (f.get i.b)], noIns⟩] } F).tail) w7 := ((H7.drop.mv 3).mv 2).mv 2
    have H9 : S κ (wL wb pv { x with gv := gv, gl := x.gl ++ [(nb, .slice (some ⟨nsb, 0, none⟩) 1 1)] } { W with gs := W.gs ++ [⟨0, [begin1 i.a (f.get i.b)], noIns⟩] } (pt b1 (encIns i) :: F)) w7 := S.wpush ((H8.gadd (wt := noIns) hlx (fun h => by omega)).mv 1)
    have hgn : (W.gs ++ [⟨0, [begin1 i.a (f.get i.b)], noIns⟩])[W.gs.length]? = some ⟨0, [begin1 i.a (f.get i.b)], noIns⟩ := by simp
    have hln : (x.gl ++ [(nb, .slice (some ⟨nsb, 0, none⟩) 1 1)])[W.gs.length]? = some (nb, .slice (some ⟨nsb, 0, none⟩) 1 1) := by rw [← hlx]; simp
    have hcall := wake_T H9 hgn hln (by simp [hlx]) (by simp; omega) (by show W.ready.length < _; omega)
    rw [show ((W.gs.length : Nat) : Int) = (x.gl.length : Int) from by omega] at hcall
    refine T.call hcall ?_
    clear hcall
    rintro v w8 ⟨rfl, rd, HA⟩
    simp -dsimp (disch := omega) only [xp, xr, xo, xv]
    have hgg : (Wd.wake { W with gs := W.gs ++ [⟨0, [begin1 i.a (f.get i.b)], noIns⟩] } W.gs.length).gs[g]? = some G := by
      show ((W.gs ++ [_]).modify _ _)[g]? = _
      rw [List.getElem?_modify, List.getElem?_append_left hgl, h.hg]; simp [show ¬ W.gs.length = g by omega]
    have hlg : (x.gl ++ [(nb, .slice (some ⟨nsb, 0, none⟩) 1 1)])[g]? = some (gp, .slice (some ⟨sb, 0, none⟩) G.s.length cap) := by
      rw [List.getElem?_append_left (by omega)]; exact h.hl
    obtain ⟨ws2, hws2, HB⟩ := HA.gopen hgg hlg
    refine HB.opop.dr fun w9 HC => ?_
    have hx := HC.cell 0 rfl
    obtain ⟨hc1, hc2⟩ := hc
    simp -dsimp (disch := omega) only [xp, xr, xo, xv, hx, encIns]
    refine HC.frSet 2 rfl h.hf ⟨hc1, hc2⟩ fun w10 HD => ?_
    simp -dsimp (disch := omega) only [xp, xr, xo, xv]
    have HE : S κ (wO g gp G.status (.slice (some ⟨sb, 0, none⟩) G.s.length cap) ws2 (G.s.set (G.s.length - 1) (f.set i.c x.gl.length)) wb pv { x with gv := gv, gl := x.gl ++ [(nb, .slice (some ⟨nsb, 0, none⟩) 1 1)], rd := rd } (Wd.wake { W with gs := W.gs ++ [⟨0, [begin1 i.a (f.get i.b)], noIns⟩] } W.gs.length) F) w10 := HD.drop
    have hlen2 : (x.gl ++ [(nb, Value.slice (some ⟨nsb, 0, none⟩) 1 1)]).length = (Wd.wake { W with gs := W.gs ++ [⟨0, [begin1 i.a (f.get i.b)], noIns⟩] } W.gs.length).gs.length := by simp [Wd.wake, Wd.modG, hlx]
    have HF := HE.gclose' (wt := G.waits) (by rw [← hlen2]; simp; omega) hlen2 hlg hws2
    refine opOk_mk HF ?_ ?_
    · unfold spawnW
      rw [if_neg c]
      unfold Wd.setReg
      rw [modG_eq hgg, modTop_eq h.hf, hlx]
    · refine WOk.setG ?_ (by rw [List.length_set]; exact ok.stack h.hg)
      have hs := ok.stacks
      refine { ok with gl := hlen2, gmax := by rw [← hlen2]; simp; omega, readys := by show (W.ready ++ [_]).length < _; simp; omega, stacks := fun G' hG' => ?_ }
      have hG2 : G' ∈ (W.gs ++ [(⟨0, [begin1 i.a (f.get i.b)], noIns⟩ : Gor)]).set W.gs.length ⟨1, [begin1 i.a (f.get i.b)], noIns⟩ := by
        have e : (Wd.wake { W with gs := W.gs ++ [⟨0, [begin1 i.a (f.get i.b)], noIns⟩] } W.gs.length).gs = (W.gs ++ [(⟨0, [begin1 i.a (f.get i.b)], noIns⟩ : Gor)]).set W.gs.length ⟨1, [begin1 i.a (f.get i.b)], noIns⟩ := by
          unfold Wd.wake; rw [modG_eq (W := { W with gs := W.gs ++ [⟨0, [begin1 i.a (f.get i.b)], noIns⟩] }) hgn]
        rw [← e]; exact hG'
      rcases List.mem_or_eq_of_mem_set hG2 with hG' | rfl
      · rcases List.mem_append.1 hG' with hG' | hG'
        · exact hs G' hG'
        · rw [List.mem_singleton.1 hG']; exact ⟨by simp, by simp⟩
      · exact ⟨by simp, by simp⟩

theorem call_T {g gp sb cap : Nat} {G : Gor} {f : Fr} {i : Ins} (H : S κ (wL wb pv x W F) w) (ok : WOk x W) (h : Runs x W g gp sb cap G f) (hb : okReg i.b) :
    TP Try.prog 36 [.pointer (some ⟨wb, 0, none⟩), .int .i64 g, .pointer (some ⟨sb, (G.s.length - 1) * 11, none⟩), .agg (encIns i).toArray] w (opOk κ wb pv F (callW W g G f i)) (opTr κ wb pv F 80 (callW W g G f i)) := by
  obtain ⟨ws, hws, H0⟩ := H.gopen h.hg h.hl
  have hgl := (List.getElem?_eq_some_iff.1 h.hg).1
  have hlx := ok.gl
  have hst := ok.stack h.hg
  refine TP.of Try.func36 sl36 rfl ?_
  simp -dsimp (disch := omega) only [s36, xr, xo]
  refine H0.al fun b1 w1 H1 => ?_
  simp -dsimp (disch := omega) only [xr, xo]
  refine H1.dr fun w2 H2 => ?_
  obtain ⟨a, gc, hgv, hrow⟩ := H2.sle_at1 (v := x.gv) (xs := x.gl) 5 rfl encG_len
  obtain ⟨gb, rfl, hgc⟩ := hrow g _ h.hl
  obtain ⟨_, _, hreg, _⟩ := H2.fr 2 rfl h.hf
  have r1 := hreg i.b hb
  obtain ⟨hb1, hb2⟩ := hb
  have hx := H2.cell 0 rfl
  have hw := H2.cell 4 rfl
  have hp := H2.cell 1 rfl
  simp -dsimp (disch := omega) only [xr, xo, xv, hx, hw, hp, wCells, hgv, hgc, encG, encIns, r1]
  have H3 : S κ (sle 11 encFr (.slice (some ⟨sb, 0, none⟩) G.s.length cap) G.s :: pt b1 (encIns i) :: pt gp (.int .i64 G.status :: .slice (some ⟨sb, 0, none⟩) G.s.length cap :: encIns ws) :: (wO g gp G.status (.slice (some ⟨sb, 0, none⟩) G.s.length cap) ws G.s wb pv x W F).tail.tail) w2 := H2.mv 2
  by_cases c : G.s.length < 16
  · have hcall := Call_ok (fn := i.a) (arg := f.get i.b) (into := i.c) H3 c
    refine T.call hcall ?_
    clear hcall
    rintro v w3 ⟨sb', cap', hcap, rfl, H4⟩
    simp -dsimp (disch := omega) only [xp, xr, xo, xv, Bool.not_true]
    obtain ⟨a, gc2, hgv2, hrow⟩ := H4.sle_at1 (v := x.gv) (xs := x.gl) 5 rfl encG_len
    rw [hgv] at hgv2
    cases hgv2
    obtain ⟨gb2, hgb2, hgc⟩ := hrow g _ h.hl
    cases hgb2
    have hw := H4.cell 4 rfl
    simp -dsimp (disch := omega) only [xp, xr, xo, xv, hw, wCells, hgv, hgc, encG]
    refine H4.sto 2 (off := 1) (vs := [.slice (some ⟨sb', 0, none⟩) (G.s.length + 1) cap']) rfl (by simp) rfl fun w4 H5 => ?_
    simp -dsimp (disch := omega) only [xp, xr, xo, xv]
    have H6 : S κ (wO g gp G.status (.slice (some ⟨sb', 0, none⟩) (G.s.length + 1) cap') ws (G.s ++ [call1 i.a (f.get i.b) i.c]) wb pv x W F) w4 := (H5.del 1).mv 1
    have H7 := H6.gclose (wt := G.waits) hgl ok.gl h.hl rfl hws
    refine opOk_mk H7 (by unfold callW; rw [if_pos c, modG_eq h.hg]) ?_
    have ok2 := ok.setG (g := g) (G := ⟨G.status, G.s ++ [call1 i.a (f.get i.b) i.c], G.waits⟩) (by simp; omega)
    exact { ok2 with gl := by simp [ok.gl] }
  · have hcall := Call_no (fn := i.a) (arg := f.get i.b) (into := i.c) H3 (by omega) (by omega)
    refine T.call hcall ?_
    clear hcall
    rintro v w3 ⟨rfl, H4⟩
    simp -dsimp (disch := omega) only [xp, xr, xo, xv, xk, Bool.not_false]
    have H5 : S κ (wO g gp G.status (.slice (some ⟨sb, 0, none⟩) G.s.length cap) ws G.s wb pv x W F) w3 := (H4.del 1).mv 1
    exact opTr_mk (H5.gback h.hg h.hl ok.gl hws) (by unfold callW; rw [if_neg c]) ok
theorem stop_T {g gp sb cap : Nat} {G : Gor} {f : Fr} {i : Ins} (H : S κ (wL wb pv x W F) w) (ok : WOk x W) (fp : Value) :
    TP Try.prog 47 [.pointer (some ⟨wb, 0, none⟩), .int .i64 g, fp, .agg (encIns i).toArray] w (opOk κ wb pv F (.trap i.a W)) (opTr κ wb pv F 80 (.trap i.a W)) := by
  refine TP.of Try.func47 sl47 rfl ?_
  simp -dsimp (disch := omega) only [s47, xr, xo]
  refine H.al fun b1 w1 H1 => ?_
  have hx := H1.cell 0 rfl
  simp -dsimp (disch := omega) only [xr, xo, xv, xk, hx, encIns]
  exact opTr_mk H1.drop rfl ok

theorem back_T {g gp sb cap : Nat} {G : Gor} {f : Fr} {i : Ins} (H : S κ (wL wb pv x W F) w) (ok : WOk x W) (h : Runs x W g gp sb cap G f) (ha : okReg i.a) (hi : okReg f.into) :
    TP Try.prog 37 [.pointer (some ⟨wb, 0, none⟩), .int .i64 g, .pointer (some ⟨sb, (G.s.length - 1) * 11, none⟩), .agg (encIns i).toArray] w (opOk κ wb pv F (backW W g G f i)) (fun _ _ => False) := by
  obtain ⟨ws, hws, H0⟩ := H.gopen h.hg h.hl
  have hgl := (List.getElem?_eq_some_iff.1 h.hg).1
  have hlx := ok.gl
  have hst := ok.stack h.hg
  refine TP.of Try.func37 sl37 rfl ?_
  simp -dsimp (disch := omega) only [s37, xr, xo]
  refine H0.al fun b1 w1 H1 => ?_
  simp -dsimp (disch := omega) only [xr, xo]
  refine H1.dr fun w2 H2 => ?_
  obtain ⟨a, gc, hgv, hrow⟩ := H2.sle_at1 (v := x.gv) (xs := x.gl) 5 rfl encG_len
  obtain ⟨gb, rfl, hgc⟩ := hrow g _ h.hl
  obtain ⟨_, _, hreg, _⟩ := H2.fr 2 rfl h.hf
  have r1 := hreg i.a ha
  obtain ⟨ha1, ha2⟩ := ha
  have hx := H2.cell 0 rfl
  have hw := H2.cell 4 rfl
  have hp := H2.cell 1 rfl
  simp -dsimp (disch := omega) only [xr, xo, xv, hx, hw, hp, wCells, hgv, hgc, encG, encIns, r1]
  by_cases c : 2 ≤ G.s.length
  · obtain ⟨m, hm⟩ : ∃ m, G.s.length = m + 1 := ⟨G.s.length - 1, by omega⟩
    obtain ⟨fs, p, hfs⟩ : ∃ fs p, G.s = fs ++ [p, f] := by
      refine ⟨G.s.take (m - 1), G.s[m - 1]'(by omega), ?_⟩
      have h1 : G.s[m]'(by omega) = f := by
        have := h.hf
        rw [hm, Nat.add_sub_cancel] at this
        exact (List.getElem?_eq_some_iff.1 this).2
      apply List.ext_getElem?
      intro j
      by_cases hj : j < m - 1
      · rw [List.getElem?_append_left (by simp; omega), List.getElem?_take, if_pos hj]
      · rw [List.getElem?_append_right (by simp; omega)]
        have hl : (G.s.take (m - 1)).length = m - 1 := by simp; omega
        rw [hl]
        rcases Nat.lt_or_ge j (m + 1) with hj2 | hj2
        · rcases Nat.lt_or_ge j m with hj3 | hj3
          · have : j = m - 1 := by omega
            subst this; simp
          · have : j = m := by omega
            subst this
            rw [show j - (j - 1) = 1 by omega, List.getElem?_eq_getElem (by omega)]; simp [h1]
        · rw [List.getElem?_eq_none (by omega), List.getElem?_eq_none (by simp; omega)]
    have hlen : m = fs.length + 1 := by have := congrArg List.length hfs; simp at this; omega
    have H3 : S κ (sle 11 encFr (.slice (some ⟨sb, 0, none⟩) (m + 1) cap) (fs ++ [p, f]) :: pt b1 (encIns i) :: pt gp (.int .i64 G.status :: .slice (some ⟨sb, 0, none⟩) G.s.length cap :: encIns ws) :: (wO g gp G.status (.slice (some ⟨sb, 0, none⟩) G.s.length cap) ws G.s wb pv x W F).tail.tail) w2 := by
      have := H2.mv 2
      rw [← hm, ← hfs]
      exact this
    have hcall := Return_ok (v := f.get i.a) H3 hlen (by omega) hi
    rw [← hm] at hcall
    refine T.call hcall ?_
    clear hcall
    rintro v w3 ⟨sb', cap', hcap, rfl, H4⟩
    simp -dsimp (disch := omega) only [xp, xr, xo, xv]
    obtain ⟨a, gc2, hgv2, hrow⟩ := H4.sle_at1 (v := x.gv) (xs := x.gl) 5 rfl encG_len
    rw [hgv] at hgv2
    cases hgv2
    obtain ⟨gb2, hgb2, hgc⟩ := hrow g _ h.hl
    cases hgb2
    have hw := H4.cell 4 rfl
    simp -dsimp (disch := omega) only [xp, xr, xo, xv, hw, wCells, hgv, hgc, encG]
    refine H4.sto 2 (off := 1) (vs := [.slice (some ⟨sb', 0, none⟩) m cap']) rfl (by simp) rfl fun w4 H5 => ?_
    simp -dsimp (disch := omega) only [xp, xr, xo, xv]
    have H6 : S κ (wO g gp G.status (.slice (some ⟨sb', 0, none⟩) m cap') ws (fs ++ [p.set f.into (f.get i.a)]) wb pv x W F) w4 := (H5.del 1).mv 1
    have H7 := H6.gclose (wt := G.waits) hgl ok.gl h.hl rfl hws
    refine opOk_mk H7 ?_ ?_
    · unfold backW
      rw [if_pos c, modG_eq h.hg]
      have e : G.s.dropLast.modify (G.s.length - 2) (fun h => h.set f.into (f.get i.a)) = fs ++ [p.set f.into (f.get i.a)] := by
        have e1 : G.s.dropLast = fs ++ [p] := by rw [hfs, show fs ++ [p, f] = (fs ++ [p]) ++ [f] by simp, List.dropLast_concat]
        rw [e1, show G.s.length - 2 = fs.length by omega, modify_set (a := p) (by simp)]
        simp
      rw [e]
    · have ok2 := ok.setG (g := g) (G := ⟨G.status, fs ++ [p.set f.into (f.get i.a)], G.waits⟩) (by simp; omega)
      exact { ok2 with gl := by simp [ok.gl] }
  · have hcall := Return_no (v := f.get i.a) (b := sb) (n := G.s.length) (cap := cap) H2 (by omega)
    refine T.call hcall ?_
    clear hcall
    rintro v w3 ⟨rfl, H4⟩
    simp -dsimp (disch := omega) only [xp, xr, xo, xv]
    obtain ⟨a, gc2, hgv2, hrow⟩ := H4.sle_at1 (v := x.gv) (xs := x.gl) 5 rfl encG_len
    rw [hgv] at hgv2
    cases hgv2
    obtain ⟨gb2, hgb2, hgc⟩ := hrow g _ h.hl
    cases hgb2
    have hw := H4.cell 4 rfl
    simp -dsimp (disch := omega) only [xp, xr, xo, xv, hw, wCells, hgv, hgc, encG]
    refine H4.sto 1 (off := 0) (vs := [.int .i64 4]) rfl (by simp) rfl fun w4 H5 => ?_
    have hdef : backW W g G f i = .ok { W.status g 4 noIns with end_ := if g = 0 then 1 else W.end_ } := by unfold backW; rw [if_neg c]
    have ok2 := ok.setG (g := g) (G := ⟨4, G.s, noIns⟩) hst
    by_cases hg0 : g = 0
    · have d : decide ((g : Int) = 0) = true := decide_eq_true (by omega)
      simp -dsimp (disch := omega) only [xp, xr, xo, xv, d]
      refine H5.sto 4 (off := 11) (vs := [.int .i64 1]) rfl (by simp [wCells]) rfl fun w5 H6 => ?_
      simp -dsimp (disch := omega) only [xp, xr, xo, xv, d]
      have H7 : S κ (wO g gp 4 (.slice (some ⟨sb, 0, none⟩) G.s.length cap) ws G.s wb pv x { W with end_ := 1 } F) w5 := H6.drop
      have H8 := H7.gclose' (wt := noIns) hgl ok.gl h.hl (fun h => by omega)
      refine opOk_mk H8 ?_ { ok2 with }
      rw [hdef, if_pos hg0]; unfold Wd.status; rw [modG_eq h.hg]
    · have d : decide ((g : Int) = 0) = false := decide_eq_false (by omega)
      simp -dsimp (disch := omega) only [xp, xr, xo, xv, d]
      have H7 : S κ (wO g gp 4 (.slice (some ⟨sb, 0, none⟩) G.s.length cap) ws G.s wb pv x W F) w4 := H5.drop
      have H8 := H7.gclose' (wt := noIns) hgl ok.gl h.hl (fun h => by omega)
      refine opOk_mk H8 ?_ ok2
      rw [hdef, if_neg hg0]; unfold Wd.status; rw [modG_eq h.hg]
end Go.Proofs.Ytojbbajmldbffaa
