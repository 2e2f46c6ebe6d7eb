/- A goroutine's registers: contracts. -/
import Derived.Test.YtojbbajmldbffaaSlimFrameW
import Derived.Test.YtojbbajmldbffaaData
import Derived.KernelRfl
set_option linter.unusedSimpArgs false
set_option linter.unusedVariables false
set_option maxRecDepth 20000
namespace Go.Proofs.Ytojbbajmldbffaa
open Go.Shu
variable {κ w : World} {F : List Asn}

theorem nop_T {b n cap j : Nat} {fs : List Fr} {f : Fr} {x : Ins} (H : S κ (sle 11 encFr (.slice (some ⟨b, 0, none⟩) n cap) fs :: F) w) (hj : fs[j]? = some f)  :
    T Try.prog 51 [.pointer (some ⟨b, j * 11, none⟩), .agg (encIns x).toArray] w fun v w' => v = .tuple #[] ∧ S κ (sle 11 encFr (.slice (some ⟨b, 0, none⟩) n cap) (fs.set j (f)) :: F) w' := by
  refine T.of Try.func51 sl51 rfl ?_
  simp -dsimp (disch := omega) only [s51, xr, xo]
  refine H.al fun b1 w1 H1 => ?_
  simp -dsimp (disch := omega) only [xr, xo]
  have hfs : fs.set j f = fs := by have := (List.getElem?_eq_some_iff.1 hj).2; rw [← this]; exact List.set_getElem_self _
  rw [hfs]
  exact ⟨by first | exact True.intro | rfl, H1.drop⟩

theorem constant_T {b n cap j : Nat} {fs : List Fr} {f : Fr} {x : Ins} (H : S κ (sle 11 encFr (.slice (some ⟨b, 0, none⟩) n cap) fs :: F) w) (hj : fs[j]? = some f) (ha : okReg x.a) :
    T Try.prog 52 [.pointer (some ⟨b, j * 11, none⟩), .agg (encIns x).toArray] w fun v w' => v = .tuple #[] ∧ S κ (sle 11 encFr (.slice (some ⟨b, 0, none⟩) n cap) (fs.set j (f.set x.a x.b)) :: F) w' := by
  refine T.of Try.func52 sl52 rfl ?_
  simp -dsimp (disch := omega) only [s52, xr, xo]
  refine H.al fun b1 w1 H1 => ?_
  simp -dsimp (disch := omega) only [xr, xo]
  refine H1.dr fun w2 H2 => ?_
  have hx := H2.cell 0 rfl
  obtain ⟨h0, h1, h2, h3⟩ := H2.fr 1 rfl hj
  have ra := h2 x.a ha
  obtain ⟨ha1, ha2⟩ := ha
  simp -dsimp (disch := omega) only [xr, xo, xv, hx, encIns, ra]
  refine H2.frSet 1 rfl hj ⟨ha1, ha2⟩ fun w3 H3 => ?_
  simp -dsimp (disch := omega) only [xp, xr, xo, xv]
  exact ⟨by first | exact True.intro | rfl, H3.drop⟩

theorem move_T {b n cap j : Nat} {fs : List Fr} {f : Fr} {x : Ins} (H : S κ (sle 11 encFr (.slice (some ⟨b, 0, none⟩) n cap) fs :: F) w) (hj : fs[j]? = some f) (ha : okReg x.a) (hb : okReg x.b) :
    T Try.prog 53 [.pointer (some ⟨b, j * 11, none⟩), .agg (encIns x).toArray] w fun v w' => v = .tuple #[] ∧ S κ (sle 11 encFr (.slice (some ⟨b, 0, none⟩) n cap) (fs.set j (f.set x.a (f.get x.b))) :: F) w' := by
  refine T.of Try.func53 sl53 rfl ?_
  simp -dsimp (disch := omega) only [s53, xr, xo]
  refine H.al fun b1 w1 H1 => ?_
  simp -dsimp (disch := omega) only [xr, xo]
  refine H1.dr fun w2 H2 => ?_
  have hx := H2.cell 0 rfl
  obtain ⟨h0, h1, h2, h3⟩ := H2.fr 1 rfl hj
  have ra := h2 x.a ha
  obtain ⟨ha1, ha2⟩ := ha
  have rb := h2 x.b hb
  obtain ⟨hb1, hb2⟩ := hb
  simp -dsimp (disch := omega) only [xr, xo, xv, hx, encIns, ra, rb]
  refine H2.frSet 1 rfl hj ⟨ha1, ha2⟩ fun w3 H3 => ?_
  simp -dsimp (disch := omega) only [xp, xr, xo, xv]
  exact ⟨by first | exact True.intro | rfl, H3.drop⟩

theorem add_T {b n cap j : Nat} {fs : List Fr} {f : Fr} {x : Ins} (H : S κ (sle 11 encFr (.slice (some ⟨b, 0, none⟩) n cap) fs :: F) w) (hj : fs[j]? = some f) (ha : okReg x.a) (hb : okReg x.b) (hc : okReg x.c) :
    T Try.prog 54 [.pointer (some ⟨b, j * 11, none⟩), .agg (encIns x).toArray] w fun v w' => v = .tuple #[] ∧ S κ (sle 11 encFr (.slice (some ⟨b, 0, none⟩) n cap) (fs.set j (f.set x.a (wr (f.get x.b + f.get x.c)))) :: F) w' := by
  refine T.of Try.func54 sl54 rfl ?_
  simp -dsimp (disch := omega) only [s54, xr, xo]
  refine H.al fun b1 w1 H1 => ?_
  simp -dsimp (disch := omega) only [xr, xo]
  refine H1.dr fun w2 H2 => ?_
  have hx := H2.cell 0 rfl
  obtain ⟨h0, h1, h2, h3⟩ := H2.fr 1 rfl hj
  have ra := h2 x.a ha
  obtain ⟨ha1, ha2⟩ := ha
  have rb := h2 x.b hb
  obtain ⟨hb1, hb2⟩ := hb
  have rc := h2 x.c hc
  obtain ⟨hc1, hc2⟩ := hc
  simp -dsimp (disch := omega) only [xr, xo, xv, hx, encIns, ra, rb, rc]
  refine H2.frSet 1 rfl hj ⟨ha1, ha2⟩ fun w3 H3 => ?_
  simp -dsimp (disch := omega) only [xp, xr, xo, xv]
  exact ⟨by first | exact True.intro | rfl, H3.drop⟩

theorem sub_T {b n cap j : Nat} {fs : List Fr} {f : Fr} {x : Ins} (H : S κ (sle 11 encFr (.slice (some ⟨b, 0, none⟩) n cap) fs :: F) w) (hj : fs[j]? = some f) (ha : okReg x.a) (hb : okReg x.b) (hc : okReg x.c) :
    T Try.prog 55 [.pointer (some ⟨b, j * 11, none⟩), .agg (encIns x).toArray] w fun v w' => v = .tuple #[] ∧ S κ (sle 11 encFr (.slice (some ⟨b, 0, none⟩) n cap) (fs.set j (f.set x.a (wr (f.get x.b - f.get x.c)))) :: F) w' := by
  refine T.of Try.func55 sl55 rfl ?_
  simp -dsimp (disch := omega) only [s55, xr, xo]
  refine H.al fun b1 w1 H1 => ?_
  simp -dsimp (disch := omega) only [xr, xo]
  refine H1.dr fun w2 H2 => ?_
  have hx := H2.cell 0 rfl
  obtain ⟨h0, h1, h2, h3⟩ := H2.fr 1 rfl hj
  have ra := h2 x.a ha
  obtain ⟨ha1, ha2⟩ := ha
  have rb := h2 x.b hb
  obtain ⟨hb1, hb2⟩ := hb
  have rc := h2 x.c hc
  obtain ⟨hc1, hc2⟩ := hc
  simp -dsimp (disch := omega) only [xr, xo, xv, hx, encIns, ra, rb, rc]
  refine H2.frSet 1 rfl hj ⟨ha1, ha2⟩ fun w3 H3 => ?_
  simp -dsimp (disch := omega) only [xp, xr, xo, xv]
  exact ⟨by first | exact True.intro | rfl, H3.drop⟩

theorem mul_T {b n cap j : Nat} {fs : List Fr} {f : Fr} {x : Ins} (H : S κ (sle 11 encFr (.slice (some ⟨b, 0, none⟩) n cap) fs :: F) w) (hj : fs[j]? = some f) (ha : okReg x.a) (hb : okReg x.b) (hc : okReg x.c) :
    T Try.prog 56 [.pointer (some ⟨b, j * 11, none⟩), .agg (encIns x).toArray] w fun v w' => v = .tuple #[] ∧ S κ (sle 11 encFr (.slice (some ⟨b, 0, none⟩) n cap) (fs.set j (f.set x.a (wr (f.get x.b * f.get x.c)))) :: F) w' := by
  refine T.of Try.func56 sl56 rfl ?_
  simp -dsimp (disch := omega) only [s56, xr, xo]
  refine H.al fun b1 w1 H1 => ?_
  simp -dsimp (disch := omega) only [xr, xo]
  refine H1.dr fun w2 H2 => ?_
  have hx := H2.cell 0 rfl
  obtain ⟨h0, h1, h2, h3⟩ := H2.fr 1 rfl hj
  have ra := h2 x.a ha
  obtain ⟨ha1, ha2⟩ := ha
  have rb := h2 x.b hb
  obtain ⟨hb1, hb2⟩ := hb
  have rc := h2 x.c hc
  obtain ⟨hc1, hc2⟩ := hc
  simp -dsimp (disch := omega) only [xr, xo, xv, hx, encIns, ra, rb, rc]
  refine H2.frSet 1 rfl hj ⟨ha1, ha2⟩ fun w3 H3 => ?_
  simp -dsimp (disch := omega) only [xp, xr, xo, xv]
  exact ⟨by first | exact True.intro | rfl, H3.drop⟩

theorem less_T {b n cap j : Nat} {fs : List Fr} {f : Fr} {x : Ins} (H : S κ (sle 11 encFr (.slice (some ⟨b, 0, none⟩) n cap) fs :: F) w) (hj : fs[j]? = some f) (ha : okReg x.a) (hb : okReg x.b) (hc : okReg x.c) :
    T Try.prog 57 [.pointer (some ⟨b, j * 11, none⟩), .agg (encIns x).toArray] w fun v w' => v = .tuple #[] ∧ S κ (sle 11 encFr (.slice (some ⟨b, 0, none⟩) n cap) (fs.set j (f.set x.a (if f.get x.b < f.get x.c then 1 else 0))) :: F) w' := by
  refine T.of Try.func57 sl57 rfl ?_
  simp -dsimp (disch := omega) only [s57, xr, xo]
  refine H.al fun b1 w1 H1 => ?_
  simp -dsimp (disch := omega) only [xr, xo]
  refine H1.dr fun w2 H2 => ?_
  have hx := H2.cell 0 rfl
  obtain ⟨h0, h1, h2, h3⟩ := H2.fr 1 rfl hj
  have ra := h2 x.a ha
  obtain ⟨ha1, ha2⟩ := ha
  have rb := h2 x.b hb
  obtain ⟨hb1, hb2⟩ := hb
  have rc := h2 x.c hc
  obtain ⟨hc1, hc2⟩ := hc
  simp -dsimp (disch := omega) only [xr, xo, xv, hx, encIns, ra, rb, rc]
  refine H2.dr fun w3 H3 => ?_
  have hx := H3.cell 0 rfl
  simp -dsimp (disch := omega) only [xr, xo, xv, hx, encIns]
  refine H3.frSet 1 rfl hj ⟨ha1, ha2⟩ fun w4 H4 => ?_
  simp -dsimp (disch := omega) only [xp, xr, xo, xv]
  have hj4 : (fs.set j (f.set x.a 0))[j]? = some (f.set x.a 0) := by simp [(List.getElem?_eq_some_iff.1 hj).1]
  by_cases hz : f.get x.b < f.get x.c
  · have d : decide (f.get x.b < f.get x.c) = true := decide_eq_true hz
    simp -dsimp (disch := omega) only [xr, xo, xv, d]
    refine H4.dr fun w5 H5 => ?_
    have hx := H5.cell 0 rfl
    simp -dsimp (disch := omega) only [xr, xo, xv, hx, encIns]
    refine H5.frSet 1 rfl hj4 ⟨ha1, ha2⟩ fun w6 H6 => ?_
    simp -dsimp (disch := omega) only [xp, xr, xo, xv]
    rw [if_pos hz]
    have e : (fs.set j (f.set x.a 0)).set j ((f.set x.a 0).set x.a 1) = fs.set j (f.set x.a 1) := by
      rw [List.set_set]; congr 1
      simp only [Fr.set]; congr 1; funext k; simp only [upr]; split <;> rfl
    exact ⟨by first | exact True.intro | rfl, by rw [← e]; exact H6.drop⟩
  · have d : decide (f.get x.b < f.get x.c) = false := decide_eq_false hz
    simp -dsimp (disch := omega) only [xr, xo, xv, d]
    rw [if_neg hz]
    exact ⟨by first | exact True.intro | rfl, H4.drop⟩

theorem jump_T {b n cap j : Nat} {fs : List Fr} {f : Fr} {x : Ins} (H : S κ (sle 11 encFr (.slice (some ⟨b, 0, none⟩) n cap) fs :: F) w) (hj : fs[j]? = some f)  :
    T Try.prog 58 [.pointer (some ⟨b, j * 11, none⟩), .agg (encIns x).toArray] w fun v w' => v = .tuple #[] ∧ S κ (sle 11 encFr (.slice (some ⟨b, 0, none⟩) n cap) (fs.set j ({ f with at_ := x.a })) :: F) w' := by
  refine T.of Try.func58 sl58 rfl ?_
  simp -dsimp (disch := omega) only [s58, xr, xo]
  refine H.al fun b1 w1 H1 => ?_
  have hx := H1.cell 0 rfl
  simp -dsimp (disch := omega) only [xr, xo, xv, hx, encIns]
  refine H1.frAt 1 rfl hj fun w3 H3 => ?_
  simp -dsimp (disch := omega) only [xp, xr, xo, xv]
  exact ⟨by first | exact True.intro | rfl, H3.drop⟩

theorem branch_T {b n cap j : Nat} {fs : List Fr} {f : Fr} {x : Ins} (H : S κ (sle 11 encFr (.slice (some ⟨b, 0, none⟩) n cap) fs :: F) w) (hj : fs[j]? = some f) (ha : okReg x.a) :
    T Try.prog 59 [.pointer (some ⟨b, j * 11, none⟩), .agg (encIns x).toArray] w fun v w' => v = .tuple #[] ∧ S κ (sle 11 encFr (.slice (some ⟨b, 0, none⟩) n cap) (fs.set j (if f.get x.a ≠ 0 then { f with at_ := x.b } else f)) :: F) w' := by
  refine T.of Try.func59 sl59 rfl ?_
  simp -dsimp (disch := omega) only [s59, xr, xo]
  refine H.al fun b1 w1 H1 => ?_
  simp -dsimp (disch := omega) only [xr, xo]
  refine H1.dr fun w2 H2 => ?_
  have hx := H2.cell 0 rfl
  obtain ⟨h0, h1, h2, h3⟩ := H2.fr 1 rfl hj
  have ra := h2 x.a ha
  obtain ⟨ha1, ha2⟩ := ha
  by_cases hz : f.get x.a = 0
  · have d : decide (f.get x.a = 0) = true := decide_eq_true hz
    simp -dsimp (disch := omega) only [xr, xo, xv, hx, encIns, ra, d, Bool.not_true]
    have hfs : fs.set j f = fs := by have := (List.getElem?_eq_some_iff.1 hj).2; rw [← this]; exact List.set_getElem_self _
    rw [if_neg (fun h => h hz), hfs]
    exact ⟨by first | exact True.intro | rfl, H2.drop⟩
  · have d : decide (f.get x.a = 0) = false := decide_eq_false hz
    simp -dsimp (disch := omega) only [xr, xo, xv, hx, encIns, ra, d, Bool.not_false]
    refine H2.frAt 1 rfl hj fun w3 H4 => ?_
    simp -dsimp (disch := omega) only [xp, xr, xo, xv]
    rw [if_pos hz]
    exact ⟨by first | exact True.intro | rfl, H4.drop⟩

def tab : List (Int × Value) := [(0, .func (.func 51) #[] #[]), (1, .func (.func 52) #[] #[]), (2, .func (.func 53) #[] #[]), (3, .func (.func 54) #[] #[]), (4, .func (.func 55) #[] #[]), (5, .func (.func 56) #[] #[]), (6, .func (.func 57) #[] #[]), (7, .func (.func 58) #[] #[]), (8, .func (.func 59) #[] #[])]
theorem table_T (H : S κ F w) : T Try.prog 28 [] w fun v w' => ∃ b, v = .map (some b) ∧ S κ (mpt b tab :: F) w' := by
  refine T.of Try.func28 sl28 rfl ?_
  simp -dsimp (disch := omega) only [s28, xr, xo]
  refine H.mkMap fun b w1 H1 => ?_
  simp -dsimp (disch := omega) only [xr, xo]
  refine H1.insMap 0 (z := .nilFunc) (n := 0) rfl (by kernel_rfl) (by simp -dsimp (disch := omega) only [xr]) rfl (by rfl) fun w1 H1 => ?_
  simp -dsimp (disch := omega) only [xr, xo]
  refine H1.insMap 0 (z := .nilFunc) (n := 1) rfl (by kernel_rfl) (by simp -dsimp (disch := omega) only [xr]) rfl (by rfl) fun w1 H1 => ?_
  simp -dsimp (disch := omega) only [xr, xo]
  refine H1.insMap 0 (z := .nilFunc) (n := 2) rfl (by kernel_rfl) (by simp -dsimp (disch := omega) only [xr]) rfl (by rfl) fun w1 H1 => ?_
  simp -dsimp (disch := omega) only [xr, xo]
  refine H1.insMap 0 (z := .nilFunc) (n := 3) rfl (by kernel_rfl) (by simp -dsimp (disch := omega) only [xr]) rfl (by rfl) fun w1 H1 => ?_
  simp -dsimp (disch := omega) only [xr, xo]
  refine H1.insMap 0 (z := .nilFunc) (n := 4) rfl (by kernel_rfl) (by simp -dsimp (disch := omega) only [xr]) rfl (by rfl) fun w1 H1 => ?_
  simp -dsimp (disch := omega) only [xr, xo]
  refine H1.insMap 0 (z := .nilFunc) (n := 5) rfl (by kernel_rfl) (by simp -dsimp (disch := omega) only [xr]) rfl (by rfl) fun w1 H1 => ?_
  simp -dsimp (disch := omega) only [xr, xo]
  refine H1.insMap 0 (z := .nilFunc) (n := 6) rfl (by kernel_rfl) (by simp -dsimp (disch := omega) only [xr]) rfl (by rfl) fun w1 H1 => ?_
  simp -dsimp (disch := omega) only [xr, xo]
  refine H1.insMap 0 (z := .nilFunc) (n := 7) rfl (by kernel_rfl) (by simp -dsimp (disch := omega) only [xr]) rfl (by rfl) fun w1 H1 => ?_
  simp -dsimp (disch := omega) only [xr, xo]
  refine H1.insMap 0 (z := .nilFunc) (n := 8) rfl (by kernel_rfl) (by simp -dsimp (disch := omega) only [xr]) rfl (by rfl) fun w1 H1 => ?_
  simp -dsimp (disch := omega) only [xr, xo]
  exact ⟨b, rfl, H1⟩

theorem disp {b n cap j : Nat} {f : Fr} {x : Ins} (hx : okPure x) : (seek tab x.op = none ∧ pureOp f x = none) ∨ ∃ k g, seek tab x.op = some (.func (.func k) #[] #[]) ∧ callable Try.prog k = true ∧ pureOp f x = some g ∧
    ∀ {κ w : World} {F : List Asn} {fs : List Fr}, S κ (sle 11 encFr (.slice (some ⟨b, 0, none⟩) n cap) fs :: F) w → fs[j]? = some f →
      T Try.prog k [.pointer (some ⟨b, j * 11, none⟩), .agg (encIns x).toArray] w fun v w' => v = .tuple #[] ∧ S κ (sle 11 encFr (.slice (some ⟨b, 0, none⟩) n cap) (fs.set j g) :: F) w' := by
  obtain ⟨h1, h2, h3, h4⟩ := hx
  by_cases c0 : x.op = 0
  · refine .inr ⟨51, _, by rw [c0]; rfl, by kernel_rfl, by simp only [pureOp, c0]; simp; try rfl, fun H hj => nop_T H hj ⟩
  by_cases c1 : x.op = 1
  · refine .inr ⟨52, _, by rw [c1]; rfl, by kernel_rfl, by simp only [pureOp, c1]; simp; try rfl, fun H hj => constant_T H hj (h1 (by omega))⟩
  by_cases c2 : x.op = 2
  · refine .inr ⟨53, _, by rw [c2]; rfl, by kernel_rfl, by simp only [pureOp, c2]; simp; try rfl, fun H hj => move_T H hj (h1 (by omega)) (h2 (by omega))⟩
  by_cases c3 : x.op = 3
  · refine .inr ⟨54, _, by rw [c3]; rfl, by kernel_rfl, by simp only [pureOp, c3]; simp; try rfl, fun H hj => add_T H hj (h1 (by omega)) (h2 (by omega)) (h3 (by omega))⟩
  by_cases c4 : x.op = 4
  · refine .inr ⟨55, _, by rw [c4]; rfl, by kernel_rfl, by simp only [pureOp, c4]; simp; try rfl, fun H hj => sub_T H hj (h1 (by omega)) (h2 (by omega)) (h3 (by omega))⟩
  by_cases c5 : x.op = 5
  · refine .inr ⟨56, _, by rw [c5]; rfl, by kernel_rfl, by simp only [pureOp, c5]; simp; try rfl, fun H hj => mul_T H hj (h1 (by omega)) (h2 (by omega)) (h3 (by omega))⟩
  by_cases c6 : x.op = 6
  · refine .inr ⟨57, _, by rw [c6]; rfl, by kernel_rfl, by simp only [pureOp, c6]; simp; try rfl, fun H hj => less_T H hj (h1 (by omega)) (h2 (by omega)) (h3 (by omega))⟩
  by_cases c7 : x.op = 7
  · refine .inr ⟨58, _, by rw [c7]; rfl, by kernel_rfl, by simp only [pureOp, c7]; simp; try rfl, fun H hj => jump_T H hj ⟩
  by_cases c8 : x.op = 8
  · have c := c8; refine .inr ⟨59, _, by rw [c8]; rfl, by kernel_rfl, by simp only [pureOp, c8]; simp; try rfl, fun H hj => branch_T H hj (h4 c)⟩
  refine .inl ⟨?_, ?_⟩
  · simp [seek, tab, c0, c1, c2, c3, c4, c5, c6, c7, c8]
  · simp [pureOp, c0, c1, c2, c3, c4, c5, c6, c7, c8]

/-- An instruction that registers alone decide. -/
theorem Pure_T {b n cap j : Nat} {fs : List Fr} {f : Fr} {x : Ins} (H : S κ (sle 11 encFr (.slice (some ⟨b, 0, none⟩) n cap) fs :: F) w) (hj : fs[j]? = some f) (hx : okPure x) (hat : -9223372036854775808 ≤ f.at_ ∧ f.at_ < 9223372036854775807) :
    T Try.prog 23 [.pointer (some ⟨b, j * 11, none⟩), .agg (encIns x).toArray] w fun v w' => match pureOp { f with at_ := f.at_ + 1 } x with
      | some g => v = .bool true ∧ S κ (sle 11 encFr (.slice (some ⟨b, 0, none⟩) n cap) (fs.set j g) :: F) w'
      | none => v = .bool false ∧ S κ (sle 11 encFr (.slice (some ⟨b, 0, none⟩) n cap) fs :: F) w' := by
  refine T.of Try.func23 sl23 rfl ?_
  simp -dsimp (disch := omega) only [s23, xr, xo]
  refine H.al fun b1 w1 H1 => ?_
  simp -dsimp (disch := omega) only [xr, xo]
  refine H1.dr fun w2 H2 => ?_
  have hx2 := H2.cell 0 rfl
  simp -dsimp (disch := omega) only [xr, xo, xv, hx2, encIns]
  have hb := table_T H2
  refine T.call hb ?_
  clear hb
  rintro v w3 ⟨bt, rfl, H3⟩
  have hx3 := H3.cell 1 rfl
  simp -dsimp (disch := omega) only [xp, xr, xo, xv, hx2, hx3, encIns]
  refine H3.lookMap 0 (z := .nilFunc) (n := x.op) rfl (by kernel_rfl) (by simp -dsimp (disch := omega) only [xr]) (by simp -dsimp (disch := omega) only [xr]) ?_
  have H4 : S κ (sle 11 encFr (.slice (some ⟨b, 0, none⟩) n cap) fs :: pt b1 (encIns x) :: mpt bt tab :: F) w3 := (H3.mv 1).mv 2
  rcases disp (b := b) (n := n) (cap := cap) (j := j) (f := { f with at_ := f.at_ + 1 }) hx with ⟨e1, e2⟩ | ⟨k, g, e1, e2, e3, hk⟩
  · rw [e2]
    rw [e1, lkR_none]
    simp -dsimp (disch := omega) only [xp, xr, xo, xv]
    exact ⟨trivial, (H4.del 1).del 1⟩
  · rw [e3]
    rw [e1, lkR_some]
    obtain ⟨h0, h1, h2, h3⟩ := H4.fr 0 rfl hj
    simp -dsimp (disch := omega) only [xp, xr, xo, xv, h1]
    refine H4.frAt 0 rfl hj fun w5 H5 => ?_
    have hr : rowOf w5 ⟨b1, 0, none⟩ 4 = some (encIns x) := H5.row 1 rfl 0 4 (Nat.le_refl _)
    simp -dsimp (disch := omega) only [xp, xr, xo, xv, xk, hr, e2]
    have hb := hk H5 (by simp [(List.getElem?_eq_some_iff.1 hj).1])
    refine T.call hb ?_
    clear hb
    rintro v w6 ⟨rfl, H6⟩
    simp -dsimp (disch := omega) only [xp, xr, xo, xv]
    rw [List.set_set] at H6
    exact ⟨trivial, (H6.del 1).del 1⟩

theorem Begin_T {fn arg : Int} (H : S κ F w) : T Try.prog 14 [.int .i64 fn, .int .i64 arg] w fun v w' => ∃ b, v = .slice (some ⟨b, 0, none⟩) 1 1 ∧ S κ (sle 11 encFr v [begin1 fn arg] :: F) w' := by
  refine T.of Try.func14 sl14 rfl ?_
  simp -dsimp (disch := omega) only [s14, xr, xo, xv]
  refine H.bs fun b w1 H1 => ?_
  simp -dsimp (disch := omega) only [xr, xo, xv]
  exact ⟨b, rfl, H1.slc_mk rfl⟩

theorem Top_T {b n cap : Nat} {fs : List Fr} (H : S κ (sle 11 encFr (.slice (some ⟨b, 0, none⟩) n cap) fs :: F) w) (hn : 0 < n) (hl : n < 1000000) :
    T Try.prog 22 [.slice (some ⟨b, 0, none⟩) n cap] w fun v w' => v = .pointer (some ⟨b, (n - 1) * 11, none⟩) ∧ S κ (sle 11 encFr (.slice (some ⟨b, 0, none⟩) n cap) fs :: F) w' := by
  refine T.of Try.func22 sl22 rfl ?_
  have d : decide ((n : Int) = 0) = false := decide_eq_false (by omega)
  have ht : ((n : Int) - 1).toNat = n - 1 := by omega
  simp -dsimp (disch := omega) only [s22, xr, xo, xv, d, ht]
  exact ⟨trivial, H⟩

/-- One more frame: at most 16. -/
theorem Call_ok {b n cap : Nat} {fs : List Fr} {fn arg into : Int} (H : S κ (sle 11 encFr (.slice (some ⟨b, 0, none⟩) n cap) fs :: F) w) (h : n < 16) :
    T Try.prog 67 [.slice (some ⟨b, 0, none⟩) n cap, .int .i64 fn, .int .i64 arg, .int .i64 into] w fun v w' =>
      ∃ b' cap', n + 1 ≤ cap' ∧ v = .tuple ([.slice (some ⟨b', 0, none⟩) (n + 1) cap', .bool true] : List Value).toArray ∧ S κ (sle 11 encFr (.slice (some ⟨b', 0, none⟩) (n + 1) cap') (fs ++ [call1 fn arg into]) :: F) w' := by
  refine T.of Try.func67 sl67 rfl ?_
  have d : decide ((16 : Int) ≤ n) = false := decide_eq_false (by omega)
  obtain ⟨h1, h2, h3⟩ := H.sle_rowO 0 rfl encFr_len
  simp -dsimp (disch := omega) only [s67, xr, xo, xv, xs, d]
  refine H.bs fun b1 w1 H1 => ?_
  simp -dsimp (disch := omega) only [xr, xo, xv, xs, d]
  obtain ⟨h1, h2, h3⟩ := H1.sle_rowO 1 rfl encFr_len
  refine H1.app_new (m := 1) (vs := encFr (call1 fn arg into)) (by omega) h1 h2 (H1.row 0 rfl 0 11 (Nat.le_refl _)) rfl rfl (by omega) fun b' cap' w2 hc' H2 => ?_
  simp -dsimp (disch := omega) only [xr, xo, xv, xs, d]
  refine ⟨b', cap', hc', rfl, ?_⟩
  have e : fs.flatMap encFr ++ encFr (call1 fn arg into) = (fs ++ [call1 fn arg into]).flatMap encFr := by simp
  rw [e] at H2
  exact (H2.del 1).del 1
theorem Call_no {b n cap : Nat} {fs : List Fr} {fn arg into : Int} (H : S κ (sle 11 encFr (.slice (some ⟨b, 0, none⟩) n cap) fs :: F) w) (h : 16 ≤ n) (hl : n < 1000000) :
    T Try.prog 67 [.slice (some ⟨b, 0, none⟩) n cap, .int .i64 fn, .int .i64 arg, .int .i64 into] w fun v w' =>
      v = .tuple ([.slice (some ⟨b, 0, none⟩) n cap, .bool false] : List Value).toArray ∧ S κ (sle 11 encFr (.slice (some ⟨b, 0, none⟩) n cap) fs :: F) w' := by
  refine T.of Try.func67 sl67 rfl ?_
  have d : decide ((16 : Int) ≤ n) = true := decide_eq_true (by omega)
  simp -dsimp (disch := omega) only [s67, xr, xo, xv, xs, d]
  exact ⟨trivial, H⟩

/-- One frame less, and what it returned. -/
theorem Return_no {v : Int} {b n cap : Nat} (H : S κ F w) (h : n < 2) :
    T Try.prog 68 [.slice (some ⟨b, 0, none⟩) n cap, .int .i64 v] w fun r w' => r = .tuple ([.slice none 0 0, .bool false] : List Value).toArray ∧ S κ F w' := by
  refine T.of Try.func68 sl68 rfl ?_
  have d : decide ((n : Int) < 2) = true := decide_eq_true (by omega)
  simp -dsimp (disch := omega) only [s68, xr, xo, xv, xs, d]
  exact ⟨trivial, H⟩
theorem Return_ok {v : Int} {b m cap : Nat} {fs : List Fr} {f g : Fr} (H : S κ (sle 11 encFr (.slice (some ⟨b, 0, none⟩) (m + 1) cap) (fs ++ [g, f]) :: F) w) (hn : m = fs.length + 1) (hl : m < 900000) (hi : okReg f.into) :
    T Try.prog 68 [.slice (some ⟨b, 0, none⟩) (m + 1) cap, .int .i64 v] w fun r w' =>
      ∃ b' cap', m ≤ cap' ∧ r = .tuple ([.slice (some ⟨b', 0, none⟩) m cap', .bool true] : List Value).toArray ∧ S κ (sle 11 encFr (.slice (some ⟨b', 0, none⟩) m cap') (fs ++ [g.set f.into v]) :: F) w' := by
  refine T.of Try.func68 sl68 rfl ?_
  have d : decide (((m + 1 : Nat) : Int) < 2) = false := decide_eq_false (by omega)
  simp -dsimp (disch := omega) only [s68, xr, xo, xv, xs, d]
  refine H.bs fun b1 w1 H1 => ?_
  obtain ⟨_, _, h3⟩ := H1.sle_rowO 1 rfl encFr_len
  have ht : (((m + 1 : Nat) : Int) - 1).toNat = m := by omega
  simp -dsimp (disch := omega) only [xr, xo, xv, xs, d, ht]
  have H1c := H1.sle_cut 1 rfl encFr_len (by decide) (show m ≤ m + 1 by omega)
  have e : (fs ++ [g, f]).take m = fs ++ [g] := by
    rw [hn, show fs ++ [g, f] = (fs ++ [g]) ++ [f] from by simp]
    exact List.take_left' (by simp)
  rw [e] at H1c
  obtain ⟨h1, h2, _⟩ := H1c.sle_rowO 1 rfl encFr_len
  refine H1.app_new (n := 0) (old := []) (by omega) (H1.row 0 rfl 0 0 (Nat.le_refl _)) rfl h1 h2 rfl (by omega) fun b' cap' w2 hc' H2 => ?_
  simp only [Nat.zero_add, List.nil_append] at hc' H2
  simp -dsimp (disch := omega) only [xr, xo, xv, xs]
  have H2 : S κ (sle 11 encFr (.slice (some ⟨b', 0, none⟩) m cap') (fs ++ [g]) :: sle 11 encFr (.slice (some ⟨b, 0, none⟩) (m + 1) cap) (fs ++ [g, f]) :: F) w2 := H2.del 1
  refine H2.dr fun w3 H3 => ?_
  simp -dsimp (disch := omega) only [xr, xo, xv, xs]
  have hb := Top_T H3 (by omega) (by omega)
  refine T.call hb ?_
  clear hb
  rintro r w4 ⟨rfl, H4⟩
  simp -dsimp (disch := omega) only [xp, xr, xo, xv, xs]
  have H5 : S κ (sle 11 encFr (.slice (some ⟨b, 0, none⟩) (m + 1) cap) (fs ++ [g, f]) :: sle 11 encFr (.slice (some ⟨b', 0, none⟩) m cap') (fs ++ [g]) :: F) w4 := H4.mv 1
  have hb := Top_T H5 (by omega) (by omega)
  refine T.call hb ?_
  clear hb
  rintro r w5 ⟨rfl, H6⟩
  have hg : (fs ++ [g])[m - 1]? = some g := by rw [show m - 1 = fs.length by omega]; simp
  have hf : (fs ++ [g, f])[m + 1 - 1]? = some f := by rw [show m + 1 - 1 = fs.length + 1 by omega]; simp
  obtain ⟨_, _, _, h6⟩ := H6.fr 0 rfl hf
  obtain ⟨hi1, hi2⟩ := hi
  simp -dsimp (disch := omega) only [xp, xr, xo, xv, xs, h6]
  refine H6.frSet 1 rfl hg ⟨hi1, hi2⟩ fun w6 H7 => ?_
  simp -dsimp (disch := omega) only [xp, xr, xo, xv, xs]
  refine ⟨b', cap', hc', rfl, ?_⟩
  have e2 : (fs ++ [g]).set (m - 1) (g.set f.into v) = fs ++ [g.set f.into v] := by rw [show m - 1 = fs.length by omega]; simp
  rw [e2] at H7
  exact H7.drop
end Go.Proofs.Ytojbbajmldbffaa
