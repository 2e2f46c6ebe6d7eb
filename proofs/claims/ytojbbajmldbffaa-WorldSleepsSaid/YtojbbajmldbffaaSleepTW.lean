/- Who sleeps wakes in time: the law, from its input on. -/
import Derived.Test.YtojbbajmldbffaaSleepLW
import Derived.Below
set_option linter.unusedSimpArgs false
set_option linter.unusedVariables false
set_option maxRecDepth 20000
set_option maxHeartbeats 8000000
namespace Go.Proofs.Ytojbbajmldbffaa
open Go.Shu
variable {κ w : World} {F : List Asn} {wb : Nat} {pv : PV} {x : Lay} {W : Wd}

def t8 (x : Int) : Nat := (BitVec.ofInt 64 x &&& BitVec.ofInt 64 255).toNat
theorem t8_le (x : Int) : t8 x ≤ 255 := by
  unfold t8
  rw [BitVec.toNat_and]
  exact Nat.and_le_right
theorem t8_and (x : Int) : IntKind.wrap .i64 ((BitVec.ofInt IntKind.i64.bits x &&& BitVec.ofInt IntKind.i64.bits 255).toNat : Nat) = (t8 x : Nat) := by
  have h := t8_le x
  show IntKind.wrap .i64 (t8 x : Nat) = _
  rw [wrap_i64 (by omega) (by omega)]
def dur (zs : List Int) (i : Nat) : Nat := 1 + t8 (zs.getD i 0) % 30
theorem dur_le (zs : List Int) (i : Nat) : 1 ≤ dur zs i ∧ dur zs i ≤ 30 := by unfold dur; omega
/-- The numbers that came in. -/
def Inp (κ : World) (a : Option Addr) (len : Nat) (zs : List Int) : Prop := ∀ i, i < len → ∃ x, a = some x ∧ κ.cell? (x.add i) = some (.int .i64 (zs.getD i 0))
theorem _root_.Go.Shu.S.start (w : World) : S w [ro (heapF w)] w := ⟨rfl, rfl, rfl, Nat.le_refl _, ⟨heapF w, fun _ => none, fun _ => .inr rfl, le.refl _, (fun _ _ h => nomatch h), le.refl _, trivial⟩⟩
theorem _root_.Go.Shu.S.below {κ w : World} (H : S κ [ro (heapF κ)] w) : Go.RowKit.Below κ.heap.size κ w := by
  obtain ⟨h1, hl, hr⟩ := H.at_ 0 rfl
  refine ⟨H.os, H.tape, H.output, H.size, fun k hk => ?_⟩
  have : κ.heap[k]? = some κ.heap[k] := Array.getElem?_eq_getElem hk
  rw [this]
  exact hl _ _ (hr _ _ this)
theorem S.ro_cell {h : Frag} {F : List Asn} {κ w w0 : World} {v : Value} (H : S κ F w) (i : Nat) (hi : F[i]? = some (ro (heapF w0))) {a : Addr} (ha : w0.cell? a = some v) : w.cell? a = some v := by
  obtain ⟨h1, hl, hr⟩ := H.at_ i hi
  rw [← ha]
  have key : w.heap[a.block]? = w0.heap[a.block]? → w.cell? a = w0.cell? a := fun h => by unfold World.cell?; rw [h]
  refine key ?_
  cases hb : w0.heap[a.block]? with
  | none =>
    have : w0.cell? a = none := by simp [World.cell?, hb]
    rw [this] at ha; cases ha
  | some o => exact hl _ _ (hr _ _ hb)


theorem ph1_reg {d : Nat → Nat} {j : Nat} {W : Wd} {G : Gor} {f : Fr} (hd : ∀ i, d i ≤ 30) (hj : j ≤ 40) (h : Ph1 d j W) (hG : W.gs[0]? = some G) (hs : G.s = [f]) (ho : j % 2 = 1) : -1000000 ≤ f.get 1 ∧ f.get 1 ≤ 1000000 := by
  obtain ⟨fm, wt, hgs, _, _, _, hr⟩ := h.gs
  rw [hgs] at hG
  cases hG
  cases hs
  rw [hr ho]
  have := hd (j / 2)
  omega
theorem main_T {d : Nat → Nat} {n j : Nat} {k : FuncId} (hd : ∀ i, 1 ≤ d i ∧ d i ≤ 30) (hn : n ≤ 20) (hj : j < 2 * n) (H : S κ (wR wb pv x W (progA pv (progS d n) :: F)) w) (ok : WOk x W) (h : Ph1 d j W) :
    T Try.prog 7 [.pointer (some ⟨wb, 0, none⟩), .int .i64 0, .func (.func k) #[] #[]] w fun v w' => ∃ W' x', WOk x' W' ∧ Ph1 d (j + 1) W' ∧ S κ (wR wb pv x' W' (progA pv (progS d n) :: F)) w' := by
  obtain ⟨G, f, hG, hs, hst, hfn, hat, hin, hnext⟩ : ∃ G f, W.gs[0]? = some G ∧ G.s = [f] ∧ G.status = 1 ∧ f.fn = 0 ∧ f.at_ = (j : Int) ∧ f.into = 0 ∧ Ph1 d (j + 1) (execW (progS d n) W 0 G f).1 := by
    rcases Nat.mod_two_eq_zero_or_one j with e | e
    · obtain ⟨q, rfl⟩ : ∃ q, j = 2 * q := ⟨j / 2, by omega⟩
      exact ph1_even hn (by omega) h
    · obtain ⟨q, rfl⟩ : ∃ q, j = 2 * q + 1 := ⟨j / 2, by omega⟩
      obtain ⟨G, f, a, b, c, e, g, i, l⟩ := ph1_odd hn (by omega) h
      exact ⟨G, f, a, b, c, e, g, i, by rw [show 2 * q + 1 + 1 = 2 * (q + 1) by omega]; exact l⟩
  refine Calls.mono (Exec_S (g := 0) H ok hG hs fun _ _ => okMain hn hj hfn hat hin (fun ho => ph1_reg (fun i => (hd i).2) (by omega) h hG hs ho) h.clock h.seq h.sleep rfl) fun e w' he => ?_
  obtain ⟨v, he, x', ok', H'⟩ := he
  exact ⟨v, he, _, x', ok', hnext, H'⟩

/-- One that is let on 300 times. -/
def Inn (d : Nat → Nat) (n g c : Nat) (W : Wd) : Prop := (∃ rem G f, Ph2r d n g rem W G f ∧ rem + c ≤ 300) ∨ Ph2 d n (g + 1) W
theorem inn_start {d : Nat → Nat} {n g : Nat} {W : Wd} (hn : n ≤ 20) (hg : g < n) (h : Ph2 d n g W) : Inn d n g 0 W := by
  obtain ⟨G, f, h'⟩ := ph2_run hg h
  exact .inl ⟨_, G, f, h', by omega⟩
theorem inn_end {d : Nat → Nat} {n g : Nat} {W : Wd} (h : Inn d n g 300 W) : Ph2 d n (g + 1) W := by
  rcases h with ⟨rem, G, f, h, hr⟩ | h
  · have := cr_pos h.cr; omega
  · exact h
theorem cr_rng {d i rem : Nat} {f : Fr} (hd : d ≤ 30) (hi : i < 20) (h : CR d i f rem) : (0 ≤ f.get 0 ∧ f.get 0 ≤ 100000) ∧ 0 ≤ f.get 3 ∧ f.get 3 ≤ 1000 := by
  cases h <;> (simp only [*]; omega)
theorem child_T {d : Nat → Nat} {n g c : Nat} {k : FuncId} (hd : ∀ i, 1 ≤ d i ∧ d i ≤ 30) (hn : n ≤ 20) (hg : g < n) (hc : c < 300) (H : S κ (wR wb pv x W (progA pv (progS d n) :: F)) w) (ok : WOk x W) (h : Inn d n g c W) :
    T Try.prog 7 [.pointer (some ⟨wb, 0, none⟩), .int .i64 (g + 1 : Nat), .func (.func k) #[] #[]] w fun v w' => ∃ W' x', WOk x' W' ∧ Inn d n g (c + 1) W' ∧ S κ (wR wb pv x' W' (progA pv (progS d n) :: F)) w' := by
  rcases h with ⟨rem, G, f, h, hr⟩ | h
  · have hrg := cr_rng (hd g).2 (by omega) h.cr
    have hat := cr_at h.cr
    have hpos := cr_pos h.cr
    have hseq := h.seq
    have hcl := h.clock
    have hsl : W.sleep.length = g := h.sl.len
    have hb := Exec_S (k := k) H ok h.hg h.s fun _ _ => okChild (d := d) (n := n) hn h.fn (by omega) h.into (by omega) (by omega) (by show W.clock ≤ _; omega) (by show W.seq ≤ _; omega) (by show W.sleep.length ≤ _; omega) rfl
    refine Calls.mono hb fun e w' he => ?_
    obtain ⟨v, he, x', ok', H'⟩ := he
    refine ⟨v, he, _, x', ok', ?_, H'⟩
    obtain ⟨r, rfl⟩ : ∃ r, rem = r + 1 := ⟨rem - 1, by omega⟩
    rcases r with _ | r
    · exact .inr (ph2_last (hd g) hn hg h)
    · obtain ⟨G', f', h'⟩ := ph2_step (hd g) hn hg h
      exact .inl ⟨_, G', f', h', by omega⟩
  · obtain ⟨G, hG, hst, f, hs, _⟩ := h.asleep g (Nat.lt_succ_self g)
    have hex : (execW (progS d n) W (g + 1) G f).1 = { W with ready := [] } := by
      unfold execW; rw [if_pos (by right; rw [hst]; decide)]
    have hb := Exec_S (k := k) (p := progS d n) (F := F) (pv := pv) H ok hG hs fun _ h1 => by rw [hst] at h1; cases h1
    refine Calls.mono hb fun e w' he => ?_
    obtain ⟨v, he, x', ok', H'⟩ := he
    rw [hex] at ok' H'
    exact ⟨v, he, _, x', ok', .inr (ph2_idle h), H'⟩

theorem ph3_bounds {d : Nat → Nat} {n t : Nat} {s0 outs pend rest : List HItem} {W : Wd} (h : Ph3 d n t s0 outs pend rest W) : outs.length ≤ n ∧ pend.length ≤ n ∧ rest.length ≤ n := by
  have h1 := h.sl.len
  rw [← h.all] at h1
  simp at h1
  omega
/-- One that woke: it tells its number, and is done. -/
theorem woken_T {d : Nat → Nat} {n t : Nat} {s0 outs pend rest : List HItem} {y : HItem} {k : FuncId} (hd : ∀ i, 1 ≤ d i ∧ d i ≤ 30) (hn : n ≤ 20) (ht : t ≤ 31) (H : S κ (wR wb pv x W (progA pv (progS d n) :: F)) w) (ok : WOk x W) (h : Ph3 d n t s0 outs (y :: pend) rest W) :
    T Try.prog 7 [.pointer (some ⟨wb, 0, none⟩), .int .i64 y.id, .func (.func k) #[] #[]] w fun v w' => ∃ W1 x1, WOk x1 W1 ∧ S κ (wR wb pv x1 W1 (progA pv (progS d n) :: F)) w' ∧
      ∀ {κ w : World} {F : List Asn}, S κ (wR wb pv x1 W1 (progA pv (progS d n) :: F)) w → T Try.prog 7 [.pointer (some ⟨wb, 0, none⟩), .int .i64 y.id, .func (.func k) #[] #[]] w fun v w' => ∃ W2 x2, WOk x2 W2 ∧ S κ (wR wb pv x2 W2 (progA pv (progS d n) :: F)) w' ∧ Ph3 d n t s0 (outs ++ [y]) pend rest W2 := by
  obtain ⟨G, hG, hst, f, hs, hfn, hat, h3, h0, hin⟩ := h.pends y (List.mem_cons_self ..)
  have hy : y ∈ s0 := by rw [← h.all]; simp
  obtain ⟨hq1, hq2, hq3⟩ := h.sl.items y hy
  obtain ⟨b1, b2, b3⟩ := ph3_bounds h
  have hclk := h.clock
  have hseq := h.seq
  have hsl := h.sleep
  have hdy := hd y.seq
  have r0 : -1000000 ≤ f.get 0 ∧ f.get 0 ≤ 1000000 := by rw [h0]; omega
  have r3 : -1000000 ≤ f.get 3 ∧ f.get 3 ≤ 1000000 := by rw [h3]; omega
  have hb := Exec_S (k := k) (p := progS d n) (F := F) (pv := pv) H ok hG hs fun _ _ => okChild (d := d) (n := n) hn hfn (by omega) hin r0 r3 (by show W.clock ≤ _; omega) (by show W.seq ≤ _; omega) (by show W.sleep.length ≤ _; rw [hsl]; omega) rfl
  refine Calls.mono hb fun e w' he => ?_
  obtain ⟨v, he, x1, ok1, H1⟩ := he
  have hem := ph3_emit hn h hG hs hfn hat h3 hst
  rw [hem] at ok1 H1
  refine ⟨v, he, _, x1, ok1, H1, fun {κ2 w2 F2} HH => ?_⟩
  have hlt := (List.getElem?_eq_some_iff.1 hG).1
  have hG1 : (W.gs.set y.id { G with s := [{ f with at_ := f.at_ + 1 }] })[y.id]? = some { G with s := [{ f with at_ := f.at_ + 1 }] } := List.getElem?_set_self hlt
  have hb2 := Exec_S (k := k) (p := progS d n) (F := F2) (pv := pv) HH ok1 hG1 rfl fun _ _ => okChild (d := d) (n := n) hn hfn (by show 0 ≤ f.at_ + 1 ∧ f.at_ + 1 ≤ 9; omega) hin r0 r3 (by show W.clock ≤ _; omega) (by show W.seq ≤ _; omega) (by show W.sleep.length ≤ _; rw [hsl]; omega) rfl
  refine Calls.mono hb2 fun e2 w3 he2 => ?_
  obtain ⟨v2, he2, x2, ok2, H2⟩ := he2
  have hre := ph3_ret (p := progS d n) (W := { W with ready := [], gs := W.gs.set y.id { G with s := [{ f with at_ := f.at_ + 1 }] }, out := W.out ++ [(y.seq : Int)] }) (G := { G with s := [{ f with at_ := f.at_ + 1 }] }) (f := { f with at_ := f.at_ + 1 }) (g := y.id) (by omega) h.calm.end_ hG1 rfl (by show (progS d n).funcs[f.fn.toNat]? = _; rw [hfn]; rfl) (by show f.at_ + 1 = 9; omega) hst
  rw [hre] at ok2 H2
  simp only [List.set_set] at ok2 H2
  exact ⟨v2, he2, _, x2, ok2, H2, ph3_next h⟩

theorem rswap {A B : Asn} (H : S κ (wR wb pv x W (A :: B :: F)) w) : S κ (wR wb pv x W (B :: A :: F)) w :=
  ((((((((((H.mv 9).mv 10).mv 10).mv 10).mv 10).mv 10).mv 10).mv 10).mv 10).mv 10).mv 10
theorem drop_late {c : Nat} : ∀ {l : List HItem}, l.Pairwise (fun x y => x.before y = true) → ∀ y ∈ l.dropWhile (fun y => decide (y.at_ ≤ c)), c < y.at_
  | [], _, y, hy => by simp at hy
  | x :: l, hp, y, hy => by
    obtain ⟨h1, h2⟩ := List.pairwise_cons.1 hp
    by_cases hx : x.at_ ≤ c
    · rw [List.dropWhile_cons_of_pos (by simpa using hx)] at hy
      exact drop_late h2 y hy
    · rw [List.dropWhile_cons_of_neg (by simpa using hx)] at hy
      rcases List.mem_cons.1 hy with rfl | hy
      · omega
      · have := h1 y hy
        simp only [HItem.before, Bool.or_eq_true, Bool.and_eq_true, decide_eq_true_eq] at this
        omega
theorem law_T {a : Option Addr} {len cap : Nat} {zs : List Int} (hin : Inp κ a len zs) (hlen : len ≤ 9223372036854775807) (H : S κ [ro (heapF κ)] w) :
    T Try.prog 3 [.slice a len cap] w fun v w' => v = .bool true ∧ S κ [ro (heapF κ)] w' := by
  refine T.of Try.func3 sl3 rfl ?_
  simp -dsimp (disch := omega) only [s3, xr, xo, xv]
  refine T.call (awake_T H) ?_
  rintro v w1 ⟨rfl, H⟩
  obtain ⟨n, hn, hnl, hn20⟩ : ∃ n : Nat, (if (20 : Int) < (len : Int) then (20 : Int) else (len : Int)) = (n : Int) ∧ n ≤ len ∧ n ≤ 20 := by
    by_cases h : (20 : Int) < len
    · exact ⟨20, by rw [if_pos h]; rfl, by omega, by omega⟩
    · exact ⟨len, by rw [if_neg h], by omega, by omega⟩
  simp -dsimp (disch := omega) only [xr, xo, xv, Bool.not_true, hn]
  clear hn
  refine H.bs fun mb w2 H2 => ?_
  simp -dsimp (disch := omega) only [xr, xo, xv]
  have H3 : S κ [sle 4 encIns (.slice (some ⟨mb, 0, none⟩) 0 0) (pairs (dur zs) 0), ro (heapF κ)] w2 := H2.slc_mk rfl
  refine ⟨fun e w => ∃ (i : Nat) (mv : Value), e 0 = .slice a len cap ∧ e 3 = .int .i64 n ∧ e 4 = mv ∧ e 23 = .int .i64 n ∧ e 24 = .int .i64 i ∧ i ≤ n ∧ S κ [sle 4 encIns mv (pairs (dur zs) i), ro (heapF κ)] w, fun e _ => n - inat (e 24),
    ⟨0, _, by simp -dsimp (disch := omega) only [xr], by simp -dsimp (disch := omega) only [xr], by simp -dsimp (disch := omega) only [xr], by simp -dsimp (disch := omega) only [xr], by simp -dsimp (disch := omega) only [xr]; rfl, by omega, H3⟩, ?_⟩
  rintro e w3 ⟨i, mv, e0, e3, e4, e23, e24, hi, H4⟩
  by_cases hlt : i < n
  · have d1 : decide ((i : Int) < n) = true := decide_eq_true (by omega)
    obtain ⟨xa, rfl, hca⟩ := hin i (by omega)
    have hcell := S.ro_cell (h := heapF κ) H4 1 rfl hca
    have hq : ((t8 (zs.getD i 0) : Nat) : Int).tmod 30 = ((t8 (zs.getD i 0) % 30 : Nat) : Int) := rem_nat _ 30
    simp -dsimp (disch := omega) only [xr, xo, xv, e0, e3, e4, e23, e24, d1, hcell, t8_and, hq]
    refine H4.bs fun b w4 H5 => ?_
    simp -dsimp (disch := omega) only [xr, xo, xv, e0, e3, e4, e23, e24]
    have hD : (1 + ((t8 (zs.getD i 0) % 30 : Nat) : Int) + 1000 * (i : Int)) = ((dur zs i + 1000 * i : Nat) : Int) := by unfold dur; omega
    rw [hD] at H5
    have H5 : S κ [sle 4 encIns (.slice (some ⟨b, 0, none⟩) 2 2) [⟨1, 1, ((dur zs i + 1000 * i : Nat) : Int), 0⟩, ⟨11, 1, 1, 2⟩], sle 4 encIns mv (pairs (dur zs) i), ro (heapF κ)] w4 := H5.slc_mk (esz := 4) rfl
    refine H5.sle_apps 1 0 rfl rfl encIns_len encIns_all (by rfl) (by decide) (by rw [pairs_len]; simp; omega) fun mv' w5 H6 => ?_
    simp -dsimp (disch := omega) only [xr, xo, xv, e24]
    refine ⟨⟨i + 1, mv', e0, e3, rfl, e23, by simp, by omega, ?_⟩, ?_⟩
    · rw [pairs_succ]; exact H6.drop
    · simp only [inat_int]; omega
  · have d1 : decide ((i : Int) < n) = false := decide_eq_false (by omega)
    obtain rfl : i = n := by omega
    obtain ⟨ma, mc, hmv, _⟩ := H4.sle_form 0 rfl encIns_len (by decide)
    rw [pairs_len] at hmv
    subst hmv
    simp -dsimp (disch := omega) only [xr, xo, xv, e0, e3, e4, e23, e24, d1]
    refine H4.bs fun b w4 H5 => ?_
    simp -dsimp (disch := omega) only [xr, xo, xv, e0, e3, e4, e23, e24]
    have H5 : S κ [sle 4 encIns (.slice (some ⟨b, 0, none⟩) 2 2) [⟨12, 0, 0, 0⟩, ⟨7, ((2 * i : Nat) : Int), 0, 0⟩], sle 4 encIns (.slice ma (2 * i) mc) (pairs (dur zs) i), ro (heapF κ)] w4 := H5.slc_mk (esz := 4) rfl
    refine H5.sle_apps 1 0 rfl rfl encIns_len encIns_all (by rfl) (by decide) (by rw [pairs_len]; simp; omega) fun mv w5 H6 => ?_
    simp -dsimp (disch := omega) only [xr, xo, xv, e0, e3, e4, e23, e24]
    have H6 : S κ [sle 4 encIns mv (mainC (dur zs) i), ro (heapF κ)] w5 := H6.drop
    refine H6.bs fun cb w6 H7 => ?_
    simp -dsimp (disch := omega) only [xr, xo, xv, e0, e3, e4, e23, e24]
    have H7 : S κ [sle 4 encIns (.slice (some ⟨cb, 0, none⟩) 10 10) childC, sle 4 encIns mv (mainC (dur zs) i), ro (heapF κ)] w6 := H7.slc_mk (esz := 4) rfl
    have hmv1 := H7.slc_one (v := mv) 1 rfl
    simp -dsimp (disch := omega) only [xr, xo, xv, hmv1.1]
    refine H7.bs fun fb w7 H8 => ?_
    simp -dsimp (disch := omega) only [xr, xo, xv]
    have H8 : S κ (sle 1 encVal (.slice (some ⟨fb, 0, none⟩) 2 2) [mv, .slice (some ⟨cb, 0, none⟩) 10 10] :: (List.zipWith (fun v f => sle 4 encIns v f) [mv, .slice (some ⟨cb, 0, none⟩) 10 10] [mainC (dur zs) i, childC] ++ [ro (heapF κ)])) w7 := (S.slc_mk (esz := 1) (H8.imp fun h s => star_tail (fun h s => star_swap s) s) rfl)
    have H9 : S κ (progA ⟨.slice (some ⟨fb, 0, none⟩) 2 2, .slice none 0 0, 0, .slice none 0 0, [mv, .slice (some ⟨cb, 0, none⟩) 10 10]⟩ (progS (dur zs) i) :: [ro (heapF κ)]) w7 := progOf H8 rfl
    generalize hpv : (⟨.slice (some ⟨fb, 0, none⟩) 2 2, .slice none 0 0, 0, .slice none 0 0, [mv, .slice (some ⟨cb, 0, none⟩) 10 10]⟩ : PV) = pv at H9
    have hb := New0_T H9 rfl (by rw [← hpv])
    rw [show ([pv.fv, pv.cv, .int .i64 pv.locks, pv.kv] : List Value) = [.slice (some ⟨fb, 0, none⟩) 2 2, .slice none 0 0, .int .i64 0, .slice none 0 0] by rw [← hpv]] at hb
    refine T.call hb ?_
    clear hb
    rintro v w8 ⟨wb, x, rfl, ok, HA⟩
    simp -dsimp (disch := omega) only [xr, xo, xv, e0, e3]
    clear hpv H5 H6 H7 H8 H9 hmv1
    refine ⟨fun e w => ∃ (j : Nat) (W : Wd) (x : Lay), e 0 = .slice a len cap ∧ e 3 = .int .i64 i ∧ e 7 = .pointer (some ⟨wb, 0, none⟩) ∧ e 8 = .func (.func 6) #[] #[] ∧ e 67 = .int .i64 (2 * (i : Int)) ∧ e 68 = .int .i64 j ∧ j ≤ 2 * i ∧ Ph1 (dur zs) j W ∧ WOk x W ∧ S κ (wR wb pv x W [progA pv (progS (dur zs) i), ro (heapF κ)]) w, fun e _ => 2 * i - inat (e 68),
      ⟨0, newW, x, by simp -dsimp (disch := omega) only [xr, e0], by simp -dsimp (disch := omega) only [xr, e3], by simp -dsimp (disch := omega) only [xr], by simp -dsimp (disch := omega) only [xr], by simp -dsimp (disch := omega) only [xr], by simp -dsimp (disch := omega) only [xr]; rfl, by omega, ph1_new _, ok, HA⟩, ?_⟩
    rintro e w9 ⟨j, W, x, e0, e3, e7, e8, e67, e68, hj, hph, ok, HB⟩
    by_cases hjn : j < 2 * i
    · have d2 : decide ((j : Int) < 2 * (i : Int)) = true := decide_eq_true (by omega)
      simp -dsimp (disch := omega) only [xr, xo, xv, e0, e3, e7, e8, e67, e68, d2]
      refine T.call (main_T (dur_le zs) hn20 hjn HB ok hph) ?_
      rintro v w10 ⟨W', x', ok', hph', HC⟩
      simp -dsimp (disch := omega) only [xr, xo, xv, e68]
      refine ⟨⟨j + 1, W', x', e0, e3, e7, e8, e67, by simp, by omega, hph', ok', HC⟩, ?_⟩
      simp only [inat_int]; omega
    · have d2 : decide ((j : Int) < 2 * (i : Int)) = false := decide_eq_false (by omega)
      obtain rfl : j = 2 * i := by omega
      simp -dsimp (disch := omega) only [xr, xo, xv, e0, e3, e7, e8, e67, e68, d2]
      have hp2 := ph2_start hph
      refine ⟨fun e w => ∃ (g : Nat) (W : Wd) (x : Lay), e 0 = .slice a len cap ∧ e 3 = .int .i64 i ∧ e 7 = .pointer (some ⟨wb, 0, none⟩) ∧ e 8 = .func (.func 6) #[] #[] ∧ e 9 = .int .i64 (g + 1 : Nat) ∧ g ≤ i ∧ Ph2 (dur zs) i g W ∧ WOk x W ∧ S κ (wR wb pv x W [progA pv (progS (dur zs) i), ro (heapF κ)]) w, fun e _ => i + 1 - inat (e 9),
        ⟨0, W, x, by simp -dsimp (disch := omega) only [xr, e0], by simp -dsimp (disch := omega) only [xr, e3], by simp -dsimp (disch := omega) only [xr, e7], by simp -dsimp (disch := omega) only [xr, e8], by simp -dsimp (disch := omega) only [xr]; rfl, by omega, hp2, ok, HB⟩, ?_⟩
      clear hph hp2 ok HB e0 e3 e7 e8 e67 e68
      rintro e w11 ⟨g, W, x, e0, e3, e7, e8, e9, hg, hph, ok, HC⟩
      by_cases hgn : g < i
      · have d3 : decide (((g + 1 : Nat) : Int) ≤ (i : Int)) = true := decide_eq_true (by omega)
        simp -dsimp (disch := omega) only [xr, xo, xv, e0, e3, e7, e8, e9, d3]
        refine ⟨fun e w => ∃ (c : Nat) (W : Wd) (x : Lay), e 0 = .slice a len cap ∧ e 3 = .int .i64 i ∧ e 7 = .pointer (some ⟨wb, 0, none⟩) ∧ e 8 = .func (.func 6) #[] #[] ∧ e 9 = .int .i64 (g + 1 : Nat) ∧ e 79 = .int .i64 c ∧ c ≤ 300 ∧ Inn (dur zs) i g c W ∧ WOk x W ∧ S κ (wR wb pv x W [progA pv (progS (dur zs) i), ro (heapF κ)]) w, fun e _ => 300 - inat (e 79),
          ⟨0, W, x, by simp -dsimp (disch := omega) only [xr, e0], by simp -dsimp (disch := omega) only [xr, e3], by simp -dsimp (disch := omega) only [xr, e7], by simp -dsimp (disch := omega) only [xr, e8], by simp -dsimp (disch := omega) only [xr, e9], by simp -dsimp (disch := omega) only [xr]; rfl, by omega, inn_start hn20 hgn hph, ok, HC⟩, ?_⟩
        clear hph ok HC
        rintro e' w12 ⟨c, W, x, e0, e3, e7, e8, e9', e79, hc, hin2, ok, HD⟩
        by_cases hcl : c < 300
        · have d4 : decide ((c : Int) < 300) = true := decide_eq_true (by omega)
          simp -dsimp (disch := omega) only [xr, xo, xv, e0, e3, e7, e8, e9', e79, d4]
          refine T.call (child_T (dur_le zs) hn20 hgn hcl HD ok hin2) ?_
          rintro v w13 ⟨W', x', ok', hin3, HE⟩
          simp -dsimp (disch := omega) only [xr, xo, xv, e79]
          refine ⟨⟨c + 1, W', x', e0, e3, e7, e8, e9', by simp, by omega, hin3, ok', HE⟩, ?_⟩
          simp only [inat_int]; omega
        · have d4 : decide ((c : Int) < 300) = false := decide_eq_false (by omega)
          obtain rfl : c = 300 := by omega
          have hb1 : IntKind.wrap .i64 (((g + 1 : Nat) : Int) + 1) = ((g + 1 + 1 : Nat) : Int) := by rw [wrap_i64 (by omega) (by omega)]; omega
          simp -dsimp (disch := omega) only [hb1, xr, xo, xv, e9', e79, d4]
          refine ⟨⟨g + 1, W, x, e0, e3, e7, e8, rfl, by omega, inn_end hin2, ok, HD⟩, ?_⟩
          simp only [inat_int]; omega
      · have d3 : decide (((g + 1 : Nat) : Int) ≤ (i : Int)) = false := decide_eq_false (by omega)
        obtain rfl : g = i := by omega
        simp -dsimp (disch := omega) only [xr, xo, xv, e0, e3, e7, e8, e9, d3]
        have hp3 := ph3_start hph
        have hlate : ∀ y ∈ W.sleep, 0 < y.at_ := fun y hy => by
          obtain ⟨_, _, h3⟩ := hph.sl.items y hy
          have := dur_le zs y.seq
          omega
        generalize hs0 : W.sleep = s0 at hp3 hlate
        refine ⟨fun e w => ∃ (t : Nat) (outs rest : List HItem) (W : Wd) (x : Lay), e 0 = .slice a len cap ∧ e 3 = .int .i64 g ∧ e 7 = .pointer (some ⟨wb, 0, none⟩) ∧ e 8 = .func (.func 6) #[] #[] ∧ e 86 = .int .i64 t ∧ t ≤ 31 ∧ (∀ y ∈ rest, t < y.at_) ∧ Ph3 (dur zs) g t s0 outs [] rest W ∧ WOk x W ∧ S κ (wR wb pv x W [progA pv (progS (dur zs) g), ro (heapF κ)]) w, fun e _ => 31 - inat (e 86),
          ⟨0, [], s0, W, x, by simp -dsimp (disch := omega) only [xr, e0], by simp -dsimp (disch := omega) only [xr, e3], by simp -dsimp (disch := omega) only [xr, e7], by simp -dsimp (disch := omega) only [xr, e8], by simp -dsimp (disch := omega) only [xr]; rfl, by omega, hlate, hp3, ok, HC⟩, ?_⟩
        clear hph hp3 ok HC hs0 hlate
        rintro e' w12 ⟨t, outs, rest, W, x, e0, e3, e7, e8, e86, ht, hlate, hp3, ok, HD⟩
        by_cases htl : t < 31
        · have d4 : decide ((t : Int) < 31) = true := decide_eq_true (by omega)
          simp -dsimp (disch := omega) only [xr, xo, xv, e0, e3, e7, e8, e86, d4]
          refine T.call (Tick_T HD ok (fun y hy => by
            rw [hp3.sleep] at hy
            obtain ⟨G, hG, _⟩ := hp3.rests y hy
            exact (List.getElem?_eq_some_iff.1 hG).1) (by rw [hp3.clock]; omega)) ?_
          rintro v w13 ⟨x1, ok1, HE⟩
          obtain ⟨hp4, hrd⟩ := ph3_tick hn20 hp3
          have hlate2 : ∀ y ∈ rest.dropWhile (fun y => decide (y.at_ ≤ t + 1)), t + 1 < y.at_ := drop_late (by
            have h1 := hp3.sl.sorted
            rw [← hp3.all] at h1
            simp only [List.nil_append] at h1
            exact (List.pairwise_append.1 h1).2.1)
          rw [hrd] at HE
          generalize (rest.takeWhile fun y => decide (y.at_ ≤ t + 1)) = pend at hp4 HE
          generalize (rest.dropWhile fun y => decide (y.at_ ≤ t + 1)) = rest2 at hp4 hlate2
          generalize tickW W = W1 at hp4 HE ok1
          have HE := rswap HE
          obtain ⟨va, vc, rfl, _⟩ := S.sle_at1 (v := v) (xs := pend.map (·.id)) HE 10 rfl encNat_len
          rw [List.length_map] at HE
          simp -dsimp (disch := omega) only [xr, xo, xv, e0, e3, e7, e8, e86, List.length_map]
          refine ⟨fun e w => ∃ (k : Nat) (don todo : List HItem) (W : Wd) (x : Lay), e 0 = .slice a len cap ∧ e 3 = .int .i64 g ∧ e 7 = .pointer (some ⟨wb, 0, none⟩) ∧ e 8 = .func (.func 6) #[] #[] ∧ e 86 = .int .i64 t ∧ e 89 = .slice va pend.length vc ∧ e 90 = .int .i64 pend.length ∧ e 91 = .int .i64 k ∧ pend = don ++ todo ∧ k = don.length ∧ Ph3 (dur zs) g (t + 1) s0 (outs ++ don) todo rest2 W ∧ WOk x W ∧ S κ (wR wb pv x W [progA pv (progS (dur zs) g), sle 1 encNat (.slice va pend.length vc) (pend.map (·.id)), ro (heapF κ)]) w, fun e _ => pend.length - inat (e 91),
            ⟨0, [], pend, W1, x1, by simp -dsimp (disch := omega) only [xr, e0], by simp -dsimp (disch := omega) only [xr, e3], by simp -dsimp (disch := omega) only [xr, e7], by simp -dsimp (disch := omega) only [xr, e8], by simp -dsimp (disch := omega) only [xr, e86], by simp -dsimp (disch := omega) only [xr], by simp -dsimp (disch := omega) only [xr], by simp -dsimp (disch := omega) only [xr]; rfl, rfl, rfl, by rw [List.append_nil]; exact hp4, ok1, HE⟩, ?_⟩
          obtain ⟨_, hpl, _⟩ := ph3_bounds hp4
          clear hp4 ok1 HE
          rintro e'' w14 ⟨k, don, todo, W, x, e0, e3, e7, e8, e86', e89, e90, e91, hpd, hk, hp5, ok, HF⟩
          rcases todo with _ | ⟨y, todo⟩
          · have hkl : k = pend.length := by rw [hk, hpd]; simp
            have d5 : decide ((k : Int) < pend.length) = false := decide_eq_false (by omega)
            simp -dsimp (disch := omega) only [xr, xo, xv, e86', e90, e91, d5]
            refine ⟨⟨t + 1, outs ++ don, rest2, W, x, e0, e3, e7, e8, by simp, by omega, hlate2, hp5, ok, (rswap HF |> rpop).drop⟩, ?_⟩
            simp only [inat_int]; omega
          · have hkl : k < pend.length := by rw [hk, hpd]; simp
            have d5 : decide ((k : Int) < pend.length) = true := decide_eq_true (by omega)
            obtain ⟨va', vc', hv1, hrow⟩ := S.sle_at1 (v := .slice va pend.length vc) (xs := pend.map (·.id)) HF 10 rfl encNat_len
            rw [List.length_map] at hv1
            cases hv1
            have hyk : (pend.map (·.id))[k]? = some y.id := by rw [hpd, hk]; simp
            obtain ⟨vb, rfl, hcell⟩ := hrow k _ hyk
            have hcell : w14.cell? ⟨vb, k, none⟩ = some (.int .i64 y.id) := hcell
            simp -dsimp (disch := omega) only [xr, xo, xv, e0, e3, e7, e8, e86', e89, e90, e91, d5, hcell]
            refine T.call (woken_T (dur_le zs) hn20 (by omega) HF ok hp5) ?_
            rintro v w15 ⟨W2, x2, ok2, HG, hsecond⟩
            simp -dsimp (disch := omega) only [xr, xo, xv, e7, e8]
            refine T.call (hsecond HG) ?_
            rintro v w16 ⟨W3, x3, ok3, HH, hp6⟩
            simp -dsimp (disch := omega) only [xr, xo, xv, e91]
            refine ⟨⟨k + 1, don ++ [y], todo, W3, x3, e0, e3, e7, e8, e86', e89, e90, by simp, by rw [hpd]; simp, by rw [hk]; simp, by rw [← List.append_assoc]; exact hp6, ok3, HH⟩, ?_⟩
            simp only [inat_int]; omega
        · have d4 : decide ((t : Int) < 31) = false := decide_eq_false (by omega)
          obtain rfl : t = 31 := by omega
          simp -dsimp (disch := omega) only [xr, xo, xv, e0, e3, e7, e8, e86, d4]
          obtain ⟨hr0, ho0⟩ := ph3_end (fun i => (dur_le zs i).2) hp3 hlate
          subst hr0
          subst ho0
          have hol : W.out.length = g := by rw [hp3.out, List.length_map]; exact hp3.sl.len
          refine T.call (Out_T HD (by omega)) ?_
          intro v w13 HE
          obtain ⟨oa, oc, rfl, _⟩ := S.sle_at1 (v := v) (xs := W.out) HE 0 rfl encInt_len
          rw [hol] at HE
          simp -dsimp (disch := omega) only [xr, xo, xv, e0, e3, e7, e8, hol]
          have hso := hp3.sl
          have hout := hp3.out
          have hgl := hso.len
          generalize hOU : W.out = ou at HE hout
          have hget : ∀ k (y : HItem), outs[k]? = some y → ou[k]? = some ((y.seq : Nat) : Int) := fun k y hy => by rw [hout, List.getElem?_map, hy]; rfl
          refine ⟨fun e w => ∃ (k : Nat) (last : Int), e 0 = .slice a len cap ∧ e 3 = .int .i64 g ∧ e 7 = .pointer (some ⟨wb, 0, none⟩) ∧ e 12 = .slice oa g oc ∧ e 13 = .int .i64 last ∧ e 107 = .slice oa g oc ∧ e 108 = .int .i64 g ∧ e 109 = .int .i64 k ∧ k ≤ g ∧ (k = 0 → last = -1) ∧ (∀ y, 0 < k → outs[k - 1]? = some y → last = (dur zs y.seq : Nat)) ∧ S κ (sle 1 encInt (.slice oa g oc) ou :: wR wb pv x W [progA pv (progS (dur zs) g), ro (heapF κ)]) w, fun e _ => g - inat (e 109),
            ⟨0, -1, by simp -dsimp (disch := omega) only [xr, e0], by simp -dsimp (disch := omega) only [xr, e3], by simp -dsimp (disch := omega) only [xr, e7], by simp -dsimp (disch := omega) only [xr], by simp -dsimp (disch := omega) only [xr], by simp -dsimp (disch := omega) only [xr], by simp -dsimp (disch := omega) only [xr], by simp -dsimp (disch := omega) only [xr]; rfl, by omega, fun _ => rfl, fun _ h => by omega, HE⟩, ?_⟩
          clear HE
          rintro e'' w14 ⟨k, last, e0, e3, e7, e12, e13, e107, e108, e109, hk, hl0, hl1, HF⟩
          by_cases hkl : k < g
          · have d5 : decide ((k : Int) < g) = true := decide_eq_true (by omega)
            obtain ⟨y, hy⟩ : ∃ y, outs[k]? = some y := ⟨_, List.getElem?_eq_getElem (by omega)⟩
            obtain ⟨hq1, hq2, hq3⟩ := hso.items y (List.mem_of_getElem? hy)
            obtain ⟨oa', oc', hv1, hrow⟩ := S.sle_at1 (v := .slice oa g oc) (xs := ou) HF 0 rfl encInt_len
            rw [show ou.length = g from by rw [← hOU]; exact hol] at hv1
            cases hv1
            obtain ⟨ob, rfl, hc1⟩ := hrow k _ (hget k y hy)
            have hc1 : w14.cell? ⟨ob, k, none⟩ = some (.int .i64 (y.seq : Nat)) := hc1
            obtain ⟨xa, rfl, hca⟩ := hin y.seq (by omega)
            have hc2 := S.ro_cell (h := heapF κ) HF 11 rfl hca
            have hq : ((t8 (zs.getD y.seq 0) : Nat) : Int).tmod 30 = ((t8 (zs.getD y.seq 0) % 30 : Nat) : Int) := rem_nat _ 30
            have hD : (1 + ((t8 (zs.getD y.seq 0) % 30 : Nat) : Int)) = (dur zs y.seq : Nat) := by unfold dur; omega
            have hb := dur_le zs y.seq
            have fin : (∃ (j : Nat) (last : Int), True ∧ True ∧ True ∧ True ∧ Value.int .i64 (dur zs y.seq : Nat) = .int .i64 last ∧ True ∧ True ∧ Value.int .i64 ((k : Int) + 1) = .int .i64 j ∧ j ≤ g ∧ (j = 0 → last = -1) ∧ (∀ y, 0 < j → outs[j - 1]? = some y → last = (dur zs y.seq : Nat)) ∧ S κ (sle 1 encInt (.slice (some ⟨ob, 0, none⟩) g oc) ou :: wR wb pv x W [progA pv (progS (dur zs) g), ro (heapF κ)]) w14) ∧ g - inat (.int .i64 ((k : Int) + 1)) < g - inat (.int .i64 (k : Int)) := by
              refine ⟨⟨k + 1, _, trivial, trivial, trivial, trivial, rfl, trivial, trivial, by simp, by omega, fun h => by omega, fun z _ hz => ?_, HF⟩, by simp only [inat_int]; omega⟩
              rw [Nat.add_sub_cancel, hy] at hz; cases hz; rfl
            by_cases hk0 : k = 0
            · subst hk0
              have hl := hl0 rfl
              subst hl
              have d6 : decide (((dur zs y.seq : Nat) : Int) < -1) = false := decide_eq_false (by omega)
              have d7 : decide ((0 : Int) < ((0 : Nat) : Int)) = false := rfl
              simp -dsimp (disch := omega) only [xr, xo, xv, e0, e3, e7, e12, e13, e107, e108, e109, d5, hc1, hc2, t8_and, hq, hD, d6, d7]
              exact fin
            · obtain ⟨z, hz⟩ : ∃ z, outs[k - 1]? = some z := ⟨_, List.getElem?_eq_getElem (by omega)⟩
              have hl := hl1 z (by omega) hz
              subst hl
              obtain ⟨hz1, hz2, hz3⟩ := hso.items z (List.mem_of_getElem? hz)
              obtain ⟨hzl, hze⟩ := List.getElem?_eq_some_iff.1 hz
              obtain ⟨hyl, hye⟩ := List.getElem?_eq_some_iff.1 hy
              have hbef := List.pairwise_iff_getElem.1 hso.sorted (k - 1) k hzl hyl (by omega)
              rw [hze, hye] at hbef
              simp only [HItem.before, Bool.or_eq_true, Bool.and_eq_true, decide_eq_true_eq] at hbef
              rw [hq3, hz3] at hbef
              obtain ⟨ob', hob, hc3⟩ := hrow (k - 1) _ (hget (k - 1) z hz)
              cases hob
              have hc3 : w14.cell? ⟨ob, k - 1, none⟩ = some (.int .i64 (z.seq : Nat)) := hc3
              have hk1 : ((k : Int) - 1).toNat = k - 1 := by omega
              have d6 : decide (((dur zs y.seq : Nat) : Int) < ((dur zs z.seq : Nat) : Int)) = false := decide_eq_false (by omega)
              have d7 : decide ((0 : Int) < (k : Int)) = true := decide_eq_true (by omega)
              by_cases heq : dur zs y.seq = dur zs z.seq
              · have d8 : decide (((dur zs y.seq : Nat) : Int) = ((dur zs z.seq : Nat) : Int)) = true := decide_eq_true (by omega)
                have d9 : decide (((y.seq : Nat) : Int) ≤ ((z.seq : Nat) : Int)) = false := decide_eq_false (by omega)
                simp -dsimp (disch := omega) only [xr, xo, xv, e0, e3, e7, e12, e13, e107, e108, e109, d5, hc1, hc2, t8_and, hq, hD, d6, d7, d8, hk1, hc3, d9]
                exact fin
              · have d8 : decide (((dur zs y.seq : Nat) : Int) = ((dur zs z.seq : Nat) : Int)) = false := decide_eq_false (by omega)
                simp -dsimp (disch := omega) only [xr, xo, xv, e0, e3, e7, e12, e13, e107, e108, e109, d5, hc1, hc2, t8_and, hq, hD, d6, d7, d8]
                exact fin
          · have d5 : decide ((k : Int) < g) = false := decide_eq_false (by omega)
            have d6 : decide ((g : Int) = (g : Int)) = true := decide_eq_true rfl
            simp -dsimp (disch := omega) only [xr, xo, xv, e0, e3, e7, e12, e13, e107, e108, e109, d5, d6, decide_true]
            have hb := Sleepers_T HF.drop ok
            refine T.call hb ?_
            clear hb
            intro v w15 HG
            rw [hp3.sleep] at HG
            obtain ⟨sa, sc, rfl, _⟩ := S.sle_form (v := v) (xs := ([] : List HItem)) HG 0 rfl encItem_len (by decide)
            have d7 : decide (((0 : Nat) : Int) = 0) = true := rfl
            simp -dsimp (disch := omega) only [xr, xo, xv, List.length_nil, d7, decide_true]
            exact ⟨trivial, HG.drop.drop.drop.drop.drop.drop.drop.drop.drop.drop.drop⟩
end Go.Proofs.Ytojbbajmldbffaa
