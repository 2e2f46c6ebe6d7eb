/- Who sleeps wakes in time: the plain part. -/
import Derived.Test.YtojbbajmldbffaaExecW
set_option linter.unusedSimpArgs false
set_option linter.unusedVariables false
set_option maxRecDepth 20000
set_option maxHeartbeats 2000000
namespace Go.Proofs.Ytojbbajmldbffaa
open Go.Shu

def pairs (d : Nat → Nat) (n : Nat) : List Ins := (List.range n).flatMap fun i => [⟨1, 1, ((d i + 1000 * i : Nat) : Int), 0⟩, ⟨11, 1, 1, 2⟩]
def mainC (d : Nat → Nat) (n : Nat) : List Ins := pairs d n ++ [⟨12, 0, 0, 0⟩, ⟨7, ((2 * n : Nat) : Int), 0, 0⟩]
def childC : List Ins := [⟨1, 1, 1000, 0⟩, ⟨6, 2, 0, 1⟩, ⟨8, 2, 7, 0⟩, ⟨4, 0, 0, 1⟩, ⟨1, 4, 1, 0⟩, ⟨3, 3, 3, 4⟩, ⟨7, 1, 0, 0⟩, ⟨17, 0, 0, 0⟩, ⟨20, 3, 0, 0⟩, ⟨10, 0, 0, 0⟩]
def progS (d : Nat → Nat) (n : Nat) : Prog := ⟨[mainC d n, childC], [], 0, []⟩
theorem pairs_len (d : Nat → Nat) (n : Nat) : (pairs d n).length = 2 * n := by
  induction n with
  | zero => rfl
  | succ n ih => unfold pairs at ih ⊢; rw [List.range_succ, List.flatMap_append, List.length_append, ih]; simp; omega
theorem pairs_succ (d : Nat → Nat) (n : Nat) : pairs d (n + 1) = pairs d n ++ [⟨1, 1, ((d n + 1000 * n : Nat) : Int), 0⟩, ⟨11, 1, 1, 2⟩] := by
  unfold pairs; rw [List.range_succ, List.flatMap_append]; simp
theorem pairs_get (d : Nat → Nat) : ∀ (n k : Nat), k < n → (pairs d n)[2 * k]? = some ⟨1, 1, ((d k + 1000 * k : Nat) : Int), 0⟩ ∧ (pairs d n)[2 * k + 1]? = some ⟨11, 1, 1, 2⟩
  | 0, k, h => by omega
  | n + 1, k, h => by
    rw [pairs_succ]
    by_cases hk : k < n
    · obtain ⟨h1, h2⟩ := pairs_get d n k hk
      rw [List.getElem?_append_left (by rw [pairs_len]; omega), List.getElem?_append_left (by rw [pairs_len]; omega)]
      exact ⟨h1, h2⟩
    · have : k = n := by omega
      subst this
      rw [List.getElem?_append_right (by rw [pairs_len]; omega), List.getElem?_append_right (by rw [pairs_len]; omega), pairs_len]
      simp
theorem main_get (d : Nat → Nat) (n k : Nat) (h : k < n) : (mainC d n)[2 * k]? = some ⟨1, 1, ((d k + 1000 * k : Nat) : Int), 0⟩ ∧ (mainC d n)[2 * k + 1]? = some ⟨11, 1, 1, 2⟩ := by
  unfold mainC
  rw [List.getElem?_append_left (by rw [pairs_len]; omega), List.getElem?_append_left (by rw [pairs_len]; omega)]
  exact pairs_get d n k h

def child0 (d : Nat → Nat) (i : Nat) : Gor := ⟨1, [begin1 1 ((d i + 1000 * i : Nat) : Int)], noIns⟩

/-- One Exec of one that can go on, by the instruction at which it stands. -/
theorem execW_pure {p : Prog} {W : Wd} {g : Nat} {G : Gor} {f h : Fr} {code : List Ins} {i : Ins} (he : W.end_ = 0) (hg : W.gs[g]? = some G) (hst : G.status = 1) (hs : G.s = [f]) (hc : p.funcs[f.fn.toNat]? = some code) (hi : code[f.at_.toNat]? = some i) (hp : pureOp { f with at_ := f.at_ + 1 } i = some h) :
    (execW p W g G f).1 = { W with ready := [], gs := W.gs.set g { G with s := [h] } } := by
  unfold execW
  rw [if_neg (by simp [he, hst])]
  unfold doW
  simp only [hc, Option.bind_some, hi, hp, hs]
  rfl
theorem execW_deed {p : Prog} {W W' : Wd} {g : Nat} {G : Gor} {f : Fr} {code : List Ins} {i : Ins} (he : W.end_ = 0) (hg : W.gs[g]? = some G) (hst : G.status = 1) (hs : G.s = [f]) (hc : p.funcs[f.fn.toNat]? = some code) (hi : code[f.at_.toNat]? = some i) (hp : pureOp { f with at_ := f.at_ + 1 } i = none)
    (hd : deed { W with ready := [], gs := W.gs.set g { G with s := [{ f with at_ := f.at_ + 1 }] } } g { G with s := [{ f with at_ := f.at_ + 1 }] } { f with at_ := f.at_ + 1 } i = .ok W') :
    (execW p W g G f).1 = W' := by
  unfold execW
  rw [if_neg (by simp [he, hst])]
  unfold doW
  simp only [hc, Option.bind_some, hi, hp, hs, List.length_singleton, Nat.sub_self, List.set_cons_zero]
  rw [hd]

/-- What always holds here. -/
structure Calm (W : Wd) : Prop where
  end_ : W.end_ = 0
  chans : W.chans = []
  locks : W.locks = []

/-- Behind j of the first goroutine's instructions. -/
structure Ph1 (d : Nat → Nat) (j : Nat) (W : Wd) : Prop where
  calm : Calm W
  clock : W.clock = 0
  sleep : W.sleep = []
  seq : W.seq = 0
  out : W.out = []
  ready : W.ready.length ≤ 1
  gs : ∃ fm wt, W.gs = ⟨1, [fm], wt⟩ :: (List.range (j / 2)).map (child0 d) ∧ fm.fn = 0 ∧ fm.at_ = j ∧ fm.into = 0 ∧ (j % 2 = 1 → fm.get 1 = ((d (j / 2) + 1000 * (j / 2) : Nat) : Int))

theorem ph1_new (d : Nat → Nat) : Ph1 d 0 newW := ⟨⟨rfl, rfl, rfl⟩, rfl, rfl, rfl, rfl, by decide, ⟨begin1 0 0, noIns, rfl, rfl, rfl, rfl, fun h => by omega⟩⟩

theorem get_set (f : Fr) (a b v : Int) (ha : 0 ≤ a) (hb : 0 ≤ b) : (f.set a v).get b = if b = a then v else f.get b := by
  simp only [Fr.set, Fr.get, upr]
  by_cases h : b = a
  · rw [h]; simp
  · rw [if_neg h, if_neg (by omega)]

theorem ph1_even {d : Nat → Nat} {n j : Nat} {W : Wd} (hn : n ≤ 20) (hj : j < n) (h : Ph1 d (2 * j) W) : ∃ G f, W.gs[0]? = some G ∧ G.s = [f] ∧ G.status = 1 ∧ f.fn = 0 ∧ f.at_ = ((2 * j : Nat) : Int) ∧ f.into = 0 ∧ Ph1 d (2 * j + 1) (execW (progS d n) W 0 G f).1 := by
  obtain ⟨fm, wt, hgs, hfn, hat, hin, _⟩ := h.gs
  refine ⟨⟨1, [fm], wt⟩, fm, by rw [hgs]; rfl, rfl, rfl, hfn, hat, hin, ?_⟩
  have hx := execW_pure (p := progS d n) (W := W) (g := 0) (G := ⟨1, [fm], wt⟩) (f := fm) (code := mainC d n) (i := ⟨1, 1, ((d j + 1000 * j : Nat) : Int), 0⟩) h.calm.end_ (by rw [hgs]; rfl) rfl rfl (by rw [hfn]; rfl) (by rw [hat]; exact (main_get d n j hj).1) rfl
  rw [hx]
  refine ⟨⟨h.calm.end_, h.calm.chans, h.calm.locks⟩, h.clock, h.sleep, h.seq, h.out, by simp, ⟨({ fm with at_ := fm.at_ + 1 } : Fr).set 1 ((d j + 1000 * j : Nat) : Int), wt, ?_, hfn, ?_, hin, fun _ => ?_⟩⟩
  · show W.gs.set 0 _ = _
    rw [hgs, show (2 * j + 1) / 2 = 2 * j / 2 by omega]; rfl
  · show fm.at_ + 1 = _; rw [hat]; omega
  · rw [show (2 * j + 1) / 2 = j by omega]; rfl

theorem ph1_odd {d : Nat → Nat} {n j : Nat} {W : Wd} (hn : n ≤ 20) (hj : j < n) (h : Ph1 d (2 * j + 1) W) : ∃ G f, W.gs[0]? = some G ∧ G.s = [f] ∧ G.status = 1 ∧ f.fn = 0 ∧ f.at_ = ((2 * j + 1 : Nat) : Int) ∧ f.into = 0 ∧ Ph1 d (2 * (j + 1)) (execW (progS d n) W 0 G f).1 := by
  obtain ⟨fm, wt, hgs, hfn, hat, hin, hr⟩ := h.gs
  refine ⟨⟨1, [fm], wt⟩, fm, by rw [hgs]; rfl, rfl, rfl, hfn, hat, hin, ?_⟩
  have hr := hr (by omega)
  rw [show (2 * j + 1) / 2 = j by omega] at hr hgs
  have hlen : W.gs.length = j + 1 := by rw [hgs]; simp
  have hx := execW_deed (p := progS d n) (W := W) (g := 0) (G := ⟨1, [fm], wt⟩) (f := fm) (code := mainC d n) (i := ⟨11, 1, 1, 2⟩) h.calm.end_ (by rw [hgs]; rfl) rfl rfl (by rw [hfn]; rfl) (by rw [hat]; exact (main_get d n j hj).2) rfl
    (W' := { W with ready := [j + 1], gs := ⟨1, [({ fm with at_ := fm.at_ + 1 } : Fr).set 2 (j + 1 : Nat)], wt⟩ :: (List.range (j + 1)).map (child0 d) }) (by
      show spawnW _ _ _ _ = _
      unfold spawnW
      rw [if_neg (by simp [hlen]; omega)]
      have hg : fm.get 1 = ((d j + 1000 * j : Nat) : Int) := hr
      have hg2 : ({ fm with at_ := fm.at_ + 1 } : Fr).get 1 = ((d j + 1000 * j : Nat) : Int) := hg
      simp only [hg2]
      congr 1
      have hl2 : (W.gs.set 0 ⟨1, [{ fm with at_ := fm.at_ + 1 }], wt⟩).length = j + 1 := by simp [hlen]
      rw [hl2]
      have e1 : W.gs.set 0 ⟨1, [{ fm with at_ := fm.at_ + 1 }], wt⟩ = ⟨1, [{ fm with at_ := fm.at_ + 1 }], wt⟩ :: (List.range j).map (child0 d) := by rw [hgs]; rfl
      unfold Wd.setReg Wd.wake Wd.modG
      have e2 : ((⟨1, [{ fm with at_ := fm.at_ + 1 }], wt⟩ :: (List.range j).map (child0 d) ++ [(⟨0, [begin1 1 ((d j + 1000 * j : Nat) : Int)], noIns⟩ : Gor)]).modify (j + 1) fun G => { G with status := 1, waits := noIns }) = (⟨1, [{ fm with at_ := fm.at_ + 1 }], wt⟩ : Gor) :: (List.range (j + 1)).map (child0 d) := by
        rw [modify_set (a := ⟨0, [begin1 1 ((d j + 1000 * j : Nat) : Int)], noIns⟩) (by simp), List.range_succ, List.map_append]
        simp [child0]
      simp only [e1, e2, List.nil_append]
      rfl)
  rw [hx]
  refine ⟨⟨h.calm.end_, h.calm.chans, h.calm.locks⟩, h.clock, h.sleep, h.seq, h.out, by simp, ⟨({ fm with at_ := fm.at_ + 1 } : Fr).set 2 ((j + 1 : Nat) : Int), wt, ?_, hfn, ?_, hin, fun hh => by omega⟩⟩
  · rw [show 2 * (j + 1) / 2 = j + 1 by omega]
  · show fm.at_ + 1 = _; rw [hat]; omega

/-- A child that goes on: how many instructions are left until it sleeps, that one counted. -/
inductive CR (d i : Nat) (f : Fr) : Nat → Prop where
  | a0 : f.at_ = 0 → f.get 0 = ((d + 1000 * i : Nat) : Int) → f.get 3 = 0 → CR d i f (6 * i + 4)
  | a1 (m : Nat) : m ≤ i → f.at_ = 1 → f.get 0 = ((d + 1000 * m : Nat) : Int) → f.get 1 = 1000 → f.get 3 = ((i - m : Nat) : Int) → CR d i f (6 * m + 3)
  | a2 (m : Nat) : m ≤ i → f.at_ = 2 → f.get 0 = ((d + 1000 * m : Nat) : Int) → f.get 1 = 1000 → f.get 3 = ((i - m : Nat) : Int) → f.get 2 = (if m = 0 then 1 else 0) → CR d i f (6 * m + 2)
  | a3 (m : Nat) : m + 1 ≤ i → f.at_ = 3 → f.get 0 = ((d + 1000 * (m + 1) : Nat) : Int) → f.get 1 = 1000 → f.get 3 = ((i - (m + 1) : Nat) : Int) → CR d i f (6 * m + 7)
  | a4 (m : Nat) : m + 1 ≤ i → f.at_ = 4 → f.get 0 = ((d + 1000 * m : Nat) : Int) → f.get 1 = 1000 → f.get 3 = ((i - (m + 1) : Nat) : Int) → CR d i f (6 * m + 6)
  | a5 (m : Nat) : m + 1 ≤ i → f.at_ = 5 → f.get 0 = ((d + 1000 * m : Nat) : Int) → f.get 1 = 1000 → f.get 3 = ((i - (m + 1) : Nat) : Int) → f.get 4 = 1 → CR d i f (6 * m + 5)
  | a6 (m : Nat) : m + 1 ≤ i → f.at_ = 6 → f.get 0 = ((d + 1000 * m : Nat) : Int) → f.get 1 = 1000 → f.get 3 = ((i - m : Nat) : Int) → CR d i f (6 * m + 4)
  | a7 : f.at_ = 7 → f.get 0 = d → f.get 3 = i → CR d i f 1

theorem get_at (f : Fr) (n b : Int) : ({ f with at_ := n } : Fr).get b = f.get b := rfl
theorem set_at (f : Fr) (a v : Int) : (f.set a v).at_ = f.at_ := rfl
theorem set_fn (f : Fr) (a v : Int) : (f.set a v).fn = f.fn := rfl
theorem set_into (f : Fr) (a v : Int) : (f.set a v).into = f.into := rfl

theorem cr_step {d i rem : Nat} {f : Fr} (hd : 1 ≤ d ∧ d ≤ 30) (hi : i < 20) (h : CR d i f (rem + 2)) : ∃ x g, childC[f.at_.toNat]? = some x ∧ pureOp { f with at_ := f.at_ + 1 } x = some g ∧ CR d i g (rem + 1) ∧ g.fn = f.fn ∧ g.into = f.into := by
  generalize hr : rem + 2 = r at h
  cases h with
  | a0 h1 h2 h3 =>
    refine ⟨_, _, by rw [h1]; rfl, rfl, ?_, by rfl, by rfl⟩
    obtain rfl : rem = 6 * i + 2 := by omega
    refine CR.a1 i (Nat.le_refl _) (by rw [set_at]; simp [h1]) ?_ ?_ ?_
    · rw [get_set _ _ _ _ (by decide) (by decide)]; exact h2
    · rw [get_set _ _ _ _ (by decide) (by decide)]; rfl
    · rw [get_set _ _ _ _ (by decide) (by decide)]; simp; exact h3
  | a1 m hm h1 h2 h3 h4 =>
    refine ⟨_, _, by rw [h1]; rfl, rfl, ?_, by rfl, by rfl⟩
    obtain rfl : rem = 6 * m + 1 := by omega
    refine CR.a2 m hm (by rw [set_at]; simp [h1]) ?_ ?_ ?_ ?_
    · rw [get_set _ _ _ _ (by decide) (by decide)]; exact h2
    · rw [get_set _ _ _ _ (by decide) (by decide)]; exact h3
    · rw [get_set _ _ _ _ (by decide) (by decide)]; exact h4
    · rw [get_set _ _ _ _ (by decide) (by decide), if_pos rfl]
      show (if f.get 0 < f.get 1 then (1 : Int) else 0) = _
      rw [h2, h3]
      by_cases hm0 : m = 0
      · rw [if_pos hm0, if_pos (by omega)]
      · rw [if_neg hm0, if_neg (by omega)]
  | a2 m hm h1 h2 h3 h4 h5 =>
    by_cases hm0 : m = 0
    · subst hm0
      refine ⟨_, _, by rw [h1]; rfl, rfl, ?_, ?_, ?_⟩
      · obtain rfl : rem = 0 := by omega
        rw [if_pos (by show f.get 2 ≠ 0; rw [h5]; decide)]
        exact CR.a7 rfl (by show f.get 0 = _; rw [h2]; simp) (by show f.get 3 = _; rw [h4]; simp)
      · split <;> rfl
      · split <;> rfl
    · obtain ⟨k, rfl⟩ : ∃ k, m = k + 1 := ⟨m - 1, by omega⟩
      refine ⟨_, _, by rw [h1]; rfl, rfl, ?_, ?_, ?_⟩
      · obtain rfl : rem = 6 * k + 6 := by omega
        rw [if_neg (by show ¬ f.get 2 ≠ 0; rw [h5, if_neg hm0]; simp)]
        exact CR.a3 k hm (by show f.at_ + 1 = 3; rw [h1]; rfl) h2 h3 h4
      · split <;> rfl
      · split <;> rfl
  | a3 m hm h1 h2 h3 h4 =>
    refine ⟨_, _, by rw [h1]; rfl, rfl, ?_, by rfl, by rfl⟩
    obtain rfl : rem = 6 * m + 5 := by omega
    refine CR.a4 m hm (by rw [set_at]; simp [h1]) ?_ ?_ ?_
    · rw [get_set _ _ _ _ (by decide) (by decide), if_pos rfl]
      show wr (f.get 0 - f.get 1) = _
      rw [h2, h3, wr_id (by omega) (by omega)]; omega
    · rw [get_set _ _ _ _ (by decide) (by decide)]; exact h3
    · rw [get_set _ _ _ _ (by decide) (by decide)]; exact h4
  | a4 m hm h1 h2 h3 h4 =>
    refine ⟨_, _, by rw [h1]; rfl, rfl, ?_, by rfl, by rfl⟩
    obtain rfl : rem = 6 * m + 4 := by omega
    refine CR.a5 m hm (by rw [set_at]; simp [h1]) ?_ ?_ ?_ ?_
    · rw [get_set _ _ _ _ (by decide) (by decide)]; exact h2
    · rw [get_set _ _ _ _ (by decide) (by decide)]; exact h3
    · rw [get_set _ _ _ _ (by decide) (by decide)]; exact h4
    · rw [get_set _ _ _ _ (by decide) (by decide)]; rfl
  | a5 m hm h1 h2 h3 h4 h5 =>
    refine ⟨_, _, by rw [h1]; rfl, rfl, ?_, by rfl, by rfl⟩
    obtain rfl : rem = 6 * m + 3 := by omega
    refine CR.a6 m hm (by rw [set_at]; simp [h1]) ?_ ?_ ?_
    · rw [get_set _ _ _ _ (by decide) (by decide)]; exact h2
    · rw [get_set _ _ _ _ (by decide) (by decide)]; exact h3
    · rw [get_set _ _ _ _ (by decide) (by decide), if_pos rfl]
      show wr (f.get 3 + f.get 4) = _
      rw [h4, h5, wr_id (by omega) (by omega)]; omega
  | a6 m hm h1 h2 h3 h4 =>
    refine ⟨_, _, by rw [h1]; rfl, rfl, ?_, by rfl, by rfl⟩
    obtain rfl : rem = 6 * m + 2 := by omega
    exact CR.a1 m (by omega) rfl h2 h3 h4
  | a7 => omega
theorem cr_start (d : Nat → Nat) (i : Nat) : CR (d i) i (begin1 1 ((d i + 1000 * i : Nat) : Int)) (6 * i + 4) := CR.a0 rfl rfl rfl
theorem cr_one {d i : Nat} {f : Fr} (h : CR d i f 1) : f.at_ = 7 ∧ f.get 0 = d ∧ f.get 3 = i := by
  generalize hr : 1 = r at h
  cases h with
  | a7 h1 h2 h3 => exact ⟨h1, h2, h3⟩
  | _ => omega
theorem cr_pos {d i rem : Nat} {f : Fr} (h : CR d i f rem) : 1 ≤ rem := by cases h <;> omega
theorem cr_at {d i rem : Nat} {f : Fr} (h : CR d i f rem) : 0 ≤ f.at_ ∧ f.at_ ≤ 7 := by cases h <;> omega

/-- One that sleeps, or woke: it tells its number, and is done. -/
def Asl (d : Nat → Nat) (st : Int) (i : Nat) (G : Gor) : Prop := G.status = st ∧ ∃ f, G.s = [f] ∧ f.fn = 1 ∧ f.at_ = 8 ∧ f.get 3 = i ∧ f.get 0 = d i ∧ f.into = 0
/-- Who sleeps, in order. -/
structure SL (d : Nat → Nat) (q : Nat) (s : List HItem) : Prop where
  sorted : s.Pairwise fun x y => x.before y = true
  items : ∀ x ∈ s, x.seq < q ∧ x.id = x.seq + 1 ∧ x.at_ = d x.seq
  len : s.length = q

structure Ph2 (d : Nat → Nat) (n g : Nat) (W : Wd) : Prop where
  calm : Calm W
  clock : W.clock = 0
  seq : W.seq = g
  out : W.out = []
  len : W.gs.length = n + 1
  ready : W.ready.length ≤ 1
  sl : SL d g W.sleep
  asleep : ∀ i, i < g → ∃ G, W.gs[i + 1]? = some G ∧ Asl d 3 i G
  fresh : ∀ i, g ≤ i → i < n → W.gs[i + 1]? = some (child0 d i)

structure Ph2r (d : Nat → Nat) (n g rem : Nat) (W : Wd) (G : Gor) (f : Fr) : Prop where
  calm : Calm W
  clock : W.clock = 0
  seq : W.seq = g
  out : W.out = []
  len : W.gs.length = n + 1
  ready : W.ready.length ≤ 1
  sl : SL d g W.sleep
  asleep : ∀ i, i < g → ∃ G, W.gs[i + 1]? = some G ∧ Asl d 3 i G
  fresh : ∀ i, g + 1 ≤ i → i < n → W.gs[i + 1]? = some (child0 d i)
  hg : W.gs[g + 1]? = some G
  st : G.status = 1
  s : G.s = [f]
  fn : f.fn = 1
  into : f.into = 0
  cr : CR (d g) g f rem

theorem ph2_start {d : Nat → Nat} {n : Nat} {W : Wd} (h : Ph1 d (2 * n) W) : Ph2 d n 0 W := by
  obtain ⟨fm, wt, hgs, _⟩ := h.gs
  rw [show 2 * n / 2 = n by omega] at hgs
  refine ⟨h.calm, h.clock, h.seq, h.out, by rw [hgs]; simp, h.ready, ?_, fun i hi => by omega, fun i _ hi => ?_⟩
  · rw [h.sleep]; exact ⟨List.Pairwise.nil, fun x hx => by simp at hx, rfl⟩
  · rw [hgs]; simp [hi]
theorem ph2_run {d : Nat → Nat} {n g : Nat} {W : Wd} (hg : g < n) (h : Ph2 d n g W) : ∃ G f, Ph2r d n g (6 * g + 4) W G f :=
  ⟨child0 d g, begin1 1 ((d g + 1000 * g : Nat) : Int), h.calm, h.clock, h.seq, h.out, h.len, h.ready, h.sl, h.asleep, fun i h1 h2 => h.fresh i (by omega) h2, h.fresh g (Nat.le_refl _) hg, rfl, rfl, rfl, rfl, cr_start d g⟩
theorem ph2_step {d : Nat → Nat} {n g rem : Nat} {W : Wd} {G : Gor} {f : Fr} (hd : 1 ≤ d g ∧ d g ≤ 30) (hn : n ≤ 20) (hg : g < n) (h : Ph2r d n g (rem + 2) W G f) : ∃ G' f', Ph2r d n g (rem + 1) (execW (progS d n) W (g + 1) G f).1 G' f' := by
  obtain ⟨x, f', h1, h2, h3, h4, h5⟩ := cr_step hd (by omega) h.cr
  have hx := execW_pure (p := progS d n) (W := W) (g := g + 1) (code := childC) h.calm.end_ h.hg h.st h.s (by rw [h.fn]; rfl) h1 h2
  have hlt := (List.getElem?_eq_some_iff.1 h.hg).1
  rw [hx]
  refine ⟨{ G with s := [f'] }, f', ⟨h.calm.end_, h.calm.chans, h.calm.locks⟩, h.clock, h.seq, h.out, by simp [h.len], by simp, h.sl, fun i hi => ?_, fun i hi hi2 => ?_, by simp [hlt], h.st, rfl, by rw [h4]; exact h.fn, by rw [h5]; exact h.into, h3⟩
  · obtain ⟨G2, hG2, hA⟩ := h.asleep i hi
    exact ⟨G2, by show (W.gs.set (g + 1) _)[i + 1]? = _; rw [List.getElem?_set_ne (by omega)]; exact hG2, hA⟩
  · show (W.gs.set (g + 1) _)[i + 1]? = _
    rw [List.getElem?_set_ne (by omega)]; exact h.fresh i hi hi2
theorem ph2_last {d : Nat → Nat} {n g : Nat} {W : Wd} {G : Gor} {f : Fr} (hd : 1 ≤ d g ∧ d g ≤ 30) (hn : n ≤ 20) (hg : g < n) (h : Ph2r d n g 1 W G f) : Ph2 d n (g + 1) (execW (progS d n) W (g + 1) G f).1 := by
  obtain ⟨h1, h2, h3⟩ := cr_one h.cr
  have hlt := (List.getElem?_eq_some_iff.1 h.hg).1
  have hx := execW_deed (p := progS d n) (W := W) (g := g + 1) (code := childC) (i := ⟨17, 0, 0, 0⟩) h.calm.end_ h.hg h.st h.s (by rw [h.fn]; rfl) (by rw [h1]; rfl) rfl
    (W' := { W with ready := [], gs := W.gs.set (g + 1) ⟨3, [{ f with at_ := f.at_ + 1 }], noIns⟩, sleep := Shu.ins ⟨d g, g, g + 1⟩ W.sleep, seq := g + 1 }) (by
      show sleepW _ _ _ _ = _
      unfold sleepW
      have hg0 : ({ f with at_ := f.at_ + 1 } : Fr).get 0 = (d g : Int) := h2
      simp only [hg0]
      rw [if_neg (show ¬ (1048576 : Int) < (d g : Int) by omega), if_pos (show (0 : Int) < (d g : Int) by omega)]
      unfold Wd.status
      rw [modG_eq (G := { G with s := [{ f with at_ := f.at_ + 1 }] }) (by simp [hlt])]
      simp [h.clock, h.seq])
  rw [hx]
  refine ⟨⟨h.calm.end_, h.calm.chans, h.calm.locks⟩, h.clock, rfl, h.out, by simp [h.len], by simp, ⟨ins_sorted h.sl.sorted fun y hy => (h.sl.items y hy).1, fun y hy => ?_, by rw [(ins_perm _ _).length_eq]; simp [h.sl.len]⟩, fun i hi => ?_, fun i hi hi2 => ?_⟩
  · rcases List.mem_cons.1 ((ins_perm _ _).subset hy) with rfl | hy
    · exact ⟨Nat.lt_succ_self _, rfl, rfl⟩
    · obtain ⟨a, b, c⟩ := h.sl.items y hy
      exact ⟨Nat.lt_succ_of_lt a, b, c⟩
  · by_cases hig : i = g
    · subst hig
      refine ⟨_, by show (W.gs.set (i + 1) _)[i + 1]? = _; rw [List.getElem?_set_self hlt], rfl, { f with at_ := f.at_ + 1 }, rfl, h.fn, ?_, h3, h2, h.into⟩
      show f.at_ + 1 = 8; rw [h1]; rfl
    · obtain ⟨G2, hG2, hA⟩ := h.asleep i (by omega)
      exact ⟨G2, by show (W.gs.set (g + 1) _)[i + 1]? = _; rw [List.getElem?_set_ne (by omega)]; exact hG2, hA⟩
  · show (W.gs.set (g + 1) _)[i + 1]? = _
    rw [List.getElem?_set_ne (by omega)]; exact h.fresh i (by omega) hi2
theorem ph2_idle {d : Nat → Nat} {n g : Nat} {W : Wd} (h : Ph2 d n g W) : Ph2 d n g { W with ready := [] } := ⟨⟨h.calm.end_, h.calm.chans, h.calm.locks⟩, h.clock, h.seq, h.out, h.len, by simp, h.sl, h.asleep, h.fresh⟩

structure Ph3 (d : Nat → Nat) (n t : Nat) (s0 outs pend rest : List HItem) (W : Wd) : Prop where
  calm : Calm W
  clock : W.clock = t
  seq : W.seq = n
  len : W.gs.length = n + 1
  sleep : W.sleep = rest
  out : W.out = outs.map fun x => (x.seq : Int)
  ready : W.ready.length ≤ 20
  all : outs ++ (pend ++ rest) = s0
  sl : SL d n s0
  pends : ∀ x ∈ pend, ∃ G, W.gs[x.id]? = some G ∧ Asl d 1 x.seq G
  rests : ∀ x ∈ rest, ∃ G, W.gs[x.id]? = some G ∧ Asl d 3 x.seq G

theorem SL.ne {d : Nat → Nat} {q : Nat} {s : List HItem} (h : SL d q s) : s.Pairwise fun x y => x.id ≠ y.id := by
  have h1 := h.sorted
  have h2 := h.items
  clear h
  induction s with
  | nil => exact List.Pairwise.nil
  | cons x s ih =>
    obtain ⟨a, b⟩ := List.pairwise_cons.1 h1
    refine List.pairwise_cons.2 ⟨fun y hy he => ?_, ih b fun z hz => h2 z (List.mem_cons_of_mem _ hz)⟩
    obtain ⟨_, x2, x3⟩ := h2 x (List.mem_cons_self ..)
    obtain ⟨_, y2, y3⟩ := h2 y (List.mem_cons_of_mem _ hy)
    have hs : x.seq = y.seq := by omega
    have := a y hy
    simp only [HItem.before, Bool.or_eq_true, Bool.and_eq_true, decide_eq_true_eq] at this
    rw [x3, y3, hs] at this
    omega

theorem wakeAll_get (l : List HItem) : ∀ (W : Wd) (k : Nat), (wakeAll W l).gs[k]? = if k ∈ l.map (·.id) then (W.gs[k]?).map (fun G => { G with status := 1, waits := noIns }) else W.gs[k]? := by
  induction l with
  | nil => intro W k; simp [wakeAll]
  | cons y l ih =>
    intro W k
    rw [show wakeAll W (y :: l) = wakeAll (W.wake y.id) l from rfl, ih]
    have e : (W.wake y.id).gs[k]? = if y.id = k then (W.gs[k]?).map (fun G => { G with status := 1, waits := noIns }) else W.gs[k]? := by
      simp only [Wd.wake, Wd.modG, List.getElem?_modify]
      by_cases hk : y.id = k
      · simp [hk]
      · simp [hk]
    rw [e]
    by_cases h1 : k ∈ l.map (·.id)
    · have h2 : k ∈ (y :: l).map (·.id) := by rw [List.map_cons]; exact List.mem_cons_of_mem _ h1
      rw [if_pos h1, if_pos h2]
      split
      · cases W.gs[k]? <;> rfl
      · rfl
    · rw [if_neg h1]
      by_cases h2 : y.id = k
      · rw [if_pos h2, if_pos (by rw [List.map_cons, h2]; exact List.mem_cons_self ..)]
      · rw [if_neg h2, if_neg (by rw [List.map_cons]; intro h; rcases List.mem_cons.1 h with h | h; exact h2 h.symm; exact h1 h)]
theorem wakeAll_rest (l : List HItem) : ∀ (W : Wd), (wakeAll W l).end_ = W.end_ ∧ (wakeAll W l).chans = W.chans ∧ (wakeAll W l).locks = W.locks ∧ (wakeAll W l).clock = W.clock ∧ (wakeAll W l).seq = W.seq ∧ (wakeAll W l).sleep = W.sleep ∧ (wakeAll W l).out = W.out ∧ (wakeAll W l).ready = W.ready ++ l.map (·.id) := by
  induction l with
  | nil => intro W; simp [wakeAll]
  | cons y l ih =>
    intro W
    rw [show wakeAll W (y :: l) = wakeAll (W.wake y.id) l from rfl]
    obtain ⟨h1, h2, h3, h4, h5, h6, h7, h8⟩ := ih (W.wake y.id)
    refine ⟨h1, h2, h3, h4, h5, h6, h7, ?_⟩
    rw [h8]; simp [Wd.wake, Wd.modG]

theorem ph3_start {d : Nat → Nat} {n : Nat} {W : Wd} (h : Ph2 d n n W) : Ph3 d n 0 W.sleep [] [] W.sleep W := by
  refine ⟨h.calm, h.clock, h.seq, h.len, rfl, by rw [h.out]; rfl, by have := h.ready; omega, by simp, h.sl, fun x hx => by simp at hx, fun x hx => ?_⟩
  obtain ⟨a, b, c⟩ := h.sl.items x hx
  rw [b]; exact h.asleep x.seq a

theorem ph3_tick {d : Nat → Nat} {n t : Nat} {s0 outs rest : List HItem} {W : Wd} (hn : n ≤ 20) (h : Ph3 d n t s0 outs [] rest W) :
    Ph3 d n (t + 1) s0 outs (rest.takeWhile fun y => decide (y.at_ ≤ t + 1)) (rest.dropWhile fun y => decide (y.at_ ≤ t + 1)) (tickW W) ∧ (tickW W).ready = (rest.takeWhile fun y => decide (y.at_ ≤ t + 1)).map (·.id) := by
  have htick : tickW W = wakeAll { W with clock := t + 1, ready := [], sleep := rest.dropWhile fun y => decide (y.at_ ≤ t + 1) } (rest.takeWhile fun y => decide (y.at_ ≤ t + 1)) := by
    unfold tickW; rw [if_neg (by simp [h.calm.end_]), h.clock, h.sleep]
  have hall := h.all
  have hsplit : (rest.takeWhile fun y => decide (y.at_ ≤ t + 1)) ++ (rest.dropWhile fun y => decide (y.at_ ≤ t + 1)) = rest := List.takeWhile_append_dropWhile
  generalize (rest.takeWhile fun y => decide (y.at_ ≤ t + 1)) = ws at *
  generalize (rest.dropWhile fun y => decide (y.at_ ≤ t + 1)) = rs at *
  obtain ⟨h1, h2, h3, h4, h5, h6, h7, h8⟩ := wakeAll_rest ws { W with clock := t + 1, ready := [], sleep := rs }
  have hlen0 : ws.length ≤ 20 := by
    have := h.sl.len
    rw [← hall, ← hsplit] at this
    simp at this; omega
  rw [htick]
  refine ⟨⟨⟨by rw [h1]; exact h.calm.end_, by rw [h2]; exact h.calm.chans, by rw [h3]; exact h.calm.locks⟩, h4, by rw [h5]; exact h.seq, by rw [(wakeAll_len ws _).1]; exact h.len, h6, by rw [h7]; exact h.out, by rw [h8]; simpa using hlen0, ?_, h.sl, fun x hx => ?_, fun x hx => ?_⟩, by rw [h8]; simp⟩
  · rw [hsplit]; simpa using hall
  · obtain ⟨G, hG, hst, hA⟩ := h.rests x (by rw [← hsplit]; exact List.mem_append_left _ hx)
    refine ⟨{ G with status := 1, waits := noIns }, ?_, rfl, hA⟩
    rw [wakeAll_get, if_pos (List.mem_map.2 ⟨x, hx, rfl⟩)]
    show (W.gs[x.id]?).map _ = _
    rw [hG]; rfl
  · obtain ⟨G, hG, hA⟩ := h.rests x (by rw [← hsplit]; exact List.mem_append_right _ hx)
    refine ⟨G, ?_, hA⟩
    rw [wakeAll_get, if_neg ?_]
    · exact hG
    · intro hm
      obtain ⟨y, hy, hyx⟩ := List.mem_map.1 hm
      have hne := h.sl.ne
      rw [← hall] at hne
      simp only [List.nil_append] at hne
      have h9 := (List.pairwise_append.1 hne).2.1
      rw [← hsplit] at h9
      exact (List.pairwise_append.1 h9).2.2 y hy x hx hyx

theorem ph3_emit {d : Nat → Nat} {n t : Nat} {s0 outs pend rest : List HItem} {x : HItem} {W : Wd} {G : Gor} {f : Fr} (hn : n ≤ 20) (h : Ph3 d n t s0 outs (x :: pend) rest W) (hG : W.gs[x.id]? = some G) (hs : G.s = [f]) (hfn : f.fn = 1) (hat : f.at_ = 8) (h3 : f.get 3 = x.seq) (hst : G.status = 1) :
    (execW (progS d n) W x.id G f).1 = { W with ready := [], gs := W.gs.set x.id { G with s := [{ f with at_ := f.at_ + 1 }] }, out := W.out ++ [(x.seq : Int)] } := by
  refine execW_deed (code := childC) (i := ⟨20, 3, 0, 0⟩) h.calm.end_ hG hst hs (by rw [hfn]; rfl) (by rw [hat]; rfl) rfl ?_
  show emitW _ _ _ = _
  unfold emitW
  have hlen : W.out.length ≤ 20 := by
    rw [h.out]
    have h1 := h.sl.len
    rw [← h.all] at h1
    simp at h1 ⊢; omega
  rw [if_neg (show ¬ 1000 ≤ W.out.length by omega)]
  have hg3 : ({ f with at_ := f.at_ + 1 } : Fr).get 3 = (x.seq : Int) := h3
  simp only [hg3]
theorem ph3_ret {p : Prog} {W : Wd} {G : Gor} {f : Fr} {g : Nat} (hg0 : g ≠ 0) (he : W.end_ = 0) (hG : W.gs[g]? = some G) (hs : G.s = [f]) (hc : p.funcs[f.fn.toNat]? = some childC) (hat : f.at_ = 9) (hst : G.status = 1) :
    (execW p W g G f).1 = { W with ready := [], gs := W.gs.set g ⟨4, [{ f with at_ := f.at_ + 1 }], noIns⟩ } := by
  have hlt := (List.getElem?_eq_some_iff.1 hG).1
  refine execW_deed (code := childC) (i := ⟨10, 0, 0, 0⟩) he hG hst hs hc (by rw [hat]; rfl) rfl ?_
  have e : ∀ W g G f, deed W g G f ⟨10, 0, 0, 0⟩ = backW W g G f ⟨10, 0, 0, 0⟩ := fun W g G f => by simp [deed]
  rw [e]
  unfold backW
  rw [if_neg (by simp), if_neg hg0]
  unfold Wd.status
  rw [modG_eq (G := { G with s := [{ f with at_ := f.at_ + 1 }] }) (by simp [hlt])]
  simp
theorem ph3_next {d : Nat → Nat} {n t : Nat} {s0 outs pend rest : List HItem} {x : HItem} {W : Wd} {G4 : Gor} (h : Ph3 d n t s0 outs (x :: pend) rest W) : Ph3 d n t s0 (outs ++ [x]) pend rest { W with ready := [], gs := W.gs.set x.id G4, out := W.out ++ [(x.seq : Int)] } := by
  have hne := h.sl.ne
  have hall := h.all
  rw [← hall] at hne
  have h9 := (List.pairwise_append.1 hne).2.1
  rw [List.cons_append] at h9
  have h10 := (List.pairwise_cons.1 h9).1
  refine ⟨⟨h.calm.end_, h.calm.chans, h.calm.locks⟩, h.clock, h.seq, by simp [h.len], h.sleep, by simp [h.out], by simp, by rw [← hall]; simp, h.sl, fun y hy => ?_, fun y hy => ?_⟩
  · obtain ⟨G, hG, hA⟩ := h.pends y (List.mem_cons_of_mem _ hy)
    refine ⟨G, ?_, hA⟩
    show (W.gs.set x.id G4)[y.id]? = _
    rw [List.getElem?_set_ne (h10 y (List.mem_append_left _ hy))]; exact hG
  · obtain ⟨G, hG, hA⟩ := h.rests y hy
    refine ⟨G, ?_, hA⟩
    show (W.gs.set x.id G4)[y.id]? = _
    rw [List.getElem?_set_ne (h10 y (List.mem_append_right _ hy))]; exact hG
/-- At the end all have told their numbers. -/
theorem ph3_end {d : Nat → Nat} {n : Nat} {s0 outs rest : List HItem} {W : Wd} (hd : ∀ i, d i ≤ 30) (h : Ph3 d n 31 s0 outs [] rest W) (hr : ∀ x ∈ rest, 31 < x.at_) : rest = [] ∧ outs = s0 := by
  have hall := h.all
  have : rest = [] := by
    rcases rest with _ | ⟨x, r⟩
    · rfl
    · have h1 := hr x (List.mem_cons_self ..)
      obtain ⟨_, _, h3⟩ := h.sl.items x (by rw [← hall]; simp)
      have := hd x.seq
      omega
  subst this
  exact ⟨rfl, by simpa using hall⟩
end Go.Proofs.Ytojbbajmldbffaa
