/- What the machines hold, as plain data. -/
import Derived.Test.YtojbbajmldbffaaMaps
import Derived.Test.YtojbbajmldbffaaHeapM
set_option linter.unusedSimpArgs false
set_option linter.unusedVariables false
namespace Go.Shu

structure Ins where
  op : Int
  a : Int
  b : Int
  c : Int
  deriving Inhabited, DecidableEq
structure Case where
  way : Int
  chan : Int
  reg : Int
  deriving Inhabited, DecidableEq
structure Prog where
  funcs : List (List Ins)
  chans : List Int
  locks : Int
  cases : List Case
  deriving Inhabited, DecidableEq
structure Fr where
  fn : Int
  at_ : Int
  r : Nat → Int
  into : Int

def encIns (x : Ins) : List Value := [.int .i64 x.op, .int .i64 x.a, .int .i64 x.b, .int .i64 x.c]
theorem encIns_len (x : Ins) : (encIns x).length = 4 := rfl
def encCase (x : Case) : List Value := [.int .i64 x.way, .int .i64 x.chan, .int .i64 x.reg]
theorem encCase_len (x : Case) : (encCase x).length = 3 := rfl
def encFr (f : Fr) : List Value := [.int .i64 f.fn, .int .i64 f.at_, .int .i64 (f.r 0), .int .i64 (f.r 1), .int .i64 (f.r 2), .int .i64 (f.r 3), .int .i64 (f.r 4), .int .i64 (f.r 5), .int .i64 (f.r 6), .int .i64 (f.r 7), .int .i64 f.into]
theorem encFr_len (x : Fr) : (encFr x).length = 11 := rfl
theorem encFr_all (x : Fr) : (encFr x).all Value.oneCell' = true := rfl
theorem encIns_all (x : Ins) : (encIns x).all Value.oneCell' = true := rfl

def upr (r : Nat → Int) (n : Nat) (v : Int) : Nat → Int := fun k => if k = n then v else r k
def Fr.get (f : Fr) (n : Int) : Int := f.r n.toNat
def Fr.set (f : Fr) (n : Int) (v : Int) : Fr := { f with r := upr f.r n.toNat v }
def wr (x : Int) : Int := IntKind.wrap .i64 x
theorem wr_def (x : Int) : IntKind.wrap .i64 x = wr x := rfl
theorem wr_id {x : Int} (h1 : -9223372036854775808 ≤ x) (h2 : x ≤ 9223372036854775807) : wr x = x := wrap_i64 h1 h2

/-- What registers alone decide; the place is one further already. -/
def pureOp (f : Fr) (x : Ins) : Option Fr :=
  if x.op = 0 then some f
  else if x.op = 1 then some (f.set x.a x.b)
  else if x.op = 2 then some (f.set x.a (f.get x.b))
  else if x.op = 3 then some (f.set x.a (wr (f.get x.b + f.get x.c)))
  else if x.op = 4 then some (f.set x.a (wr (f.get x.b - f.get x.c)))
  else if x.op = 5 then some (f.set x.a (wr (f.get x.b * f.get x.c)))
  else if x.op = 6 then some (f.set x.a (if f.get x.b < f.get x.c then 1 else 0))
  else if x.op = 7 then some { f with at_ := x.a }
  else if x.op = 8 then some (if f.get x.a ≠ 0 then { f with at_ := x.b } else f)
  else none

/-- A new frame. -/
def call1 (fn arg into : Int) : Fr := { fn, at_ := 0, r := upr (fun _ => 0) 0 arg, into }
def begin1 (fn arg : Int) : Fr := call1 fn arg 0

def okReg (n : Int) : Prop := 0 ≤ n ∧ n < 8
instance instDecOkReg (n : Int) : Decidable (okReg n) := inferInstanceAs (Decidable (_ ∧ _))
/-- The registers that an instruction names are such. -/
def okPure (x : Ins) : Prop := (1 ≤ x.op ∧ x.op ≤ 6 → okReg x.a) ∧ (2 ≤ x.op ∧ x.op ≤ 6 → okReg x.b) ∧ (3 ≤ x.op ∧ x.op ≤ 6 → okReg x.c) ∧ (x.op = 8 → okReg x.a)

namespace S
variable {κ w : World} {l : List Asn}

/-- A frame of a stack: its words. -/
theorem fr (H : S κ l w) (i : Nat) {b n cap j : Nat} {fs : List Fr} {f : Fr} (hi : l[i]? = some (sle 11 encFr (.slice (some ⟨b, 0, none⟩) n cap) fs)) (hj : fs[j]? = some f) :
    w.cell? ⟨b, j * 11, none⟩ = some (.int .i64 f.fn) ∧ w.cell? ⟨b, j * 11 + 1, none⟩ = some (.int .i64 f.at_) ∧ (∀ k : Int, okReg k → w.cell? ⟨b, j * 11 + 2 + k.toNat, none⟩ = some (.int .i64 (f.get k))) ∧ w.cell? ⟨b, j * 11 + 10, none⟩ = some (.int .i64 f.into) := by
  obtain ⟨a, cap', hv, hr⟩ := H.sle_form i hi encFr_len (by decide)
  cases hv
  obtain ⟨b', hb, _, hc⟩ := hr j f hj
  cases hb
  refine ⟨hc 0 (by omega), hc 1 (by omega), fun k hk => ?_, hc 10 (by omega)⟩
  obtain ⟨h0, h8⟩ := hk
  have h : k.toNat < 8 := by omega
  have := hc (2 + k.toNat) (by omega)
  rw [← Nat.add_assoc] at this
  rw [this]
  unfold Fr.get
  generalize k.toNat = m at h
  rcases m with _ | _ | _ | _ | _ | _ | _ | _ | m <;> first | rfl | omega

theorem flat_put1 {α : Type} {enc : α → List Value} {esz : Nat} (he : ∀ x, (enc x).length = esz) {xs : List α} {i k : Nat} {x y : α} {v : Value} (h : xs[i]? = some x) (hk : k < esz) (hy : enc y = (enc x).set k v) : putL (xs.flatMap enc) (i * esz + k) [v] = (xs.set i y).flatMap enc := by
  obtain ⟨h1, h2⟩ := flat_split he xs i x h
  have hy' : (xs.set i y)[i]? = some y := by simp [(List.getElem?_eq_some_iff.1 h).1]
  obtain ⟨h3, h4⟩ := flat_split he (xs.set i y) i y hy'
  have e1 : (xs.set i y).take i = xs.take i := by rw [List.take_set]; exact List.set_eq_of_length_le (by simp; omega)
  have e2 : (xs.set i y).drop (i + 1) = xs.drop (i + 1) := by rw [List.drop_set, if_pos (by omega)]
  rw [h3, e1, e2, h1, hy]
  show (_ : List Value).set _ v = _
  rw [← h2, List.append_assoc, List.set_append_right _ _ (by omega), Nat.add_sub_cancel_left, List.set_append_left _ _ (by rw [he]; exact hk), List.append_assoc]

/-- One word of one element is stored. -/
theorem sle_sto1 {α : Type} {enc : α → List Value} {esz : Nat} {K : World → Prop} {b n cap j k : Nat} {xs : List α} {x y : α} {v : Value} (H : S κ l w) (i : Nat) (hi : l[i]? = some (sle esz enc (.slice (some ⟨b, 0, none⟩) n cap) xs)) (he : ∀ x, (enc x).length = esz) (hj : xs[j]? = some x) (hk : k < esz) (hy : enc y = (enc x).set k v) (h1 : v.oneCell' = true)
    (hK : ∀ w', S κ (l.set i (sle esz enc (.slice (some ⟨b, 0, none⟩) n cap) (xs.set j y))) w' → K w') : stX w ⟨b, j * esz + k, none⟩ [v] K :=
  H.slc_sto i hi (by have := flat_lt he hj; rw [List.length_singleton]; omega) (by simp [h1]) fun w' H' => hK w' (by unfold sle; rw [flat_put1 he hj hk hy] at H'; exact H')

theorem encFr_set (f : Fr) (k : Nat) (hk : k < 8) (v : Int) : encFr { f with r := upr f.r k v } = (encFr f).set (2 + k) (.int .i64 v) := by
  rcases k with _ | _ | _ | _ | _ | _ | _ | _ | k <;> first | rfl | omega

/-- A register is stored. -/
theorem frSet {K : World → Prop} {b n cap j : Nat} {fs : List Fr} {f : Fr} {k v : Int} (H : S κ l w) (i : Nat) (hi : l[i]? = some (sle 11 encFr (.slice (some ⟨b, 0, none⟩) n cap) fs)) (hj : fs[j]? = some f) (hk : okReg k)
    (hK : ∀ w', S κ (l.set i (sle 11 encFr (.slice (some ⟨b, 0, none⟩) n cap) (fs.set j (f.set k v)))) w' → K w') : stX w ⟨b, j * 11 + 2 + k.toNat, none⟩ [.int .i64 v] K := by
  obtain ⟨h0, h8⟩ := hk
  rw [Nat.add_assoc]
  exact H.sle_sto1 i hi encFr_len hj (by omega) (encFr_set f k.toNat (by omega) v) rfl hK
theorem frAt {K : World → Prop} {b n cap j : Nat} {fs : List Fr} {f : Fr} {v : Int} (H : S κ l w) (i : Nat) (hi : l[i]? = some (sle 11 encFr (.slice (some ⟨b, 0, none⟩) n cap) fs)) (hj : fs[j]? = some f)
    (hK : ∀ w', S κ (l.set i (sle 11 encFr (.slice (some ⟨b, 0, none⟩) n cap) (fs.set j { f with at_ := v }))) w' → K w') : stX w ⟨b, j * 11 + 1, none⟩ [.int .i64 v] K :=
  H.sle_sto1 i hi encFr_len hj (by omega) rfl rfl hK
end S

theorem xk : (∀ P e w x K Kp, opX P e w (.pan x) K Kp = (match ev e x with | .iface t v => Kp [{ v := .iface t v, recovered := false }] w | _ => False)) ∧ (∀ P e w f args K Kp, opX P e w (.callv f args) K Kp = (match ev e f with
    | .func (.func k) first cap => reqX (callable P k = true) (fun _ => callX P k (first.toList ++ vals e args ++ cap.toList) w K Kp)
    | _ => False)) ∧ (∀ P k args w K Kp, callX P k ((#[] : Array Value).toList ++ args ++ (#[] : Array Value).toList) w K Kp = callX P k args w K Kp) := by
  refine ⟨?_, ?_, ?_⟩
  · intros; rfl
  · intros; rfl
  · intros; simp
end Go.Shu
