/- Slices of elements: reading, storing, appending. -/
import Derived.Test.YtojbbajmldbffaaRun
set_option linter.unusedSimpArgs false
set_option linter.unusedVariables false
namespace Go.Shu

section
variable {α : Type} {enc : α → List Value} {esz : Nat}

theorem putL_eq : ∀ (vs c : List Value) (off : Nat), off + vs.length ≤ c.length → putL c off vs = c.take off ++ vs ++ c.drop (off + vs.length)
  | [], c, off, h => by simp [putL]
  | v :: r, c, off, h => by
    simp only [List.length_cons] at h
    rw [putL, putL_eq r _ _ (by simp; omega)]
    rw [List.take_set, List.drop_set]
    have h1 : off < c.length := by omega
    have h2 : (List.take (off + 1) c).set off v = List.take off c ++ [v] := by
      rw [List.take_succ_eq_append_getElem h1]
      rw [List.set_append_right _ _ (by simp; omega)]
      have : off - (List.take off c).length = 0 := by simp; omega
      rw [this]; rfl
    rw [h2, if_pos (by omega)]
    simp [Nat.add_assoc, Nat.add_comm 1]

theorem flat_len (he : ∀ x, (enc x).length = esz) (xs : List α) : (xs.flatMap enc).length = xs.length * esz := by
  induction xs with
  | nil => simp
  | cons x xs ih => rw [List.flatMap_cons, List.length_append, ih, he, List.length_cons, Nat.succ_mul, Nat.add_comm]

theorem flat_split (he : ∀ x, (enc x).length = esz) : ∀ (xs : List α) (i : Nat) (x : α), xs[i]? = some x → xs.flatMap enc = (xs.take i).flatMap enc ++ enc x ++ (xs.drop (i + 1)).flatMap enc ∧ ((xs.take i).flatMap enc).length = i * esz
  | [], i, x, h => by cases h
  | y :: ys, 0, x, h => by cases h; simp
  | y :: ys, i + 1, x, h => by
    obtain ⟨h1, h2⟩ := flat_split he ys i x h
    refine ⟨?_, ?_⟩
    · rw [List.flatMap_cons, h1]; simp
    · rw [List.take_succ_cons, List.flatMap_cons, List.length_append, h2, he, Nat.succ_mul, Nat.add_comm]

theorem flat_row (he : ∀ x, (enc x).length = esz) {xs : List α} {i : Nat} {x : α} (h : xs[i]? = some x) (sp : List Value) : ((xs.flatMap enc ++ sp).drop (i * esz)).take esz = enc x := by
  obtain ⟨h1, h2⟩ := flat_split he xs i x h
  rw [h1, List.append_assoc, List.append_assoc, ← h2, List.drop_left, ← he x, List.take_left]

theorem flat_lt (he : ∀ x, (enc x).length = esz) {xs : List α} {i : Nat} {x : α} (h : xs[i]? = some x) : i * esz + esz ≤ (xs.flatMap enc).length := by
  rw [flat_len he, ← Nat.succ_mul]
  exact Nat.mul_le_mul_right _ (List.getElem?_eq_some_iff.1 h).1

theorem flat_put (he : ∀ x, (enc x).length = esz) {xs : List α} {i : Nat} {x : α} (h : xs[i]? = some x) (y : α) : putL (xs.flatMap enc) (i * esz) (enc y) = (xs.set i y).flatMap enc := by
  obtain ⟨h1, h2⟩ := flat_split he xs i x h
  have hl := flat_lt he h
  rw [putL_eq _ _ _ (by rw [he]; exact hl), he]
  have hy : (xs.set i y)[i]? = some y := by simp [(List.getElem?_eq_some_iff.1 h).1]
  obtain ⟨h3, h4⟩ := flat_split he (xs.set i y) i y hy
  rw [h3, h1]
  have e1 : (xs.set i y).take i = xs.take i := by rw [List.take_set]; exact List.set_eq_of_length_le (by simp; omega)
  have e2 : (xs.set i y).drop (i + 1) = xs.drop (i + 1) := by rw [List.drop_set, if_pos (by omega)]
  rw [e1, e2]
  congr 1
  · congr 1
    rw [List.append_assoc, ← h2, List.take_left]
  · rw [← h2, ← he x, ← List.length_append, List.drop_left]

theorem flat_cell (he : ∀ x, (enc x).length = esz) {xs : List α} {i k : Nat} {x : α} (h : xs[i]? = some x) (hk : k < esz) (sp : List Value) : (xs.flatMap enc ++ sp)[i * esz + k]? = (enc x)[k]? := by
  obtain ⟨h1, h2⟩ := flat_split he xs i x h
  rw [h1, List.append_assoc, List.append_assoc, ← h2, List.getElem?_append_right (by omega), Nat.add_sub_cancel_left, List.getElem?_append_left (by rw [he]; exact hk)]
end

def sle {α : Type} (esz : Nat) (enc : α → List Value) (v : Value) (xs : List α) : Asn := slc esz v (xs.flatMap enc)

namespace S
variable {κ w : World} {l : List Asn} {α : Type} {enc : α → List Value} {esz : Nat} {v : Value} {xs : List α}

/-- A slice's word, and what its cells hold. -/
theorem sle_form (H : S κ l w) (i : Nat) (hi : l[i]? = some (sle esz enc v xs)) (he : ∀ x, (enc x).length = esz) (hz : 0 < esz) : ∃ a cap, v = .slice a xs.length cap ∧
    ∀ j x, xs[j]? = some x → ∃ b, a = some ⟨b, 0, none⟩ ∧ rowOf w ⟨b, j * esz, none⟩ esz = some (enc x) ∧ ∀ k, k < esz → w.cell? ⟨b, j * esz + k, none⟩ = (enc x)[k]? := by
  have hlt : i < l.length := (List.getElem?_eq_some_iff.1 hi).1
  rcases H.slc_form i hi with ⟨rfl, h0⟩ | ⟨b, n, cap, sp, rfl, _, h, _, H'⟩
  · have hl : xs.length * esz = 0 := by rw [← flat_len he xs, h0]; rfl
    have hx : xs.length = 0 := by rcases Nat.mul_eq_zero.1 hl with h | h <;> omega
    refine ⟨none, 0, by rw [hx], fun j x hj => ?_⟩
    have := (List.getElem?_eq_some_iff.1 hj).1
    omega
  · have hn : xs.length = n := by
      rw [flat_len he] at h
      exact Nat.eq_of_mul_eq_mul_right hz h
    refine ⟨_, cap, by rw [hn], fun j x hj => ⟨b, rfl, ?_, fun k hk => ?_⟩⟩
    · have hi' : (l.set i (pt b (xs.flatMap enc ++ sp)))[i]? = some (pt b (xs.flatMap enc ++ sp)) := by simp [hlt]
      have hl := flat_lt he hj
      rw [H'.row i hi' (j * esz) esz (by rw [List.length_append]; omega), flat_row he hj]
    · have hi' : (l.set i (pt b (xs.flatMap enc ++ sp)))[i]? = some (pt b (xs.flatMap enc ++ sp)) := by simp [hlt]
      rw [H'.cell i hi', flat_cell he hj hk]

/-- A store into a slice's cells. -/
theorem slc_sto {K : World → Prop} {b n cap off : Nat} {cs vs : List Value} (H : S κ l w) (i : Nat) (hi : l[i]? = some (slc esz (.slice (some ⟨b, 0, none⟩) n cap) cs)) (hl : off + vs.length ≤ cs.length) (h1 : vs.all Value.oneCell' = true)
    (hK : ∀ w', S κ (l.set i (slc esz (.slice (some ⟨b, 0, none⟩) n cap) (putL cs off vs))) w' → K w') : stX w ⟨b, off, none⟩ vs K := by
  have hlt : i < l.length := (List.getElem?_eq_some_iff.1 hi).1
  rcases H.slc_form i hi with ⟨hv, _⟩ | ⟨b', n', cap', sp, hv, hle, h, hsp, H'⟩
  · cases hv
  · cases hv
    have hi' : (l.set i (pt b (cs ++ sp)))[i]? = some (pt b (cs ++ sp)) := by simp [hlt]
    refine H'.sto i hi' (by rw [List.length_append]; omega) h1 fun w' H2 => hK w' ?_
    have hp : putL (cs ++ sp) off vs = putL cs off vs ++ sp := by
      rw [putL_eq _ _ _ (by rw [List.length_append]; omega), putL_eq _ _ _ hl, List.take_append_of_le_length (by omega), List.drop_append_of_le_length (by omega)]
      simp
    rw [hp, List.set_set] at H2
    have h3 := H2.step (B := slc esz (.slice (some ⟨b, 0, none⟩) n cap) (putL cs off vs)) i (A := pt b (putL cs off vs ++ sp)) (by simp [hlt]) rfl rfl rfl (Nat.le_refl _)
      (fun h' hl' hp' => ⟨h', .inr ⟨b, n, cap, sp, rfl, hle, by rw [length_putL]; exact h, hsp, hp'⟩, hl', fun b hb => .inl hb, fun _ _ _ => rfl⟩)
    rw [List.set_set] at h3
    exact h3

/-- An element is stored. -/
theorem sle_sto {K : World → Prop} {b n cap j : Nat} {x y : α} (H : S κ l w) (i : Nat) (hi : l[i]? = some (sle esz enc (.slice (some ⟨b, 0, none⟩) n cap) xs)) (he : ∀ x, (enc x).length = esz) (hj : xs[j]? = some x) (h1 : (enc y).all Value.oneCell' = true)
    (hK : ∀ w', S κ (l.set i (sle esz enc (.slice (some ⟨b, 0, none⟩) n cap) (xs.set j y))) w' → K w') : stX w ⟨b, j * esz, none⟩ (enc y) K :=
  H.slc_sto i hi (by rw [he]; exact flat_lt he hj) h1 fun w' H' => hK w' (by unfold sle; rw [flat_put he hj] at H'; exact H')

/-- It is cut at its end. -/
theorem sle_cut {b n cap m : Nat} (H : S κ l w) (i : Nat) (hi : l[i]? = some (sle esz enc (.slice (some ⟨b, 0, none⟩) n cap) xs)) (he : ∀ x, (enc x).length = esz) (hz : 0 < esz) (hm : m ≤ n) :
    S κ (l.set i (sle esz enc (.slice (some ⟨b, 0, none⟩) m cap) (xs.take m))) w := by
  refine H.step i hi rfl rfl rfl (Nat.le_refl _) (fun h hl ha => ?_)
  rcases ha with ⟨ha, _⟩ | ⟨b', n', cap', sp, hv, hle, hc, hsp, hp⟩
  · cases ha
  · cases hv
    have hn : xs.length = n := by
      rw [flat_len he] at hc
      exact Nat.eq_of_mul_eq_mul_right hz hc
    have e : xs.flatMap enc = (xs.take m).flatMap enc ++ (xs.drop m).flatMap enc := by rw [← List.flatMap_append, List.take_append_drop]
    refine ⟨h, .inr ⟨b, m, cap, (xs.drop m).flatMap enc ++ sp, rfl, by omega, ?_, ?_, ?_⟩, hl, fun b hb => .inl hb, fun _ _ _ => rfl⟩
    · rw [flat_len he, List.length_take]; congr 1; omega
    · rw [List.length_append, flat_len he, hsp, List.length_drop, hn, ← Nat.add_mul]; congr 1; omega
    · rw [← List.append_assoc, ← e]; exact hp

/-- One to the front; one away. -/
theorem mv (H : S κ l w) (i : Nat) : S κ (l.getD i emp :: l.eraseIdx i) w := H.imp fun _ s => star_pick i s
theorem del (H : S κ l w) (i : Nat) : S κ (l.eraseIdx i) w := H.imp fun _ s => star_drop (star_pick i s)

/-- An element is appended. -/
theorem sle_app {K : Value → World → Prop} {t : TypeId} {bytes c2 b : Nat} {zero : Array Value} {y : α} (H : S κ l w) (i : Nat) (hi : l[i]? = some (sle esz enc v xs)) (he : ∀ x, (enc x).length = esz)
    (hr : rowOf w ⟨b, 0, none⟩ esz = some (enc y)) (h1 : (enc y).all Value.oneCell' = true) (hz : zero.size = esz) (hz' : 0 < esz) (hb : (xs.length * esz + esz) * bytes ≤ 140737488355328)
    (hK : ∀ v' w', S κ (l.set i (sle esz enc v' (xs ++ [y]))) w' → K v' w') : appX t esz bytes zero v (.slice (some ⟨b, 0, none⟩) 1 c2) w K :=
  H.app i hi (m := 1) (vs := enc y) (by rw [Nat.one_mul]; exact hr) (by rw [he, Nat.one_mul]) h1 hz (by rw [flat_len he, he]; exact hb) hz' fun v' w' H' => hK v' w' (by
    have : xs.flatMap enc ++ enc y = (xs ++ [y]).flatMap enc := by simp
    rw [this] at H'; exact H')
/-- Another slice's elements are appended. -/
theorem sle_apps {K : Value → World → Prop} {t : TypeId} {bytes : Nat} {zero : Array Value} {v2 : Value} {ys : List α} (H : S κ l w) (i j : Nat) (hi : l[i]? = some (sle esz enc v xs)) (hj : l[j]? = some (sle esz enc v2 ys)) (he : ∀ x, (enc x).length = esz)
    (h1 : ∀ y, (enc y).all Value.oneCell' = true) (hz : zero.size = esz) (hz' : 0 < esz) (hb : (xs.length + ys.length) * esz * bytes ≤ 140737488355328)
    (hK : ∀ v' w', S κ (l.set i (sle esz enc v' (xs ++ ys))) w' → K v' w') : appX t esz bytes zero v v2 w K := by
  obtain ⟨a, n, cap, rfl, hn, hrow, _⟩ := H.slc_row j hj
  exact H.app i hi hrow hn (by rw [List.all_flatMap, List.all_eq_true]; exact fun y _ => h1 y) hz (by rw [flat_len he, flat_len he, ← Nat.add_mul]; exact hb) hz' fun v' w' H' => hK v' w' (by
    rw [← List.flatMap_append] at H'; exact H')

/-- append to a row that is full: a copy. -/
theorem app_new {K : Value → World → Prop} {t : TypeId} {bytes n m c c2 : Nat} {zero : Array Value} {a b : Option Addr} {old vs : List Value} (H : S κ l w) (hf : c < n + m) (hold : rowO w a (n * esz) old) (hol : old.length = n * esz) (hr : rowO w b (m * esz) vs) (hm : vs.length = m * esz)
    (hz : zero.size = esz) (hb : (n + m) * bytes ≤ 140737488355328)
    (hK : ∀ b' cap' w', n + m ≤ cap' → S κ (slc esz (.slice (some ⟨b', 0, none⟩) (n + m) cap') (old ++ vs) :: l) w' → K (.slice (some ⟨b', 0, none⟩) (n + m) cap') w') : appX t esz bytes zero (.slice a n c) (.slice b m c2) w K := by
  refine ⟨vs, hr, fun h => absurd h (by omega), fun hgrow => ⟨old, hold, ?_, fun cap' hc' hlt' sp hsp => ?_⟩⟩
  · have h2 := nextslicecap_le hgrow
    have h4 : Builtin.nextslicecap (n + m) c * bytes ≤ 2 * (n + m) * bytes := Nat.mul_le_mul_right _ h2
    rw [Nat.mul_assoc] at h4
    omega
  · refine hK _ _ _ hc' ?_
    have hnew := (H.drew).alloc (old ++ vs ++ sp) t
    exact hnew.head fun h hp => .inr ⟨_, n + m, cap', sp, rfl, hc', by rw [List.length_append, hol, hm, Nat.add_mul], by rw [hsp, hz], hp⟩
theorem sle_rowO (H : S κ l w) (i : Nat) {n cap : Nat} {a : Option Addr} (hi : l[i]? = some (sle esz enc (.slice a n cap) xs)) (he : ∀ x, (enc x).length = esz) : rowO w a (n * esz) (xs.flatMap enc) ∧ (xs.flatMap enc).length = n * esz ∧ n ≤ cap := by
  obtain ⟨a', n', cap', hv, hn, hrow, _⟩ := H.slc_row i hi
  cases hv
  refine ⟨hrow, hn, ?_⟩
  rcases H.slc_form i hi with ⟨hv, _⟩ | ⟨_, _, _, _, hv, h, _⟩
  · cases hv; omega
  · cases hv; exact h
end S
end Go.Shu
