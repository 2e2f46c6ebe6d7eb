/- What a world holds, block by block: assertions that share nothing; the walk's steps over them. -/
import Derived.Test.YtojbbajmldbffaaCalls
set_option linter.unusedSimpArgs false
set_option linter.unusedVariables false
namespace Go.Shu

abbrev Frag := Nat → Option Obj
abbrev Asn := Frag → Prop
def disj (h1 h2 : Frag) : Prop := ∀ b, h1 b = none ∨ h2 b = none
def le (h1 h2 : Frag) : Prop := ∀ b o, h1 b = some o → h2 b = some o
def star : List Asn → Asn
  | [], _ => True
  | A :: l, h => ∃ h1 h2, disj h1 h2 ∧ le h1 h ∧ le h2 h ∧ A h1 ∧ star l h2
def heapF (w : World) : Frag := fun b => w.heap[b]?
def emp : Asn := fun _ => True
def pt (b : Nat) (c : List Value) : Asn := fun h => ∃ T, h b = some (.cells c.toArray T (0, 0))
def mp (b : Nat) (es : Array MapEntry) (k : Nat) : Asn := fun h => h b = some (.map es k)
def ex {α : Type} (A : α → Asn) : Asn := fun h => ∃ x, A x h
def pur (p : Prop) : Asn := fun _ => p
def ro (h0 : Frag) : Asn := fun h => le h0 h

structure S (κ : World) (l : List Asn) (w : World) : Prop where
  os : w.os = κ.os
  tape : w.tape = κ.tape
  output : w.output = κ.output
  size : κ.heap.size ≤ w.heap.size
  st : star l (heapF w)

theorem le.refl (h : Frag) : le h h := fun _ _ h => h
theorem le.trans {h1 h2 h3 : Frag} (a : le h1 h2) (b : le h2 h3) : le h1 h3 := fun x o h => b x o (a x o h)
theorem disj.symm {h1 h2 : Frag} (a : disj h1 h2) : disj h2 h1 := fun b => (a b).symm
theorem disj.le {h1 h2 k1 k2 : Frag} (a : disj h1 h2) (l1 : Shu.le k1 h1) (l2 : Shu.le k2 h2) : disj k1 k2 := fun b => by
  rcases a b with h | h
  · left; cases hk : k1 b with | none => rfl | some o => rw [l1 b o hk] at h; cases h
  · right; cases hk : k2 b with | none => rfl | some o => rw [l2 b o hk] at h; cases h
def un (h1 h2 : Frag) : Frag := fun b => match h1 b with | some o => some o | none => h2 b
theorem le_un_left (h1 h2 : Frag) : le h1 (un h1 h2) := fun b o h => by simp [un, h]
theorem le_un_right {h1 h2 : Frag} (d : disj h1 h2) : le h2 (un h1 h2) := fun b o h => by
  rcases d b with h' | h'
  · simp [un, h', h]
  · rw [h] at h'; cases h'
theorem un_le {h1 h2 h : Frag} (a : le h1 h) (b : le h2 h) : le (un h1 h2) h := fun x o hx => by
  unfold un at hx
  split at hx
  · rename_i o' ho; cases hx; exact a x _ ho
  · exact b x o hx
theorem un_disj {h1 h2 h : Frag} (a : disj h h1) (b : disj h h2) : disj h (un h1 h2) := fun x => by
  rcases a x with h' | h'
  · exact .inl h'
  · rcases b x with h'' | h''
    · exact .inl h''
    · exact .inr (by simp [un, h', h''])

theorem star_mono : ∀ {l : List Asn} {h h' : Frag}, le h h' → star l h → star l h'
  | [], _, _, _, _ => trivial
  | _ :: _, _, _, hl, ⟨h1, h2, d, l1, l2, a, s⟩ => ⟨h1, h2, d, l1.trans hl, l2.trans hl, a, s⟩

theorem star_swap {A B : Asn} {l : List Asn} {h : Frag} (s : star (A :: B :: l) h) : star (B :: A :: l) h := by
  obtain ⟨h1, h2, d, l1, l2, a, h3, h4, d', l3, l4, b, s⟩ := s
  exact ⟨h3, un h1 h4, un_disj (d.le (le.refl _) l3).symm d', l3.trans l2, un_le l1 (l4.trans l2), b, h1, h4, d.le (le.refl _) l4, le_un_left _ _, le_un_right (d.le (le.refl _) l4), a, s⟩

theorem star_tail {A : Asn} {l l' : List Asn} {h : Frag} (f : ∀ h, star l h → star l' h) (s : star (A :: l) h) : star (A :: l') h := by
  obtain ⟨h1, h2, d, l1, l2, a, s⟩ := s
  exact ⟨h1, h2, d, l1, l2, a, f _ s⟩
theorem star_head {A B : Asn} {l : List Asn} {h : Frag} (f : ∀ h, A h → B h) (s : star (A :: l) h) : star (B :: l) h := by
  obtain ⟨h1, h2, d, l1, l2, a, s⟩ := s
  exact ⟨h1, h2, d, l1, l2, f _ a, s⟩
theorem star_drop {A : Asn} {l : List Asn} {h : Frag} (s : star (A :: l) h) : star l h := by
  obtain ⟨h1, h2, d, l1, l2, a, s⟩ := s
  exact star_mono l2 s
theorem star_emp {l : List Asn} {h : Frag} (s : star l h) : star (emp :: l) h := ⟨fun _ => none, h, (fun _ => .inl rfl), (fun _ _ h => by cases h), le.refl _, trivial, s⟩

theorem star_pick : ∀ (i : Nat) {l : List Asn} {h : Frag}, star l h → star (l.getD i emp :: l.eraseIdx i) h
  | _, [], _, s => by simpa using star_emp s
  | 0, _ :: _, _, s => s
  | i + 1, A :: l, h, s => by
    have := star_tail (fun h s => star_pick i s) s
    exact star_swap this

theorem star_unpick : ∀ (i : Nat) {l : List Asn} {A : Asn} {h : Frag}, i < l.length → star (A :: l.eraseIdx i) h → star (l.set i A) h
  | _, [], _, _, hi, _ => absurd hi (Nat.not_lt_zero _)
  | 0, _ :: _, _, _, _, s => s
  | i + 1, B :: l, A, h, hi, s => by
    exact star_tail (fun h s => star_unpick i (Nat.lt_of_succ_lt_succ hi) s) (star_swap s)

theorem star_nest : ∀ {l1 l2 : List Asn} {h : Frag}, star (l1 ++ l2) h → star (star l1 :: l2) h
  | [], _, _, s => star_head (fun _ _ => trivial) (star_emp s)
  | A :: l1, l2, h, s => by
    obtain ⟨h1, h2, d, e1, e2, a, s⟩ := s
    obtain ⟨h3, h4, d', e3, e4, s1, s2⟩ := star_nest (l1 := l1) (l2 := l2) s
    exact ⟨un h1 h3, h4, (un_disj (d.le (le.refl _) e4).symm d'.symm).symm, un_le e1 (e3.trans e2), e4.trans e2, ⟨h1, h3, d.le (le.refl _) e3, le_un_left _ _, le_un_right (d.le (le.refl _) e3), a, s1⟩, s2⟩
theorem star_flat : ∀ {l1 l2 : List Asn} {h : Frag}, star (star l1 :: l2) h → star (l1 ++ l2) h
  | [], _, _, s => star_drop s
  | A :: l1, l2, h, ⟨h1, h2, d, e1, e2, ⟨h3, h4, d', e3, e4, a, s1⟩, s2⟩ => by
    refine ⟨h3, un h4 h2, un_disj d' (d.le e3 (le.refl _)), e3.trans e1, un_le (e4.trans e1) e2, a, star_flat ?_⟩
    exact ⟨h4, h2, d.le e4 (le.refl _), le_un_left _ _, le_un_right (d.le e4 (le.refl _)), s1, s2⟩

/-- Some to the front, by their places. -/
def pick : List Nat → List Asn → List Asn
  | [], l => l
  | i :: is, l => l.getD i emp :: pick (is.map fun j => if j > i then j - 1 else j) (l.eraseIdx i)
termination_by is => is.length
decreasing_by simp
theorem star_picks (n : Nat) : ∀ (is : List Nat) (l : List Asn) {h : Frag}, is.length = n → star l h → star (pick is l) h := by
  induction n with
  | zero => intro is l h hn s; cases is with | nil => unfold pick; exact s | cons _ _ => cases hn
  | succ n ih =>
    intro is l h hn s
    cases is with
    | nil => cases hn
    | cons i is =>
      unfold pick
      exact star_tail (fun h s => ih _ _ (by simpa using hn) s) (star_pick i s)

namespace S
variable {κ w : World} {l l' : List Asn} {A B : Asn}

theorem imp (H : S κ l w) (f : ∀ h, star l h → star l' h) : S κ l' w := ⟨H.os, H.tape, H.output, H.size, f _ H.st⟩
theorem pick (H : S κ l w) (is : List Nat) : S κ (Shu.pick is l) w := H.imp fun _ s => star_picks _ is l rfl s
theorem drop (H : S κ (A :: l) w) : S κ l w := H.imp fun _ => star_drop
theorem nest {l1 l2 : List Asn} (H : S κ (l1 ++ l2) w) : S κ (star l1 :: l2) w := H.imp fun _ => star_nest
theorem flat {l1 l2 : List Asn} (H : S κ (star l1 :: l2) w) : S κ (l1 ++ l2) w := H.imp fun _ => star_flat
theorem head (H : S κ (A :: l) w) (f : ∀ h, A h → B h) : S κ (B :: l) w := H.imp fun _ => star_head f
theorem exs {α : Type} {A : α → Asn} (H : S κ (ex A :: l) w) : ∃ x, S κ (A x :: l) w := by
  obtain ⟨h1, h2, d, l1, l2, ⟨x, a⟩, s⟩ := H.st
  exact ⟨x, H.os, H.tape, H.output, H.size, h1, h2, d, l1, l2, a, s⟩
theorem exI {α : Type} {A : α → Asn} (x : α) (H : S κ (A x :: l) w) : S κ (ex A :: l) w := H.head fun _ a => ⟨x, a⟩
theorem purs {p : Prop} (H : S κ (pur p :: l) w) : p ∧ S κ l w := by
  obtain ⟨h1, h2, d, l1, l2, a, s⟩ := H.st
  exact ⟨a, H.os, H.tape, H.output, H.size, star_mono l2 s⟩
theorem purI {p : Prop} (hp : p) (H : S κ l w) : S κ (pur p :: l) w := H.imp fun _ s => star_head (fun _ _ => hp) (star_emp s)
theorem emps (H : S κ l w) : S κ (emp :: l) w := H.imp fun _ => star_emp
theorem drew (H : S κ l w) : S κ l w.drew := ⟨H.os, H.tape, H.output, H.size, H.st⟩
theorem refl (w : World) : S w [] w := ⟨rfl, rfl, rfl, Nat.le_refl _, trivial⟩
/-- One of many, and the others. -/
theorem focus {L : List Asn} (H : S κ (star L :: l) w) (i : Nat) : S κ (L.getD i emp :: star (L.eraseIdx i) :: l) w := by
  have h1 : S κ (star (L.getD i emp :: L.eraseIdx i) :: l) w := H.head fun _ s => star_pick i s
  have h2 : S κ ((L.getD i emp :: L.eraseIdx i) ++ l) w := h1.flat
  exact (h2.imp fun h s => star_tail (fun h s => star_nest (l1 := L.eraseIdx i) (l2 := l) s) s)
theorem unfocus {L : List Asn} {i : Nat} (hi : i < L.length) (H : S κ (A :: star (L.eraseIdx i) :: l) w) : S κ (star (L.set i A) :: l) w := by
  have h1 : S κ (A :: (L.eraseIdx i ++ l)) w := H.imp fun h s => star_tail (fun h s => star_flat s) s
  have h2 : S κ (star (A :: L.eraseIdx i) :: l) w := S.nest (l1 := A :: L.eraseIdx i) h1
  exact h2.head fun _ s => star_unpick i hi s

theorem at_ (H : S κ l w) (i : Nat) (hi : l[i]? = some A) : ∃ h1, le h1 (heapF w) ∧ A h1 := by
  obtain ⟨h1, h2, d, l1, l2, a, s⟩ := star_pick i H.st
  exact ⟨h1, l1, by rw [List.getD_eq_getElem?_getD, hi] at a; exact a⟩
theorem block (H : S κ l w) (i : Nat) {b : Nat} {c : List Value} (hi : l[i]? = some (pt b c)) : ∃ T, w.heap[b]? = some (.cells c.toArray T (0, 0)) := by
  obtain ⟨h1, hl, T, hT⟩ := H.at_ i hi
  exact ⟨T, hl _ _ hT⟩
theorem cell (H : S κ l w) (i : Nat) {b : Nat} {c : List Value} (hi : l[i]? = some (pt b c)) (off : Nat) : w.cell? ⟨b, off, none⟩ = c[off]? := by
  obtain ⟨T, hT⟩ := H.block i hi
  simp [World.cell?, hT]
theorem row (H : S κ l w) (i : Nat) {b : Nat} {c : List Value} (hi : l[i]? = some (pt b c)) (off n : Nat) (hn : off + n ≤ c.length) : rowOf w ⟨b, off, none⟩ n = some ((c.drop off).take n) := by
  obtain ⟨T, hT⟩ := H.block i hi
  simp [rowOf, hT, hn]
theorem lt (H : S κ l w) (i : Nat) {b : Nat} {c : List Value} (hi : l[i]? = some (pt b c)) : b < w.heap.size := by
  obtain ⟨T, hT⟩ := H.block i hi
  exact (Array.getElem?_eq_some_iff.1 hT).1

/-- One of them is turned; new blocks may come. -/
theorem step (H : S κ l w) (i : Nat) (hi : l[i]? = some A) {w' : World} (ho : w'.os = w.os) (ht : w'.tape = w.tape) (hu : w'.output = w.output) (hz : w.heap.size ≤ w'.heap.size)
    (f : ∀ h1, le h1 (heapF w) → A h1 → ∃ h1', B h1' ∧ le h1' (heapF w') ∧ (∀ b, h1' b ≠ none → h1 b ≠ none ∨ w.heap.size ≤ b) ∧ ∀ b, h1 b = none → b < w.heap.size → w'.heap[b]? = w.heap[b]?) : S κ (l.set i B) w' := by
  have hlt : i < l.length := (List.getElem?_eq_some_iff.1 hi).1
  obtain ⟨h1, h2, d, l1, l2, a, s⟩ := star_pick i H.st
  rw [List.getD_eq_getElem?_getD, hi] at a
  obtain ⟨h1', b', hl', hn', hk'⟩ := f h1 l1 a
  refine ⟨ho.trans H.os, ht.trans H.tape, hu.trans H.output, Nat.le_trans H.size hz, star_unpick i hlt ⟨h1', h2, ?_, hl', ?_, b', s⟩⟩
  · intro b
    cases hb : h1' b with
    | none => exact .inl rfl
    | some o =>
      right
      rcases hn' b (by rw [hb]; simp) with h | h
      · exact (d b).resolve_left h
      · cases hb2 : h2 b with
        | none => rfl
        | some o' =>
          have := l2 b o' hb2
          exact absurd (Array.getElem?_eq_some_iff.1 this).1 (by omega)
  · intro b o hb
    have h0 := l2 b o hb
    have hlt' : b < w.heap.size := (Array.getElem?_eq_some_iff.1 h0).1
    have hn : h1 b = none := (d b).resolve_right (by rw [hb]; simp)
    show w'.heap[b]? = some o
    rw [hk' b hn hlt']
    exact h0

/-- A new block. -/
theorem alloc (H : S κ l w) (c : List Value) (t : TypeId) : S κ (pt w.heap.size c :: l) (w.alloc (.cells c.toArray t)) := by
  have h := (H.emps).step (B := pt w.heap.size c) (w' := w.alloc (.cells c.toArray t)) 0 rfl rfl rfl rfl (by simp) (fun h1 _ _ => by
    refine ⟨fun b => if b = w.heap.size then some (.cells c.toArray t (0, 0)) else none, ⟨t, by simp⟩, ?_, ?_, ?_⟩
    · intro b o hb
      simp only at hb
      split at hb
      · rename_i h; subst h; cases hb; show (w.heap.push _)[w.heap.size]? = _; simp
      · cases hb
    · intro b hb
      right
      simp only at hb
      split at hb
      · rename_i h; omega
      · exact absurd rfl hb
    · intro b _ hlt
      show (w.heap.push _)[b]? = _
      rw [Array.getElem?_push, if_neg (Nat.ne_of_lt hlt)])
  exact h

theorem store (H : S κ l w) (i : Nat) {b : Nat} {c : List Value} (hi : l[i]? = some (pt b c)) (c' : List Value) (T : TypeId) (hT : w.heap[b]? = some (.cells c.toArray T (0, 0))) :
    S κ (l.set i (pt b c')) (setObj w b (.cells c'.toArray T (0, 0))) := by
  have hlt : b < w.heap.size := (Array.getElem?_eq_some_iff.1 hT).1
  refine H.step i hi rfl rfl rfl (by simp [setObj]) (fun h1 hl ⟨T', hT'⟩ => ?_)
  refine ⟨fun x => if x = b then some (.cells c'.toArray T (0, 0)) else none, ⟨T, by simp⟩, ?_, ?_, ?_⟩
  · intro x o hx
    simp only at hx
    split at hx
    · rename_i h; subst h; cases hx; simp [heapF, setObj, hlt]
    · cases hx
  · intro x hx
    left
    simp only at hx
    split at hx
    · rename_i h; subst h; rw [hT']; simp
    · exact absurd rfl hx
  · intro x hx _
    have : x ≠ b := fun h => by subst h; rw [hT'] at hx; cases hx
    simp [setObj, Array.getElem?_setIfInBounds, Ne.symm this]

/-! ### The walk's steps -/

theorem sto {K : World → Prop} (H : S κ l w) (i : Nat) {b off : Nat} {c vs : List Value} (hi : l[i]? = some (pt b c)) (hl : off + vs.length ≤ c.length) (h1 : vs.all Value.oneCell' = true)
    (hK : ∀ w', S κ (l.set i (pt b (putL c off vs))) w' → K w') : stX w ⟨b, off, none⟩ vs K := by
  obtain ⟨T, hT⟩ := H.block i hi
  exact ⟨c.toArray, T, hT, rfl, by simpa using hl, h1, hK _ (by simpa using H.store i hi (putL c off vs) T hT)⟩
theorem al {K : Value → World → Prop} {t : TypeId} {c : List Value} (H : S κ l w) (hK : ∀ b w', S κ (pt b c :: l) w' → K (.pointer (some ⟨b, 0, none⟩)) w') : alX w t c K := hK _ _ (H.alloc c t)
theorem bs {K : Value → World → Prop} {t : TypeId} {n : Nat} {c : List Value} (H : S κ l w) (hK : ∀ b w', S κ (pt b c :: l) w' → K (.slice (some ⟨b, 0, none⟩) n n) w') : bsX w t n c K := hK _ _ (H.alloc c t)
theorem dr {K : World → Prop} (H : S κ l w) (hK : ∀ w', S κ l w' → K w') : drX w K := hK _ H.drew
end S

/-! ### Slices that are owned -/
def slc (esz : Nat) (v : Value) (cs : List Value) : Asn := fun h =>
  (v = .slice none 0 0 ∧ cs = []) ∨ ∃ b n cap sp, v = .slice (some ⟨b, 0, none⟩) n cap ∧ n ≤ cap ∧ cs.length = n * esz ∧ sp.length = (cap - n) * esz ∧ pt b (cs ++ sp) h

namespace S
variable {κ w : World} {l l' : List Asn} {A B : Asn}

theorem slc_form (H : S κ l w) (i : Nat) {esz : Nat} {v : Value} {cs : List Value} (hi : l[i]? = some (slc esz v cs)) : (v = .slice none 0 0 ∧ cs = []) ∨
    ∃ b n cap sp, v = .slice (some ⟨b, 0, none⟩) n cap ∧ n ≤ cap ∧ cs.length = n * esz ∧ sp.length = (cap - n) * esz ∧ S κ (l.set i (pt b (cs ++ sp))) w := by
  obtain ⟨h1, hl, h⟩ := H.at_ i hi
  rcases h with h | ⟨b, n, cap, sp, h1', h2, h3, h4, _⟩
  · exact .inl h
  · subst h1'
    refine .inr ⟨b, n, cap, sp, rfl, h2, h3, h4, ?_⟩
    refine H.step i hi rfl rfl rfl (Nat.le_refl _) (fun h hl ha => ?_)
    rcases ha with ⟨ha, _⟩ | ⟨b', n', cap', sp', he, _, g3, g4, g5⟩
    · cases ha
    · cases he
      have : pt b (cs ++ sp) h := by
        rename_i hpt _
        obtain ⟨T, hT⟩ := g5
        obtain ⟨T2, hT2⟩ := hpt
        have e1 := hl _ _ hT
        have e2 := (by assumption : le h1 (heapF w)) _ _ hT2
        rw [e1] at e2
        exact ⟨T2, by rw [hT, ← Option.some.inj e2]⟩
      exact ⟨h, this, hl, fun b hb => .inl hb, fun _ _ _ => rfl⟩

/-- The slice's own word, its elements. -/
theorem slc_len (H : S κ l w) (i : Nat) {v : Value} {cs : List Value} (hi : l[i]? = some (slc 1 v cs)) : ∃ a cap, v = .slice a cs.length cap := by
  rcases H.slc_form i hi with ⟨rfl, rfl⟩ | ⟨b, n, cap, sp, rfl, _, h, _⟩
  · exact ⟨none, 0, rfl⟩
  · exact ⟨some ⟨b, 0, none⟩, cap, by rw [h]; simp⟩

theorem slc_row (H : S κ l w) (i : Nat) {esz : Nat} {v : Value} {cs : List Value} (hi : l[i]? = some (slc esz v cs)) : ∃ a n cap, v = .slice a n cap ∧ cs.length = n * esz ∧ rowO w a (n * esz) cs ∧ (∀ j u, cs[j]? = some u → ∃ b, a = some ⟨b, 0, none⟩ ∧ w.cell? ⟨b, j, none⟩ = some u) := by
  rcases H.slc_form i hi with ⟨rfl, rfl⟩ | ⟨b, n, cap, sp, rfl, _, h, _, H'⟩
  · exact ⟨none, 0, 0, rfl, by simp, rfl, fun j u hj => by simp at hj⟩
  · have hlt : i < l.length := (List.getElem?_eq_some_iff.1 hi).1
    have hi' : (l.set i (pt b (cs ++ sp)))[i]? = some (pt b (cs ++ sp)) := by simp [hlt]
    refine ⟨_, n, cap, rfl, h, ?_, fun j u hj => ⟨b, rfl, ?_⟩⟩
    · have := H'.row i hi' 0 (n * esz) (by simp; omega)
      show rowOf w _ _ = some cs
      rw [this, List.drop_zero, ← h, List.take_left]
    · rw [H'.cell i hi', List.getElem?_append_left (List.getElem?_eq_some_iff.1 hj).1]; exact hj

theorem slc_one (H : S κ l w) (i : Nat) {esz : Nat} {v : Value} {cs : List Value} (hi : l[i]? = some (slc esz v cs)) : v.cells.toList = [v] ∧ v.oneCell' = true := by
  rcases H.slc_form i hi with ⟨rfl, rfl⟩ | ⟨b, n, cap, sp, rfl, _⟩ <;> exact ⟨rfl, rfl⟩

theorem slc_nil {esz : Nat} (H : S κ l w) : S κ (slc esz (.slice none 0 0) [] :: l) w := H.emps.head fun _ _ => .inl ⟨rfl, rfl⟩
theorem slc_mk {esz b n : Nat} {c : List Value} (H : S κ (pt b c :: l) w) (hn : c.length = n * esz) : S κ (slc esz (.slice (some ⟨b, 0, none⟩) n n) c :: l) w :=
  H.head fun _ h => .inr ⟨b, n, n, [], rfl, Nat.le_refl _, hn, by simp, by simpa using h⟩

theorem putL_append : ∀ (vs c sp : List Value), vs.length ≤ sp.length → putL (c ++ sp) c.length vs = c ++ vs ++ sp.drop vs.length
  | [], c, sp, _ => by simp [putL]
  | v :: r, c, [], h => by simp at h
  | v :: r, c, s :: sp, h => by
    rw [putL]
    have h1 : (c ++ s :: sp).set c.length v = (c ++ [v]) ++ sp := by simp
    have h2 : c.length + 1 = (c ++ [v]).length := by simp
    rw [h1, h2, putL_append r (c ++ [v]) sp (by simpa using h)]
    simp

theorem set_self {l : List Asn} {i : Nat} {A : Asn} (h : l[i]? = some A) : l.set i A = l := by
  have := (List.getElem?_eq_some_iff.1 h).2
  rw [← this]
  exact List.set_getElem_self _

/-- **append.** -/
theorem app {K : Value → World → Prop} {t : TypeId} {esz bytes m c2 : Nat} {zero : Array Value} {x : Value} {b : Option Addr} {cs vs : List Value} (H : S κ l w) (i : Nat) (hi : l[i]? = some (slc esz x cs))
    (hr : rowO w b (m * esz) vs) (hm : vs.length = m * esz) (h1 : vs.all Value.oneCell' = true) (hz : zero.size = esz) (hb : (cs.length + vs.length) * bytes ≤ 140737488355328) (he : 0 < esz)
    (hK : ∀ v' w', S κ (l.set i (slc esz v' (cs ++ vs))) w' → K v' w') : appX t esz bytes zero x (.slice b m c2) w K := by
  have hlt : i < l.length := (List.getElem?_eq_some_iff.1 hi).1
  obtain ⟨a, n, cap, rfl, hn, hrow, _⟩ := H.slc_row i hi
  refine ⟨vs, hr, fun hfit => ?_, fun hgrow => ⟨cs, hrow, ?_, fun cap' hc' hlt' sp hsp => ?_⟩⟩
  · rcases H.slc_form i hi with ⟨hv, rfl⟩ | ⟨g, n', cap', sp, hv, hle, hcs, hsp, H'⟩
    · cases hv
      have : m = 0 := by omega
      subst this
      have : vs = [] := List.eq_nil_of_length_eq_zero (by simpa using hm)
      subst this
      refine hK _ _ ?_
      have hs : l.set i (slc esz (.slice none 0 0) []) = l := set_self hi
      simp only [Nat.add_zero, List.append_nil]
      rw [hs]
      exact H
    · cases hv
      have hi' : (l.set i (pt g (cs ++ sp)))[i]? = some (pt g (cs ++ sp)) := by simp [hlt]
      have hmul : (n + m) * esz ≤ cap * esz := Nat.mul_le_mul_right _ hfit
      have hspl : vs.length ≤ sp.length := by rw [hm, hsp, Nat.sub_mul]; rw [Nat.add_mul] at hmul; omega
      show stX w (Addr.add ⟨g, 0, none⟩ (n * esz)) vs _
      rw [add_none (a := ⟨g, 0, none⟩) rfl]
      refine H'.sto i (off := 0 + n * esz) hi' ?_ h1 fun w' H'' => hK _ _ ?_
      · rw [List.length_append, hcs]; omega
      · rw [Nat.zero_add, ← hcs, putL_append vs cs sp hspl, List.set_set] at H''
        refine (H''.step (B := slc esz (.slice (some ⟨g, 0, none⟩) (n + m) cap) (cs ++ vs)) i (A := pt g (cs ++ vs ++ sp.drop vs.length)) (by simp [hlt]) rfl rfl rfl (Nat.le_refl _) (fun h hl hp => ?_)) |> fun h => by rw [List.set_set] at h; exact h
        refine ⟨h, .inr ⟨g, n + m, cap, sp.drop vs.length, rfl, hfit, ?_, ?_, hp⟩, hl, fun b hb => .inl hb, fun _ _ _ => rfl⟩
        · rw [List.length_append, hn, hm, Nat.add_mul]
        · rw [List.length_drop, hsp, hm, Nat.sub_add_eq, Nat.sub_mul, Nat.sub_mul, Nat.sub_mul]
  · have h2 := nextslicecap_le hgrow
    have h3 : (n + m) * bytes ≤ 140737488355328 := by
      refine Nat.le_trans (Nat.mul_le_mul_right _ ?_) hb
      rw [hn, hm]
      have := Nat.le_mul_of_pos_right n he
      have := Nat.le_mul_of_pos_right m he
      omega
    have h4 : Builtin.nextslicecap (n + m) cap * bytes ≤ 2 * (n + m) * bytes := Nat.mul_le_mul_right _ h2
    rw [Nat.mul_assoc] at h4
    omega
  · refine hK _ _ ?_
    have hnew := (H.drew).alloc (cs ++ vs ++ sp) t
    have h5 : S κ (slc esz (.slice (some ⟨w.heap.size, 0, none⟩) (n + m) cap') (cs ++ vs) :: l) (w.drew.alloc (.cells (cs ++ vs ++ sp).toArray t)) :=
      hnew.head fun h hp => .inr ⟨_, n + m, cap', sp, rfl, hc', by rw [List.length_append, hn, hm, Nat.add_mul], by rw [hsp, hz], hp⟩
    refine h5.imp fun h s => star_unpick i hlt ?_
    exact star_tail (fun h s => star_drop (star_pick i s)) s
end S

/-! ### Calls -/
def T (P : Program) (k : FuncId) (args : List Value) (w : World) (Post : Value → World → Prop) : Prop := Calls P k args.toArray w fun e w' => ∃ v, e = .returned v ∧ Post v w'
def TP (P : Program) (k : FuncId) (args : List Value) (w : World) (Post : Value → World → Prop) (Pp : List PanicEntry → World → Prop) : Prop := Calls P k args.toArray w fun e w' => match e with
  | .returned v => Post v w'
  | .panicked ch => Pp ch w'
  | .outgrown => False
theorem T.call {P : Program} {k : FuncId} {args : List Value} {w : World} {Post K : Value → World → Prop} {Kp : List PanicEntry → World → Prop} (h : T P k args w Post) (hK : ∀ v w', Post v w' → K v w') : callX P k args w K Kp :=
  Calls.mono h fun e w' ⟨v, he, hp⟩ => by subst he; exact hK _ _ hp
theorem TP.call {P : Program} {k : FuncId} {args : List Value} {w : World} {Post K : Value → World → Prop} {Kp Pp : List PanicEntry → World → Prop} (h : TP P k args w Post Pp) (hK : ∀ v w', Post v w' → K v w') (hP : ∀ c w', Pp c w' → Kp c w') : callX P k args w K Kp :=
  Calls.mono h fun e w' hp => by cases e <;> first | exact hK _ _ hp | exact hP _ _ hp | exact hp
theorem T.mono {P : Program} {k : FuncId} {args : List Value} {w : World} {Post Post' : Value → World → Prop} (h : T P k args w Post) (hK : ∀ v w', Post v w' → Post' v w') : T P k args w Post' :=
  Calls.mono h fun e w' ⟨v, he, hp⟩ => ⟨v, he, hK _ _ hp⟩

def noE : Env := fun _ => undef
def argE : List Value → Env
  | [a] => upd noE 0 a
  | [a, b] => upd (upd noE 1 b) 0 a
  | [a, b, c] => upd (upd (upd noE 2 c) 1 b) 0 a
  | [a, b, c, d] => upd (upd (upd (upd noE 3 d) 2 c) 1 b) 0 a
  | [a, b, c, d, f] => upd (upd (upd (upd (upd noE 4 f) 3 d) 2 c) 1 b) 0 a
  | [a, b, c, d, f, g] => upd (upd (upd (upd (upd (upd noE 5 g) 4 f) 3 d) 2 c) 1 b) 0 a
  | l => argEnv l
theorem argE_argEnv (l : List Value) : argEnv l = argE l := by
  unfold argE
  split <;> first | rfl | (funext i; rcases i with _ | _ | _ | _ | _ | _ | i <;> simp [argEnv, upd, noE])

/-- A function's contract, by its slim code. -/
theorem T.of {P : Program} {f : FuncId} {fn : Func} {hints : List (Nat × ST × List OD)} {s : SF} {args : List Value} {w : World} {Post : Value → World → Prop} (hf : P.funcs[f]? = some fn) (hs : slimF P hints fn = some s) (hn : decide (args.length ≤ s.n) = true)
    (h : X P (fun _ _ => False) s.body (retQ s.res Post) (argE args) w) : T P f args w Post := by
  refine calls_of_X hf hs (of_decide_eq_true hn) ?_
  have h1 : (fun (ch : List PanicEntry) (w' : World) => ∃ v, Ending.panicked ch = .returned v ∧ Post v w') = fun _ _ => False := by
    funext ch w'; apply propext; constructor
    · rintro ⟨v, h, _⟩; cases h
    · exact False.elim
  have h2 : (fun (v : Value) (w' : World) => ∃ v', Ending.returned v = .returned v' ∧ Post v' w') = Post := by
    funext v w'; apply propext; constructor
    · rintro ⟨v, h, hp⟩; cases h; exact hp
    · exact fun h => ⟨v, rfl, h⟩
  rw [h1, h2, argE_argEnv]
  exact h
theorem TP.of {P : Program} {f : FuncId} {fn : Func} {hints : List (Nat × ST × List OD)} {s : SF} {args : List Value} {w : World} {Post : Value → World → Prop} {Pp : List PanicEntry → World → Prop} (hf : P.funcs[f]? = some fn) (hs : slimF P hints fn = some s) (hn : decide (args.length ≤ s.n) = true)
    (h : X P Pp s.body (retQ s.res Post) (argE args) w) : TP P f args w Post Pp := by
  refine calls_of_X hf hs (of_decide_eq_true hn) ?_
  rw [argE_argEnv]
  exact h

end Go.Shu
