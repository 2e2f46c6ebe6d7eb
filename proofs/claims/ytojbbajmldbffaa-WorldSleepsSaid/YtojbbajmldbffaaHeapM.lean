/- The sleepers' heap as plain lists: what swaps, up and down keep; in which order all wake. -/
import Derived.Test.YtojbbajmldbffaaElem
set_option linter.unusedSimpArgs false
set_option linter.unusedVariables false
namespace Go.Shu

structure HItem where
  at_ : Nat
  seq : Nat
  id : Nat
  deriving Inhabited, DecidableEq, Repr
def encItem (x : HItem) : List Value := [.int .u64 x.at_, .int .u64 x.seq, .int .i64 x.id]
theorem encItem_len (x : HItem) : (encItem x).length = 3 := rfl
def HItem.before (a b : HItem) : Bool := decide (a.at_ < b.at_) || (decide (a.at_ = b.at_) && decide (a.seq < b.seq))

end Go.Shu
namespace Go.Shu
namespace HItem
def lq (x y : HItem) : Prop := y.before x = false
theorem lq_iff (x y : HItem) : lq x y ↔ (x.at_ < y.at_ ∨ (x.at_ = y.at_ ∧ x.seq ≤ y.seq)) := by
  simp only [lq, before, Bool.or_eq_false_iff, Bool.and_eq_false_iff, decide_eq_false_iff_not]
  omega
theorem lq_refl (x : HItem) : lq x x := (lq_iff x x).2 (by omega)
theorem lq_trans {x y z : HItem} (a : lq x y) (b : lq y z) : lq x z := by rw [lq_iff] at *; omega
theorem lq_of_before {x y : HItem} (h : x.before y = true) : lq x y := by
  rw [lq_iff]; simp only [before, Bool.or_eq_true, Bool.and_eq_true, decide_eq_true_eq] at h; omega
end HItem
open HItem
def hd (l : List HItem) (i : Nat) : HItem := l.getD i default
theorem hd_some {l : List HItem} {i : Nat} (h : i < l.length) : l[i]? = some (hd l i) := by simp [hd, h]
def swp (l : List HItem) (i j : Nat) : List HItem := (l.set i (hd l j)).set j (hd l i)
theorem swp_len (l : List HItem) (i j : Nat) : (swp l i j).length = l.length := by simp [swp]
theorem hd_swp {l : List HItem} {i j : Nat} (hi : i < l.length) (hj : j < l.length) (k : Nat) : hd (swp l i j) k = if k = j then hd l i else if k = i then hd l j else hd l k := by
  simp only [hd, swp, List.getD_eq_getElem?_getD, List.getElem?_set, List.length_set]
  by_cases h1 : k = j
  · subst h1; simp [hj]
  · rw [if_neg (fun e => h1 e.symm), if_neg h1]
    by_cases h2 : k = i
    · subst h2; simp [hi]
    · rw [if_neg (fun e => h2 e.symm), if_neg h2]
theorem swp_perm {l : List HItem} {i j : Nat} (hi : i < l.length) (hj : j < l.length) : (swp l i j).Perm l := by
  rw [List.perm_iff_count]
  intro a
  unfold swp
  rw [List.count_set (by simpa using hj), List.count_set hi]
  have hij : (l.set i (hd l j))[j]'(by simpa using hj) = if i = j then hd l j else l[j] := by rw [List.getElem_set]
  have e1 : hd l i = l[i] := by simp [hd, hi]
  have e2 : hd l j = l[j] := by simp [hd, hj]
  rw [hij, e1, e2]
  have h1 : 0 < l.count l[i] := List.count_pos_iff.2 (List.getElem_mem hi)
  have h2 : 0 < l.count l[j] := List.count_pos_iff.2 (List.getElem_mem hj)
  simp only [beq_iff_eq]
  by_cases h : i = j
  · subst h
    by_cases ha : l[i] = a
    · subst ha; simp
    · simp [ha]
  · simp only [h, if_false]
    by_cases ha : l[i] = a
    · by_cases hb : l[j] = a
      · simp only [ha, hb, if_true]; rw [ha] at h1; omega
      · simp only [ha, hb, if_true, if_false]; rw [ha] at h1; omega
    · by_cases hb : l[j] = a
      · simp only [ha, hb, if_true, if_false]; omega
      · simp only [ha, hb, if_false]; omega

def Par (l : List HItem) (k : Nat) : Prop := lq (hd l ((k - 1) / 4)) (hd l k)
def Ord (l : List HItem) : Prop := ∀ k, 0 < k → k < l.length → Par l k
def UpInv (l : List HItem) (i : Nat) : Prop := (∀ k, 0 < k → k < l.length → k ≠ i → Par l k) ∧ ∀ k, 0 < k → k < l.length → (k - 1) / 4 = i → 0 < i → lq (hd l ((i - 1) / 4)) (hd l k)
def DnInv (l : List HItem) (i : Nat) : Prop := (∀ k, 0 < k → k < l.length → (k - 1) / 4 ≠ i → Par l k) ∧ ∀ k, 0 < k → k < l.length → (k - 1) / 4 = i → 0 < i → lq (hd l ((i - 1) / 4)) (hd l k)

theorem up_done {l : List HItem} {i : Nat} (h : UpInv l i) (hi : i = 0 ∨ (hd l i).before (hd l ((i - 1) / 4)) = false) : Ord l := by
  intro k hk hl
  by_cases hki : k = i
  · subst hki
    rcases hi with hi | hi
    · omega
    · exact hi
  · exact h.1 k hk hl hki

theorem up_step {l : List HItem} {i : Nat} (h : UpInv l i) (h0 : 0 < i) (hl : i < l.length) (hb : (hd l i).before (hd l ((i - 1) / 4)) = true) : UpInv (swp l i ((i - 1) / 4)) ((i - 1) / 4) := by
  have hp : (i - 1) / 4 < i := by omega
  have hpl : (i - 1) / 4 < l.length := by omega
  have hip := lq_of_before hb
  refine ⟨fun k hk hkl hne => ?_, fun k hk hkl he hpos => ?_⟩
  · rw [swp_len] at hkl
    unfold Par
    rw [hd_swp hl hpl, hd_swp hl hpl, if_neg hne]
    by_cases hki : k = i
    · subst hki
      rw [if_pos rfl, if_pos rfl]; exact hip
    · rw [if_neg hki]
      have hPk := h.1 k hk hkl hki
      unfold Par at hPk
      by_cases hq : (k - 1) / 4 = (i - 1) / 4
      · rw [if_pos hq]; rw [hq] at hPk; exact lq_trans hip hPk
      · rw [if_neg hq]
        by_cases hq2 : (k - 1) / 4 = i
        · rw [if_pos hq2]; exact h.2 k hk hkl hq2 h0
        · rw [if_neg hq2]; exact hPk
  · rw [swp_len] at hkl
    have hPp := h.1 ((i - 1) / 4) hpos hpl (by omega)
    unfold Par at hPp
    rw [hd_swp hl hpl, hd_swp hl hpl, if_neg (by omega), if_neg (by omega), if_neg (by omega)]
    by_cases hki : k = i
    · subst hki; rw [if_pos rfl]; exact hPp
    · rw [if_neg hki]
      have hPk := h.1 k hk hkl hki
      unfold Par at hPk
      rw [he] at hPk
      exact lq_trans hPp hPk

theorem dn_step {l : List HItem} {i r : Nat} (h : DnInv l i) (hr : 0 < r) (hrl : r < l.length) (hri : (r - 1) / 4 = i) (hm : ∀ k, 0 < k → k < l.length → (k - 1) / 4 = i → lq (hd l r) (hd l k)) (hle : lq (hd l r) (hd l i)) : DnInv (swp l i r) r := by
  have hil : i < l.length := by omega
  have hir : i < r := by omega
  refine ⟨fun k hk hkl hne => ?_, fun k hk hkl he hpos => ?_⟩
  · rw [swp_len] at hkl
    unfold Par
    rw [hd_swp hil hrl, hd_swp hil hrl, if_neg hne]
    by_cases hq : (k - 1) / 4 = i
    · rw [if_pos hq]
      by_cases hkr : k = r
      · rw [if_pos hkr]; exact hle
      · rw [if_neg hkr, if_neg (by omega)]; exact hm k hk hkl hq
    · rw [if_neg hq]
      have hPk := h.1 k hk hkl hq
      unfold Par at hPk
      rw [if_neg (by intro e; subst e; exact hq hri)]
      by_cases hki : k = i
      · subst hki
        rw [if_pos rfl]
        exact h.2 r hr hrl hri hk
      · rw [if_neg hki]; exact hPk
  · rw [swp_len] at hkl
    rw [hd_swp hil hrl, hd_swp hil hrl, hri, if_neg (by omega), if_pos rfl, if_neg (by omega), if_neg (by omega)]
    have hPk := h.1 k hk hkl (by omega)
    unfold Par at hPk
    rw [he] at hPk
    exact hPk

theorem dn_done {l : List HItem} {i : Nat} (h : DnInv l i) (hm : ∀ k, 0 < k → k < l.length → (k - 1) / 4 = i → lq (hd l i) (hd l k)) : Ord l := by
  intro k hk hl
  by_cases hq : (k - 1) / 4 = i
  · unfold Par; rw [hq]; exact hm k hk hl hq
  · exact h.1 k hk hl hq

theorem ord_root {l : List HItem} (h : Ord l) : ∀ (n k : Nat), k ≤ n → k < l.length → lq (hd l 0) (hd l k)
  | 0, k, hn, _ => by rw [Nat.le_zero.1 hn]; exact lq_refl _
  | n + 1, k, hn, hk => by
    by_cases h0 : k = 0
    · rw [h0]; exact lq_refl _
    · exact lq_trans (ord_root h n ((k - 1) / 4) (by omega) (by omega)) (h k (by omega) hk)

/-- l is a heap of the items of s, which stand in the order in which they wake. -/
structure HeapOf (l s : List HItem) : Prop where
  ord : Ord l
  perm : l.Perm s
  sorted : s.Pairwise fun x y => x.before y = true

theorem before_irrefl (x : HItem) : x.before x = false := by simp [before]
theorem HeapOf.head {l : List HItem} {x : HItem} {s : List HItem} (h : HeapOf l (x :: s)) : hd l 0 = x := by
  have hlen : l.length = s.length + 1 := by rw [h.perm.length_eq]; rfl
  have hx : x ∈ l := h.perm.symm.subset (List.mem_cons_self ..)
  obtain ⟨k, hk, hkx⟩ := List.getElem_of_mem hx
  have h1 := ord_root h.ord k k (Nat.le_refl _) hk
  have h2 : hd l k = x := by simp [hd, hk, hkx]
  rw [h2] at h1
  have h3 : hd l 0 ∈ x :: s := h.perm.subset (by have : 0 < l.length := by omega
                                                 simp [hd, this])
  rcases List.mem_cons.1 h3 with h3 | h3
  · exact h3
  · have h4 := (List.pairwise_cons.1 h.sorted).1 _ h3
    unfold lq at h1
    rw [h1] at h4; cases h4

theorem HeapOf.length {l s : List HItem} (h : HeapOf l s) : l.length = s.length := h.perm.length_eq
theorem HeapOf.nil : HeapOf [] [] := ⟨fun k _ h => absurd h (Nat.not_lt_zero _), List.Perm.refl _, List.Pairwise.nil⟩

/-- The root is taken off: the last one in its place, cut. -/
theorem cut_perm {l : List HItem} {x : HItem} {s : List HItem} (h : HeapOf l (x :: s)) : ((swp l 0 (l.length - 1)).take (l.length - 1)).Perm s ∧ DnInv ((swp l 0 (l.length - 1)).take (l.length - 1)) 0 := by
  have hlen : l.length = s.length + 1 := by rw [h.perm.length_eq]; rfl
  have h0 : 0 < l.length := by omega
  have hl : l.length - 1 < l.length := by omega
  refine ⟨?_, ?_⟩
  · have hp := swp_perm h0 hl
    have e : swp l 0 (l.length - 1) = (swp l 0 (l.length - 1)).take (l.length - 1) ++ [x] := by
      have hh : hd (swp l 0 (l.length - 1)) (l.length - 1) = x := by rw [hd_swp h0 hl, if_pos rfl, h.head]
      have hlt : l.length - 1 < (swp l 0 (l.length - 1)).length := by rw [swp_len]; exact hl
      conv => lhs; rw [← List.take_append_drop (l.length - 1) (swp l 0 (l.length - 1))]
      congr 1
      rw [List.drop_eq_getElem_cons hlt]
      congr 1
      · rw [← hh]; simp [hd, hlt]
      · apply List.drop_of_length_le; rw [swp_len]; omega
    have h2 : ((swp l 0 (l.length - 1)).take (l.length - 1) ++ [x]).Perm (x :: s) := by rw [← e]; exact hp.trans h.perm
    have h3 : (x :: (swp l 0 (l.length - 1)).take (l.length - 1)).Perm (x :: s) := (List.perm_append_singleton _ _).symm.trans h2
    exact List.Perm.cons_inv h3
  · have hd_take : ∀ k, k < l.length - 1 → hd ((swp l 0 (l.length - 1)).take (l.length - 1)) k = if k = 0 then hd l (l.length - 1) else hd l k := by
      intro k hk
      have : hd ((swp l 0 (l.length - 1)).take (l.length - 1)) k = hd (swp l 0 (l.length - 1)) k := by simp [hd, List.getD_eq_getElem?_getD, List.getElem?_take, hk]
      rw [this, hd_swp h0 hl, if_neg (by omega)]
    refine ⟨fun k hk hkl hne => ?_, fun k _ _ _ h0 => absurd h0 (Nat.lt_irrefl _)⟩
    rw [List.length_take, swp_len] at hkl
    unfold Par
    rw [hd_take k (by omega), hd_take _ (by omega), if_neg hne, if_neg (by omega)]
    exact h.ord k hk (by omega)

/-- One more, behind all of its time. -/
def ins (x : HItem) : List HItem → List HItem
  | [] => [x]
  | y :: s => if x.at_ < y.at_ then x :: y :: s else y :: ins x s
theorem ins_perm (x : HItem) : ∀ s, (ins x s).Perm (x :: s)
  | [] => List.Perm.refl _
  | y :: s => by
    unfold ins
    split
    · exact List.Perm.refl _
    · exact ((ins_perm x s).cons y).trans (List.Perm.swap x y s)
theorem ins_sorted {x : HItem} : ∀ {s : List HItem}, s.Pairwise (fun x y => x.before y = true) → (∀ y ∈ s, y.seq < x.seq) → (ins x s).Pairwise fun x y => x.before y = true
  | [], _, _ => List.pairwise_singleton _ _
  | y :: s, h, hs => by
    obtain ⟨h1, h2⟩ := List.pairwise_cons.1 h
    have bt : ∀ {a b c : HItem}, a.before b = true → b.before c = true → a.before c = true := by
      intro a b c; simp only [before, Bool.or_eq_true, Bool.and_eq_true, decide_eq_true_eq]; omega
    unfold ins
    split
    · rename_i hlt
      have hxy : x.before y = true := by simp [before, hlt]
      exact List.pairwise_cons.2 ⟨fun z hz => by rcases List.mem_cons.1 hz with rfl | hz; exact hxy; exact bt hxy (h1 z hz), h⟩
    · rename_i hlt
      refine List.pairwise_cons.2 ⟨fun z hz => ?_, ins_sorted h2 (fun z hz => hs z (List.mem_cons_of_mem _ hz))⟩
      rcases List.mem_cons.1 ((ins_perm x s).subset hz) with rfl | hz
      · have := hs y (List.mem_cons_self ..)
        simp only [before, Bool.or_eq_true, Bool.and_eq_true, decide_eq_true_eq]; omega
      · exact h1 z hz
theorem push_inv {l : List HItem} (h : Ord l) (x : HItem) : UpInv (l ++ [x]) l.length := by
  have e : ∀ k, k < l.length → hd (l ++ [x]) k = hd l k := fun k hk => by simp [hd, List.getD_eq_getElem?_getD, List.getElem?_append_left hk]
  refine ⟨fun k hk hkl hne => ?_, fun k hk hkl he _ => ?_⟩
  · simp at hkl
    unfold Par
    rw [e k (by omega), e _ (by omega)]
    exact h k hk (by omega)
  · simp at hkl; omega
theorem HeapOf.unnil {l : List HItem} (h : HeapOf l []) : l = [] := List.eq_nil_of_length_eq_zero (by rw [h.length]; rfl)
theorem HeapOf.seqs {l s : List HItem} (h : HeapOf l s) : s.length = l.length := h.length.symm
def slen (v : Value) : Nat := match v with | .slice _ n _ => n | _ => 0
theorem slen_slice (a : Option Addr) (n c : Nat) : slen (.slice a n c) = n := rfl
end Go.Shu
