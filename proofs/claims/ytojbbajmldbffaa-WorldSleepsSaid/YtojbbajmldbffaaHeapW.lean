/- The sleepers' heap: contracts. -/
import Derived.Test.YtojbbajmldbffaaSlimHeapW
import Derived.Test.YtojbbajmldbffaaHeapM
set_option linter.unusedSimpArgs false
set_option linter.unusedVariables false
namespace Go.Proofs.Ytojbbajmldbffaa
open Go.Shu
variable {κ w : World} {F : List Asn}

theorem before_T (H : S κ F w) (a b : HItem) : T Try.prog 74 [.agg (encItem a).toArray, .agg (encItem b).toArray] w fun v w' => v = .bool (a.before b) ∧ S κ F w' := by
  refine T.of Try.func74 sl74 rfl ?_
  simp -dsimp (disch := omega) only [s74, xr, xo]
  refine H.al fun b1 w1 H1 => ?_
  simp -dsimp (disch := omega) only [xr, xo]
  refine H1.al fun b2 w2 H2 => ?_
  have h0 := H2.cell 1 rfl
  have h1 := H2.cell 0 rfl
  have hF := H2.drop.drop
  by_cases c1 : a.at_ < b.at_
  · have c1' : decide ((a.at_ : Int) < b.at_) = true := decide_eq_true (by omega)
    simp -dsimp (disch := omega) only [xr, xo, xv, h0, h1, encItem, c1']
    exact ⟨by simp [HItem.before, c1], hF⟩
  · have c1' : decide ((a.at_ : Int) < b.at_) = false := decide_eq_false (by omega)
    by_cases c2 : a.at_ = b.at_
    · have c2' : decide ((a.at_ : Int) = b.at_) = true := decide_eq_true (by omega)
      simp -dsimp (disch := omega) only [xr, xo, xv, h0, h1, encItem, c1', c2']
      exact ⟨by simp [HItem.before, c1, c2], hF⟩
    · have c2' : decide ((a.at_ : Int) = b.at_) = false := decide_eq_false (by omega)
      simp -dsimp (disch := omega) only [xr, xo, xv, h0, h1, encItem, c1', c2']
      exact ⟨by simp [HItem.before, c1, c2], hF⟩

/-- The heap's two words lie in a block: the slice at o, the number behind it. -/
theorem swap_T {b o i j : Nat} {c : List Value} {hv : Value} {l : List HItem} {x y : HItem} (H : S κ (pt b c :: sle 3 encItem hv l :: F) w) (hc : c[o]? = some hv) (hi : l[i]? = some x) (hj : l[j]? = some y) (hl : l.length < 1000000000) :
    T Try.prog 48 [.pointer (some ⟨b, o, none⟩), .int .i64 i, .int .i64 j] w fun v w' => v = .tuple #[] ∧ S κ (pt b c :: sle 3 encItem hv ((l.set i y).set j x) :: F) w' := by
  refine T.of Try.func48 sl48 rfl ?_
  simp -dsimp (disch := omega) only [s48, xr]
  refine H.dr fun w1 H1 => ?_
  have hil := (List.getElem?_eq_some_iff.1 hi).1
  have hjl := (List.getElem?_eq_some_iff.1 hj).1
  obtain ⟨ad, cap, rfl, hr⟩ := H1.sle_form 1 rfl encItem_len (by decide)
  obtain ⟨g, rfl, hri, _⟩ := hr i x hi
  obtain ⟨g', hg, hrj, _⟩ := hr j y hj
  cases hg
  have h0 := H1.cell 0 rfl
  simp -dsimp (disch := omega) only [xr, xo, xv, h0, hc, hri, hrj, encItem_len]
  refine H1.sle_sto 1 rfl encItem_len hi rfl fun w2 H2 => ?_
  simp -dsimp (disch := omega) only [xr, xo, xv, encItem_len]
  refine H2.sle_sto 1 (x := (l.set i y)[j]'(by simpa using hjl)) rfl encItem_len (by simp) rfl fun w3 H3 => ?_
  simp -dsimp (disch := omega) only [xr, xo, xv]
  exact ⟨trivial, H3⟩

theorem swap_T' {b o i j : Nat} {c : List Value} {hv : Value} {l : List HItem} (H : S κ (pt b c :: sle 3 encItem hv l :: F) w) (hc : c[o]? = some hv) (hi : i < l.length) (hj : j < l.length) (hl : l.length < 1000000000) :
    T Try.prog 48 [.pointer (some ⟨b, o, none⟩), .int .i64 i, .int .i64 j] w fun v w' => v = .tuple #[] ∧ S κ (pt b c :: sle 3 encItem hv (swp l i j) :: F) w' :=
  swap_T H hc (hd_some hi) (hd_some hj) hl

theorem up_T {b o i0 : Nat} {c : List Value} {hv : Value} {l : List HItem} (H : S κ (pt b c :: sle 3 encItem hv l :: F) w) (hc : c[o]? = some hv) (hi : i0 < l.length) (hl : l.length < 1000000000) (hu : UpInv l i0) :
    T Try.prog 50 [.pointer (some ⟨b, o, none⟩), .int .i64 i0] w fun v w' => v = .tuple #[] ∧ ∃ l', l'.Perm l ∧ Ord l' ∧ S κ (pt b c :: sle 3 encItem hv l' :: F) w' := by
  refine T.of Try.func50 sl50 rfl ?_
  simp -dsimp (disch := omega) only [s50, xr, xo]
  refine ⟨fun e w => ∃ i l', e 0 = .pointer (some ⟨b, o, none⟩) ∧ e 1 = .int .i64 (i : Nat) ∧ i < l'.length ∧ l'.Perm l ∧ UpInv l' i ∧ S κ (pt b c :: sle 3 encItem hv l' :: F) w, fun e _ => inat (e 1), ⟨i0, l, by simp -dsimp (disch := omega) only [xr], by simp -dsimp (disch := omega) only [xr], hi, List.Perm.refl _, hu, H⟩, ?_⟩
  rintro e w1 ⟨i, l', e0, e1, hil, hp, hU, H1⟩
  have hlen : l'.length < 1000000000 := by rw [hp.length_eq]; exact hl
  simp -dsimp (disch := omega) only [xr]
  refine H1.dr fun w2 H2 => ?_
  by_cases h0 : 0 < i
  · have d0 : decide ((0 : Int) < i) = true := decide_eq_true (by omega)
    obtain ⟨ad, cap, rfl, hr⟩ := H2.sle_form 1 rfl encItem_len (by decide)
    obtain ⟨g, rfl, hri, _⟩ := hr i _ (hd_some hil)
    obtain ⟨g', hg, hrj, _⟩ := hr ((i - 1) / 4) _ (hd_some (by omega))
    cases hg
    have hq : ((i : Int) - 1).tdiv 4 = (((i - 1) / 4 : Nat) : Int) := by
      have := quo_nat (i - 1) 4
      rw [show (((i - 1 : Nat) : Int)) = (i : Int) - 1 from by omega] at this
      exact this
    have hw := H2.cell 0 rfl
    simp -dsimp (disch := omega) only [xr, xo, xv, e0, e1, d0, hw, hc, hri, hrj, hq]
    have hb := before_T H2 (hd l' i) (hd l' ((i - 1) / 4))
    refine T.call hb ?_
    clear hb
    rintro v w3 ⟨rfl, H3⟩
    simp -dsimp (disch := omega) only [xr, xo, xv, d0]
    rcases Bool.eq_false_or_eq_true ((hd l' i).before (hd l' ((i - 1) / 4))) with hbe | hbe
    · simp -dsimp (disch := omega) only [xr, xo, xv, e0, e1, hq, hbe]
      have hb := swap_T' H3 hc hil (show (i - 1) / 4 < l'.length by omega) hlen
      refine T.call hb ?_
      clear hb
      rintro v w4 ⟨rfl, H4⟩
      simp -dsimp (disch := omega) only [xr, xo, xv, e0, e1, hq]
      refine ⟨⟨(i - 1) / 4, _, trivial, rfl, by rw [swp_len]; omega, (swp_perm hil (by omega)).trans hp, up_step hU h0 hil hbe, H4⟩, ?_⟩
      simp only [inat_int]; omega
    · simp -dsimp (disch := omega) only [xr, xo, xv, hbe]
      exact ⟨trivial, l', hp, up_done hU (.inr hbe), H3⟩
  · have d0 : decide ((0 : Int) < i) = false := decide_eq_false (by omega)
    simp -dsimp (disch := omega) only [xr, xo, xv, e0, e1, d0]
    exact ⟨trivial, l', hp, up_done hU (.inl (by omega)), H2⟩

/-- The least of one and those below it. -/
theorem least_T {b o i : Nat} {c : List Value} {hv : Value} {l : List HItem} (H : S κ (pt b c :: sle 3 encItem hv l :: F) w) (hc : c[o]? = some hv) (hi : i < l.length) (hl : l.length < 1000000000) :
    T Try.prog 73 [.pointer (some ⟨b, o, none⟩), .int .i64 i] w fun v w' => ∃ r : Nat, v = .int .i64 r ∧ r < l.length ∧ (r = i ∨ (0 < r ∧ (r - 1) / 4 = i)) ∧ HItem.lq (hd l r) (hd l i) ∧ (∀ k, 0 < k → k < l.length → (k - 1) / 4 = i → HItem.lq (hd l r) (hd l k)) ∧ S κ (pt b c :: sle 3 encItem hv l :: F) w' := by
  refine T.of Try.func73 sl73 rfl ?_
  simp -dsimp (disch := omega) only [s73, xr, xo, xv]
  refine ⟨fun e w => ∃ k r : Nat, e 0 = .pointer (some ⟨b, o, none⟩) ∧ e 1 = .int .i64 i ∧ e 5 = .int .i64 r ∧ e 6 = .int .i64 k ∧ 4 * i + 1 ≤ k ∧ k ≤ 4 * i + 5 ∧ r < l.length ∧ (r = i ∨ (0 < r ∧ (r - 1) / 4 = i)) ∧ HItem.lq (hd l r) (hd l i) ∧
      (∀ j, 0 < j → j < k → j < l.length → (j - 1) / 4 = i → HItem.lq (hd l r) (hd l j)) ∧ S κ (pt b c :: sle 3 encItem hv l :: F) w, fun e _ => 4 * i + 5 - inat (e 6),
    ⟨4 * i + 1, i, by simp -dsimp (disch := omega) only [xr], by simp -dsimp (disch := omega) only [xr], by simp -dsimp (disch := omega) only [xr], by simp -dsimp (disch := omega) only [xr]; simp, by omega, by omega, hi, .inl rfl, HItem.lq_refl _, fun j _ _ _ _ => by omega, H⟩, ?_⟩
  rintro e w1 ⟨k, r, e0, e1, e5, e6, hk1, hk2, hr, hri, hle, hall, H1⟩
  obtain ⟨ad, cap, rfl, hrow⟩ := H1.sle_form 1 rfl encItem_len (by decide)
  have hw := H1.cell 0 rfl
  have fin : ¬ (k ≤ 4 * i + 4 ∧ k < l.length) → ∀ j, 0 < j → j < l.length → (j - 1) / 4 = i → HItem.lq (hd l r) (hd l j) := fun hn j h1 h2 h3 => hall j h1 (by omega) h2 h3
  by_cases c1 : k ≤ 4 * i + 4
  · have d1 : decide ((k : Int) ≤ 4 * (i : Int) + 4) = true := decide_eq_true (by omega)
    by_cases c2 : k < l.length
    · have d2 : decide ((k : Int) < l.length) = true := decide_eq_true (by omega)
      simp -dsimp (disch := omega) only [xr, xo, xv, e0, e1, e5, e6, d1, d2, hw, hc]
      refine H1.dr fun w2 H2 => ?_
      obtain ⟨ad', cap', hv', hrow⟩ := H2.sle_form 1 rfl encItem_len (by decide)
      cases hv'
      obtain ⟨g, rfl, hrk, _⟩ := hrow k _ (hd_some c2)
      obtain ⟨g', hg, hrr, _⟩ := hrow r _ (hd_some hr)
      cases hg
      have hw := H2.cell 0 rfl
      simp -dsimp (disch := omega) only [xr, xo, xv, e0, e1, e5, e6, hw, hc, hrk, hrr]
      have hb := before_T H2 (hd l k) (hd l r)
      refine T.call hb ?_
      clear hb
      rintro v w3 ⟨rfl, H3⟩
      simp -dsimp (disch := omega) only [xr, xo, xv, e0, e1, e5, e6]
      rcases Bool.eq_false_or_eq_true ((hd l k).before (hd l r)) with hbe | hbe
      · simp -dsimp (disch := omega) only [xr, xo, xv, e0, e1, e5, e6, hbe]
        have hkr := HItem.lq_of_before hbe
        refine ⟨⟨k + 1, k, trivial, trivial, rfl, by simp, by omega, by omega, c2, .inr ⟨by omega, by omega⟩, HItem.lq_trans hkr hle, fun j h1 h2 h3 h4 => ?_, H3⟩, ?_⟩
        · by_cases hjk : j = k
          · rw [hjk]; exact HItem.lq_refl _
          · exact HItem.lq_trans hkr (hall j h1 (by omega) h3 h4)
        · simp only [inat_int]; omega
      · simp -dsimp (disch := omega) only [xr, xo, xv, e0, e1, e5, e6, hbe]
        refine ⟨⟨k + 1, r, trivial, trivial, rfl, by simp, by omega, by omega, hr, hri, hle, fun j h1 h2 h3 h4 => ?_, H3⟩, ?_⟩
        · by_cases hjk : j = k
          · rw [hjk]; exact hbe
          · exact hall j h1 (by omega) h3 h4
        · simp only [inat_int]; omega
    · have d2 : decide ((k : Int) < l.length) = false := decide_eq_false (by omega)
      simp -dsimp (disch := omega) only [xr, xo, xv, e0, e1, e5, e6, d1, d2, hw, hc]
      exact ⟨r, rfl, hr, hri, hle, fin (by omega), H1⟩
  · have d1 : decide ((k : Int) ≤ 4 * (i : Int) + 4) = false := decide_eq_false (by omega)
    simp -dsimp (disch := omega) only [xr, xo, xv, e0, e1, e5, e6, d1]
    exact ⟨r, rfl, hr, hri, hle, fin (by omega), H1⟩

theorem down_T {b o i0 : Nat} {c : List Value} {hv : Value} {l : List HItem} (H : S κ (pt b c :: sle 3 encItem hv l :: F) w) (hc : c[o]? = some hv) (hi : i0 < l.length) (hl : l.length < 1000000000) (hu : DnInv l i0) :
    T Try.prog 49 [.pointer (some ⟨b, o, none⟩), .int .i64 i0] w fun v w' => v = .tuple #[] ∧ ∃ l', l'.Perm l ∧ Ord l' ∧ S κ (pt b c :: sle 3 encItem hv l' :: F) w' := by
  refine T.of Try.func49 sl49 rfl ?_
  simp -dsimp (disch := omega) only [s49, xr, xo]
  have hb := least_T H hc hi hl
  refine T.call hb ?_
  clear hb
  rintro v w1 ⟨r, rfl, hr, hri, hle, hm, H1⟩
  simp -dsimp (disch := omega) only [xr, xo]
  refine ⟨fun e w => ∃ (i r : Nat) (l' : List HItem), e 0 = .pointer (some ⟨b, o, none⟩) ∧ e 1 = .int .i64 i ∧ e 4 = .int .i64 r ∧ i < l'.length ∧ r < l'.length ∧ (r = i ∨ (0 < r ∧ (r - 1) / 4 = i)) ∧ HItem.lq (hd l' r) (hd l' i) ∧
      (∀ k, 0 < k → k < l'.length → (k - 1) / 4 = i → HItem.lq (hd l' r) (hd l' k)) ∧ l'.Perm l ∧ DnInv l' i ∧ S κ (pt b c :: sle 3 encItem hv l' :: F) w, fun e _ => l.length - inat (e 1),
    ⟨i0, r, l, by simp -dsimp (disch := omega) only [xr], by simp -dsimp (disch := omega) only [xr], by simp -dsimp (disch := omega) only [xr], hi, hr, hri, hle, hm, List.Perm.refl _, hu, H1⟩, ?_⟩
  clear hr hri hle hm H1 r w1
  rintro e w1 ⟨i, r, l', e0, e1, e4, hi', hr, hri, hle, hm, hp, hD, H1⟩
  have hlen : l'.length = l.length := hp.length_eq
  by_cases hne : r = i
  · subst hne
    have d1 : decide ((r : Int) = r) = true := decide_eq_true rfl
    simp -dsimp (disch := omega) only [xr, xo, xv, e0, e1, e4, d1, Bool.not_true]
    exact ⟨rfl, l', hp, dn_done hD hm, H1⟩
  · have d1 : decide ((r : Int) = i) = false := decide_eq_false (by omega)
    simp -dsimp (disch := omega) only [xr, xo, xv, e0, e1, e4, d1, Bool.not_false]
    have hb := swap_T' H1 hc hi' hr (by omega)
    refine T.call hb ?_
    clear hb
    rintro v w2 ⟨rfl, H2⟩
    simp -dsimp (disch := omega) only [xr, xo, xv, e0, e1, e4]
    have hri' := hri.resolve_left hne
    have hD' := dn_step hD hri'.1 hr hri'.2 hm hle
    have hb := least_T H2 hc (show r < (swp l' i r).length by rw [swp_len]; exact hr) (by rw [swp_len]; omega)
    refine T.call hb ?_
    clear hb
    rintro v w3 ⟨r2, rfl, g1, g2, g3, g4, H3⟩
    simp -dsimp (disch := omega) only [xr, xo, xv, e0, e1, e4]
    refine ⟨⟨r, r2, _, trivial, rfl, rfl, by rw [swp_len]; exact hr, g1, g2, g3, g4, (swp_perm hi' hr).trans hp, hD', H3⟩, ?_⟩
    simp only [inat_int]; omega

/-- The first is taken out. -/
theorem remove_T {b o : Nat} {c : List Value} {hv : Value} {l s : List HItem} {x : HItem} (H : S κ (pt b c :: sle 3 encItem hv l :: F) w) (hc : c[o]? = some hv) (hh : HeapOf l (x :: s)) (hl : l.length < 1000000000) :
    T Try.prog 27 [.pointer (some ⟨b, o, none⟩), .int .i64 0] w fun v w' => v = .agg (encItem x).toArray ∧ ∃ hv' l', HeapOf l' s ∧ S κ (pt b (c.set o hv') :: sle 3 encItem hv' l' :: F) w' := by
  have hlen := hh.length
  simp only [List.length_cons] at hlen
  have hob : o < c.length := (List.getElem?_eq_some_iff.1 hc).1
  refine T.of Try.func27 sl27 rfl ?_
  simp -dsimp (disch := omega) only [s27, xr, xo]
  refine H.al fun b1 w1 H1 => ?_
  obtain ⟨ad, cap, rfl, hrow⟩ := H1.sle_form 2 rfl encItem_len (by decide)
  obtain ⟨g, rfl, hr0, _⟩ := hrow 0 _ (hd_some (by omega))
  rw [hh.head] at hr0
  have hw := H1.cell 1 rfl
  simp -dsimp (disch := omega) only [xr, xo, xv, hw, hc, hr0]
  refine H1.al fun b2 w2 H2 => ?_
  simp -dsimp (disch := omega) only [xr, xo, xv, hw, hc, hr0, encItem_len]
  refine H2.sto 0 (off := 0) (vs := encItem x) rfl (by simp [encItem]) rfl fun w3 H3 => ?_
  have H3 : S κ (pt b c :: sle 3 encItem (.slice (some ⟨g, 0, none⟩) l.length cap) l :: pt b2 (encItem x) :: pt b1 [.int .u64 0, .int .u64 0, .int .i64 0] :: F) w3 := (H3.mv 3).mv 3
  have hw := H3.cell 0 rfl
  simp -dsimp (disch := omega) only [xr, xo, xv, hw, hc]
  have hb := swap_T' H3 hc (show 0 < l.length by omega) (show l.length - 1 < l.length by omega) hl
  have hcast : ((l.length - 1 : Nat) : Int) = (l.length : Int) - 1 := by omega
  rw [hcast] at hb
  refine T.call hb ?_
  clear hb
  rintro v w4 ⟨rfl, H4⟩
  have hw := H4.cell 0 rfl
  have ht : ((l.length : Int) - 1).toNat = l.length - 1 := by omega
  have hcap : l.length ≤ cap := by
    rcases H4.slc_form 1 rfl with ⟨hv, _⟩ | ⟨_, _, _, _, hv, h, _⟩
    · cases hv
    · cases hv; exact h
  simp -dsimp (disch := omega) only [xr, xo, xv, xs, hw, hc, ht]
  have H5 := H4.sle_cut 1 rfl encItem_len (by decide) (show l.length - 1 ≤ l.length by omega)
  refine H5.sto 0 (vs := [.slice (some ⟨g, 0, none⟩) (l.length - 1) cap]) rfl (by simp; omega) rfl fun w5 H6 => ?_
  obtain ⟨hp, hD⟩ := cut_perm hh
  have hls : ((swp l 0 (l.length - 1)).take (l.length - 1)).length = l.length - 1 := by rw [List.length_take, swp_len]; omega
  have hc' : (c.set o (.slice (some ⟨g, 0, none⟩) (l.length - 1) cap))[o]? = some (.slice (some ⟨g, 0, none⟩) (l.length - 1) cap) := by simp [hob]
  have H6 : S κ (pt b (c.set o (.slice (some ⟨g, 0, none⟩) (l.length - 1) cap)) :: sle 3 encItem (.slice (some ⟨g, 0, none⟩) (l.length - 1) cap) ((swp l 0 (l.length - 1)).take (l.length - 1)) :: pt b2 (encItem x) :: pt b1 [.int .u64 0, .int .u64 0, .int .i64 0] :: F) w5 := H6
  generalize (swp l 0 (l.length - 1)).take (l.length - 1) = l2 at hp hD hls H6
  have fin : ∀ {w6 : World} {l3 : List HItem}, l3.Perm l2 → Ord l3 → S κ (pt b (c.set o (.slice (some ⟨g, 0, none⟩) (l.length - 1) cap)) :: sle 3 encItem (.slice (some ⟨g, 0, none⟩) (l.length - 1) cap) l3 :: pt b2 (encItem x) :: pt b1 [.int .u64 0, .int .u64 0, .int .i64 0] :: F) w6 →
      HeapOf l3 s := fun h1 h2 _ => ⟨h2, h1.trans hp, (List.pairwise_cons.1 hh.sorted).2⟩
  by_cases h1 : 1 < l.length
  · have d1 : decide ((0 : Int) < (l.length : Int) - 1) = true := decide_eq_true (by omega)
    simp -dsimp (disch := omega) only [xr, xo, xv, d1]
    have hb := down_T H6 hc' (show 0 < l2.length by omega) (by omega) hD
    refine T.call hb ?_
    clear hb
    rintro v w6 ⟨rfl, l3, hp3, ho3, H7⟩
    simp -dsimp (disch := omega) only [xr, xo, xv, d1]
    have hb := up_T H7 hc' (show 0 < l3.length by rw [hp3.length_eq]; omega) (by rw [hp3.length_eq]; omega) ⟨fun k h1 h2 _ => ho3 k h1 h2, fun k _ _ _ h => absurd h (Nat.lt_irrefl _)⟩
    refine T.call hb ?_
    clear hb
    rintro v w7 ⟨rfl, l4, hp4, ho4, H8⟩
    have hr : rowOf w7 ⟨b2, 0, none⟩ 3 = some (encItem x) := H8.row 2 rfl 0 3 (by simp [encItem])
    simp -dsimp (disch := omega) only [xr, xo, xv, hr, encItem_len]
    refine H8.sto 3 (off := 0) (vs := encItem x) rfl (by simp [encItem]) rfl fun w8 H9 => ?_
    have hr : rowOf w8 ⟨b1, 0, none⟩ 3 = some (encItem x) := H9.row 3 rfl 0 3 (by simp [encItem, putL])
    simp -dsimp (disch := omega) only [xr, xo, xv, hr]
    exact ⟨trivial, _, l4, fin (hp4.trans hp3) ho4 H8, (H9.del 2).del 2⟩
  · have d1 : decide ((0 : Int) < (l.length : Int) - 1) = false := decide_eq_false (by omega)
    have hr : rowOf w5 ⟨b2, 0, none⟩ 3 = some (encItem x) := H6.row 2 rfl 0 3 (by simp [encItem])
    simp -dsimp (disch := omega) only [xr, xo, xv, d1, hr, encItem_len]
    refine H6.sto 3 (off := 0) (vs := encItem x) rfl (by simp [encItem]) rfl fun w8 H9 => ?_
    have hr : rowOf w8 ⟨b1, 0, none⟩ 3 = some (encItem x) := H9.row 3 rfl 0 3 (by simp [encItem, putL])
    simp -dsimp (disch := omega) only [xr, xo, xv, hr]
    have hl2 : l2 = [] := List.eq_nil_of_length_eq_zero (by omega)
    subst hl2
    exact ⟨trivial, _, [], fin (List.Perm.refl _) (fun k _ h => absurd h (Nat.not_lt_zero _)) H6, (H9.del 2).del 2⟩

theorem Push_T {b o : Nat} {c : List Value} {hv : Value} {l s : List HItem} {at_ seq id : Nat} (H : S κ (pt b c :: sle 3 encItem hv l :: F) w) (hc : c[o]? = some hv) (hs : c[o + 1]? = some (.int .u64 seq)) (hh : HeapOf l s) (hlt : ∀ y ∈ s, y.seq < seq)
    (hl : l.length < 1000000) (hseq : seq < 9000000000000000000) :
    T Try.prog 70 [.pointer (some ⟨b, o, none⟩), .int .u64 at_, .int .i64 id] w fun v w' => v = .int .u64 seq ∧ ∃ hv' l', HeapOf l' (ins ⟨at_, seq, id⟩ s) ∧ S κ (pt b ((c.set o hv').set (o + 1) (.int .u64 (seq + 1 : Nat))) :: sle 3 encItem hv' l' :: F) w' := by
  have hob : o < c.length := (List.getElem?_eq_some_iff.1 hc).1
  have hob1 : o + 1 < c.length := (List.getElem?_eq_some_iff.1 hs).1
  refine T.of Try.func70 sl70 rfl ?_
  simp -dsimp (disch := omega) only [s70, xr, xo]
  refine H.dr fun w1 H1 => ?_
  have hw := H1.cell 0 rfl
  simp -dsimp (disch := omega) only [xr, xo, xv, hw, hc, hs]
  refine H1.bs fun b1 w2 H2 => ?_
  have hw2 := H2.cell 1 rfl
  have hr : rowOf w2 ⟨b1, 0, none⟩ 3 = some (encItem ⟨at_, seq, id⟩) := H2.row 0 rfl 0 3 (Nat.le_refl _)
  simp -dsimp (disch := omega) only [xp, xr, xo, xv, hw, hw2]
  refine H2.sle_app 2 (y := ⟨at_, seq, id⟩) rfl encItem_len hr rfl (by rfl) (by decide) (by omega) fun v3 w3 H3 => ?_
  have hw := H3.cell 1 rfl
  have hv := H3.slc_one 2 rfl
  simp -dsimp (disch := omega) only [xp, xr, xo, xv, hw, hv.1]
  refine H3.sto 1 (vs := [v3]) rfl (by simp; omega) (by simp [hv.2]) fun w4 H4 => ?_
  have H4 : S κ (pt b (c.set o v3) :: sle 3 encItem v3 (l ++ [⟨at_, seq, id⟩]) :: pt b1 (encItem ⟨at_, seq, id⟩) :: F) w4 := (H4.mv 2).mv 2
  have hw := H4.cell 0 rfl
  have hc4 : (c.set o v3)[o]? = some v3 := by simp [hob]
  have hs4 : (c.set o v3)[o + 1]? = some (.int .u64 seq) := by rw [List.getElem?_set]; simpa using hs
  simp -dsimp (disch := omega) only [xp, xr, xo, xv, hw, hs4]
  refine H4.sto 0 (vs := [.int .u64 (seq + 1)]) rfl (by simp; omega) rfl fun w5 H5 => ?_
  have H5 : S κ (pt b ((c.set o v3).set (o + 1) (.int .u64 (seq + 1 : Nat))) :: sle 3 encItem v3 (l ++ [⟨at_, seq, id⟩]) :: pt b1 (encItem ⟨at_, seq, id⟩) :: F) w5 := H5
  have hw := H5.cell 0 rfl
  obtain ⟨a5, cap5, hv5, _⟩ := H5.sle_form 1 rfl encItem_len (by decide)
  have hv5 : v3 = .slice a5 (l.length + 1) cap5 := by rw [hv5, List.length_append]; rfl
  have hc5 : ((c.set o v3).set (o + 1) (.int .u64 (seq + 1 : Nat)))[o]? = some v3 := by simp [hob]
  have hs5 : ((c.set o v3).set (o + 1) (.int .u64 (seq + 1 : Nat)))[o + 1]? = some (.int .u64 (seq + 1 : Nat)) := by simp [hob1]
  generalize hcc : (c.set o v3).set (o + 1) (.int .u64 (seq + 1 : Nat)) = cc at H5 hw hc5 hs5
  have hcast : ((l.length + 1 : Nat) : Int) - 1 = (l.length : Int) := by omega
  simp -dsimp (disch := omega) only [xp, xr, xo, xv, hw, hc5, hv5, hcast]
  have hb := up_T H5 hc5 (i0 := l.length) (by simp) (by simp; omega) (push_inv hh.ord _)
  refine T.call hb ?_
  clear hb
  rintro v w6 ⟨rfl, l', hp', ho', H6⟩
  have hw := H6.cell 0 rfl
  simp -dsimp (disch := omega) only [xp, xr, xo, xv, hw, hs5]
  refine ⟨?_, v3, l', ⟨ho', ?_, ins_sorted hh.sorted hlt⟩, by rw [hcc]; exact H6.del 2⟩
  · congr 1; omega
  · exact (hp'.trans (List.perm_append_comm.trans ((hh.perm.cons _)))).trans (ins_perm _ _).symm

theorem Wake_T {b o now : Nat} {c : List Value} {hv : Value} {l s : List HItem} (H : S κ (pt b c :: sle 3 encItem hv l :: F) w) (hc : c[o]? = some hv) (hh : HeapOf l s) (hl : l.length < 1000000) :
    T Try.prog 18 [.pointer (some ⟨b, o, none⟩), .int .u64 now] w fun v w' => ∃ hv' l', HeapOf l' (s.dropWhile fun x => decide (x.at_ ≤ now)) ∧ S κ (pt b (c.set o hv') :: sle 3 encItem hv' l' :: sle 3 encItem v (s.takeWhile fun x => decide (x.at_ ≤ now)) :: F) w' := by
  have hob : o < c.length := (List.getElem?_eq_some_iff.1 hc).1
  refine T.of Try.func18 sl18 rfl ?_
  simp -dsimp (disch := omega) only [s18, xr, xo, xv]
  refine ⟨fun e w => ∃ dn rs hv' l', e 0 = .pointer (some ⟨b, o, none⟩) ∧ e 1 = .int .u64 now ∧ s = dn ++ rs ∧ (∀ x ∈ dn, x.at_ ≤ now) ∧ HeapOf l' rs ∧ S κ (pt b (c.set o hv') :: sle 3 encItem hv' l' :: sle 3 encItem (e 5) dn :: F) w,
    fun e _ => s.length - slen (e 5), ⟨[], s, hv, l, by simp -dsimp (disch := omega) only [xr], by simp -dsimp (disch := omega) only [xr], rfl, fun _ h => absurd h (by simp), hh, ?_⟩, ?_⟩
  · simp -dsimp (disch := omega) only [xr]
    have h1 : c.set o hv = c := by
      have := (List.getElem?_eq_some_iff.1 hc).2
      rw [← this]; exact List.set_getElem_self _
    rw [h1]
    exact (((H.slc_nil (esz := 3)).mv 2).mv 2)
  rintro e w1 ⟨dn, rs, hv', l', e0, e1, hs, hdn, hh', H1⟩
  have hlen : l'.length ≤ l.length := by rw [hh.length, hh'.length, hs, List.length_append]; omega
  have hdl : dn.length ≤ l.length := by rw [hh.length, hs, List.length_append]; omega
  have fin : (∀ x r, rs = x :: r → ¬ x.at_ ≤ now) → (s.dropWhile fun x => decide (x.at_ ≤ now)) = rs ∧ (s.takeWhile fun x => decide (x.at_ ≤ now)) = dn := by
    intro hx
    have hd : ∀ a ∈ dn, decide (a.at_ ≤ now) = true := fun a ha => by simpa using hdn a ha
    rw [hs, List.dropWhile_append_of_pos hd, List.takeWhile_append_of_pos hd]
    rcases rs with _ | ⟨x, r⟩
    · simp
    · have := hx x r rfl
      simp [this]
  have hc' : (c.set o hv')[o]? = some hv' := by simp [hob]
  generalize hcc : c.set o hv' = c' at H1 hc'
  obtain ⟨ao, co, ho, _⟩ := H1.sle_form 2 rfl encItem_len (by decide)
  obtain ⟨ad, cap, rfl, hrow⟩ := H1.sle_form 1 rfl encItem_len (by decide)
  have hw := H1.cell 0 rfl
  rcases rs with _ | ⟨x, rs⟩
  · have d1 : decide ((0 : Int) < (l'.length : Nat)) = false := decide_eq_false (by rw [hh'.length]; simp)
    simp -dsimp (disch := omega) only [xr, xo, xv, e0, e1, hw, hc', d1]
    obtain ⟨f1, f2⟩ := fin (fun x r h => by cases h)
    rw [f1, f2]
    exact ⟨_, l', hh', by rw [hcc]; exact H1⟩
  · have hlp : 0 < l'.length := by rw [hh'.length]; simp
    have d1 : decide ((0 : Int) < (l'.length : Nat)) = true := decide_eq_true (by omega)
    obtain ⟨g, rfl, hr0, hr1⟩ := hrow 0 _ (hd_some hlp)
    have hr2 := hr1 0 (by omega)
    rw [hh'.head] at hr2
    simp only [Nat.zero_mul, Nat.add_zero] at hr2
    by_cases hx : x.at_ ≤ now
    · have d2 : decide ((x.at_ : Int) ≤ now) = true := decide_eq_true (by omega)
      simp -dsimp (disch := omega) only [xr, xo, xv, e0, e1, hw, hc', d1, hr2, encItem, d2]
      have hb := remove_T H1 hc' hh' (by omega)
      refine T.call hb ?_
      clear hb
      rintro v w2 ⟨rfl, hv2, l2, hh2, H2⟩
      simp -dsimp (disch := omega) only [xr, xo, xv, encItem_len]
      refine H2.bs fun b1 w3 H3 => ?_
      simp -dsimp (disch := omega) only [xr, xo, xv, encItem_len, ho]
      rw [ho] at H3
      refine H3.sle_app 3 (y := x) (bytes := 24) rfl encItem_len (H3.row 0 rfl 0 3 (by simp [encItem, putL])) rfl (by rfl) (by decide) (by omega) fun v4 w4 H4 => ?_
      simp -dsimp (disch := omega) only [xr, xo, xv]
      obtain ⟨a4, c4, hv4, _⟩ := H4.sle_form 3 rfl encItem_len (by decide)
      refine ⟨⟨dn ++ [x], rs, hv2, l2, e0, e1, by rw [hs]; simp, fun y hy => ?_, hh2, ?_⟩, ?_⟩
      · rcases List.mem_append.1 hy with hy | hy
        · exact hdn y hy
        · rw [List.mem_singleton.1 hy]; exact hx
      · have : c.set o hv2 = c'.set o hv2 := by rw [← hcc, List.set_set]
        rw [this]
        exact H4.drop
      · rw [hv4, slen_slice, slen_slice, hs]; simp; omega
    · have d2 : decide ((x.at_ : Int) ≤ now) = false := decide_eq_false (by omega)
      simp -dsimp (disch := omega) only [xr, xo, xv, e0, e1, hw, hc', d1, hr2, encItem, d2]
      obtain ⟨f1, f2⟩ := fin (fun y r h => by cases h; exact hx)
      rw [f1, f2]
      exact ⟨_, l', hh', by rw [hcc]; exact H1⟩

theorem List_T {b o : Nat} {c : List Value} {hv : Value} {l s : List HItem} (H : S κ (pt b c :: sle 3 encItem hv l :: F) w) (hc : c[o]? = some hv) (hh : HeapOf l s) (hl : l.length < 1000000) :
    T Try.prog 20 [.pointer (some ⟨b, o, none⟩)] w fun v w' => S κ (pt b c :: sle 3 encItem hv l :: sle 3 encItem v s :: F) w' := by
  refine T.of Try.func20 sl20 rfl ?_
  simp -dsimp (disch := omega) only [s20, xr, xo, xv]
  refine H.bs fun b1 w1 H1 => ?_
  have H1 : S κ (sle 3 encItem (.slice (some ⟨b1, 0, none⟩) 0 0) [] :: pt b c :: sle 3 encItem hv l :: F) w1 := H1.slc_mk rfl
  have hw := H1.cell 1 rfl
  simp -dsimp (disch := omega) only [xr, xo, xv, hw, hc]
  refine H1.sle_apps 0 2 rfl rfl encItem_len (fun _ => rfl) (by rfl) (by decide) (by simp; omega) fun v2 w2 H2 => ?_
  have hv2 := H2.slc_one 0 rfl
  simp -dsimp (disch := omega) only [xr, xo, xv, hv2.1]
  refine H2.al fun b3 w3 H3 => ?_
  simp -dsimp (disch := omega) only [xr, xo, xv, hv2.1]
  refine H3.sto 0 (vs := [v2, .int .u64 0]) rfl (by simp) (by rw [List.all_cons, hv2.2]; rfl) fun w4 H4 => ?_
  simp -dsimp (disch := omega) only [xr, xo, xv, hv2.1]
  have H4 : S κ (pt b3 [v2, .int .u64 0] :: sle 3 encItem v2 l :: sle 3 encItem (.slice none 0 0) [] :: pt b c :: sle 3 encItem hv l :: F) w4 := (((H4.slc_nil (esz := 3)).mv 2).mv 2)
  refine ⟨fun e w => ∃ dn rs l', e 3 = .pointer (some ⟨b3, 0, none⟩) ∧ s = dn ++ rs ∧ HeapOf l' rs ∧ ∃ hv', S κ (pt b3 [hv', .int .u64 0] :: sle 3 encItem hv' l' :: sle 3 encItem (e 4) dn :: pt b c :: sle 3 encItem hv l :: F) w,
    fun e _ => s.length - slen (e 4), ⟨[], s, l, by simp -dsimp (disch := omega) only [xr], rfl, hh, v2, ?_⟩, ?_⟩
  · simp -dsimp (disch := omega) only [xr]
    exact H4
  rintro e w1 ⟨dn, rs, l', e3, hs, hh', hv', H1⟩
  have hlen : l'.length ≤ l.length := by rw [hh.length, hh'.length, hs, List.length_append]; omega
  have hdl : dn.length ≤ l.length := by rw [hh.length, hs, List.length_append]; omega
  obtain ⟨ao, co, ho, _⟩ := H1.sle_form 2 rfl encItem_len (by decide)
  obtain ⟨ad, cap, rfl, hrow⟩ := H1.sle_form 1 rfl encItem_len (by decide)
  have hw := H1.cell 0 rfl
  rcases rs with _ | ⟨x, rs⟩
  · have d1 : decide ((0 : Int) < (l'.length : Nat)) = false := decide_eq_false (by rw [hh'.length]; simp)
    simp -dsimp (disch := omega) only [xr, xo, xv, e3, hw, d1]
    rw [List.append_nil] at hs
    subst hs
    exact ((H1.drop.drop).mv 2).mv 2
  · have hlp : 0 < l'.length := by rw [hh'.length]; simp
    have d1 : decide ((0 : Int) < (l'.length : Nat)) = true := decide_eq_true (by omega)
    simp -dsimp (disch := omega) only [xr, xo, xv, e3, hw, d1]
    have hb := remove_T (o := 0) H1 rfl hh' (by omega)
    refine T.call hb ?_
    clear hb
    rintro v w2 ⟨rfl, hv2, l2, hh2, H2⟩
    simp -dsimp (disch := omega) only [xr, xo, xv, encItem_len]
    refine H2.bs fun b1 w3 H3 => ?_
    simp -dsimp (disch := omega) only [xr, xo, xv, encItem_len, ho]
    rw [ho] at H3
    refine H3.sle_app 3 (y := x) (bytes := 24) rfl encItem_len (H3.row 0 rfl 0 3 (by simp [encItem, putL])) rfl (by rfl) (by decide) (by omega) fun v4 w4 H4 => ?_
    simp -dsimp (disch := omega) only [xr, xo, xv]
    obtain ⟨a4, c4, hv4, _⟩ := H4.sle_form 3 rfl encItem_len (by decide)
    refine ⟨⟨dn ++ [x], rs, l2, e3, by rw [hs]; simp, hh2, hv2, H4.drop⟩, ?_⟩
    rw [hv4, slen_slice, slen_slice, hs]; simp; omega
end Go.Proofs.Ytojbbajmldbffaa
