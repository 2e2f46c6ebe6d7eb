/- How the walk runs: the rules, as one bundle for simp; what stands behind a stop is not looked into. -/
import Derived.Test.YtojbbajmldbffaaSep
set_option linter.unusedSimpArgs false
set_option linter.unusedVariables false
namespace Go.Shu

theorem add_mk (b o n : Nat) : (⟨b, o, none⟩ : Addr).add n = ⟨b, o + n, none⟩ := add_none rfl n
theorem cdX_t {p : Prop} {A B : Unit → Prop} [Decidable p] (h : p) : cdX (decide p) A B = A () := by simp [cdX, h]
theorem cdX_f {p : Prop} {A B : Unit → Prop} [Decidable p] (h : ¬p) : cdX (decide p) A B = B () := by simp [cdX, h]
theorem cdX_nt {p : Prop} {A B : Unit → Prop} [Decidable p] (h : p) : cdX (!decide p) A B = B () := by simp [cdX, h]
theorem cdX_nf {p : Prop} {A B : Unit → Prop} [Decidable p] (h : ¬p) : cdX (!decide p) A B = A () := by simp [cdX, h]
theorem gdX_t {p : Prop} {A B : Unit → Prop} [Decidable p] (b : Bool) (h : p) : gdX (.bool (decide p)) b A B = gdX (.bool true) b A B := by simp [gdX, h]
theorem gdX_f {p : Prop} {A B : Unit → Prop} [Decidable p] (b : Bool) (h : ¬p) : gdX (.bool (decide p)) b A B = gdX (.bool false) b A B := by simp [gdX, h]
theorem wrap_i64 {x : Int} (h1 : -9223372036854775808 ≤ x) (h2 : x ≤ 9223372036854775807) : IntKind.wrap .i64 x = x := by
  have : IntKind.wrap .i64 x = (x + 9223372036854775808) % 18446744073709551616 - 9223372036854775808 := by
    simp [IntKind.wrap, IntKind.signed, IntKind.bits, Int.bmod_def]
    try omega
  omega
theorem wrap_u64 {x : Int} (h1 : 0 ≤ x) (h2 : x ≤ 18446744073709551615) : IntKind.wrap .u64 x = x := by
  simp [IntKind.wrap, IntKind.signed, IntKind.bits]
  omega

/-- The rules. -/
theorem xr :
    (∀ P Kp Q e w, X P Kp .skip Q e w = Q .n e w) ∧
    (∀ P Kp l Q e w, X P Kp (.ops l) Q e w = Xs P Kp l (Q .n) e w) ∧
    (∀ P Kp l Q e w, X P Kp (.draw l) Q e w = drX w fun w => Xd P Kp l [] (Q .n) e w ()) ∧
    (∀ P Kp a b Q e w, X P Kp (.seq a b) Q e w = X P Kp a (thenX (X P Kp b Q) Q) e w) ∧
    (∀ P Kp c a b Q e w, X P Kp (.cond c a b) Q e w = tX (ev e c) fun t => cdX t (fun _ => X P Kp a Q e w) (fun _ => X P Kp b Q e w)) ∧
    (∀ P Kp id b Q e w, X P Kp (.block id b) Q e w = X P Kp b (blockX id Q) e w) ∧
    (∀ P Kp id Q e w, X P Kp (.exit id) Q e w = Q (.x id) e w) ∧
    (∀ P Kp Q e w, X P Kp .ret Q e w = Q .r e w) ∧
    (∀ K Q, thenX K Q .n = K) ∧ (∀ K Q id, thenX K Q (.x id) = Q (.x id)) ∧ (∀ K Q, thenX K Q .r = Q .r) ∧
    (∀ Q id, blockX id Q .n = Q .n) ∧ (∀ Q id, blockX id Q (.x id) = Q .n) ∧ (∀ Q id j, j ≠ id → blockX id Q (.x j) = Q (.x j)) ∧ (∀ Q id, blockX id Q .r = Q .r) ∧
    (∀ s R e w, retQ s R .n e w = resL e w s [] fun l => R (resV l) w) ∧ (∀ s R e w, retQ s R .r e w = resL e w s [] fun l => R (resV l) w) ∧
    (∀ e w acc K, resL e w [] acc K = K acc) ∧ (∀ e w r rs acc K, resL e w (r :: rs) acc K = resX e w r fun v => resL e w rs (acc ++ [v]) K) ∧
    (∀ e w t K, resX e w (.t t) K = K (e t)) ∧ (∀ e w t K, resX e w (.c none t) K = pX (e t) fun a => ldX (w.cell? a) K) ∧ (∀ e w n t K, resX e w (.c (some n) t) K = pX (e t) fun a => ldX (rowOf w a n) fun l => K (.agg l.toArray)) ∧
    (∀ v, resV ([] ++ [v]) = v) ∧ (∀ v u, resV ([] ++ [v] ++ [u]) = .tuple #[v, u]) ∧ (∀ v u x, resV ([] ++ [v] ++ [u] ++ [x]) = .tuple #[v, u, x]) ∧ (∀ v, resV [v] = v) ∧ (∀ v u, resV [v, u] = .tuple #[v, u]) ∧ (∀ v u x, resV [v, u, x] = .tuple #[v, u, x]) ∧ (resV [] = .tuple #[]) ∧
    (∀ P Kp K e w, Xs P Kp [] K e w = K e w) ∧
    (∀ P Kp s r K e w, Xs P Kp (s :: r) K e w = gX e s.guard (fun _ => opX P e w s.op (fun v w' => Xs P Kp r K (upo e s.dst v) w') Kp) (fun _ => Xs P Kp r K (upo e s.dst undef) w)) ∧
    (∀ P Kp pend K e w u, Xd P Kp .n pend K e w u = K e w) ∧
    (∀ P Kp i s r pend K e w u, Xd P Kp (.q i s r) pend K e w u = gX e s.guard (fun _ => qX e w s.op fun v => Xd P Kp r (if s.op.loads then (i, ldJ e w s.op) :: pend else pend) K (upo e s.dst v) w ()) (fun _ => Xd P Kp r pend K (upo e s.dst undef) w ())) ∧
    (∀ P Kp sv s r pend K e w u, Xd P Kp (.x sv s r) pend K e w u = gX e s.guard (fun _ => opX P e w s.op (fun v w' => survX pend sv w w' (fun _ => Xd P Kp r pend K (upo e s.dst v) w' ())) Kp) (fun _ => Xd P Kp r pend K (upo e s.dst undef) w ())) ∧
    (∀ pend w w' K, survX pend [] w w' K = K ()) ∧
    (∀ e A B, gX e none A B = A ()) ∧ (∀ e t b A B, gX e (some (t, b)) A B = gdX (e t) b A B) ∧
    (∀ b A B, gdX (.bool b) b A B = A ()) ∧ (∀ A B, gdX (.bool true) false A B = B ()) ∧ (∀ A B, gdX (.bool false) true A B = B ()) ∧ (∀ b A B, gdX undef b A B = B ()) ∧
    (∀ e v, upo e none v = e) ∧ (∀ e d v, upo e (some d) v = upd e d v) ∧
    (∀ e t, ev e (.tmp t) = e t) ∧ (∀ e v, ev e (.const v) = v) ∧ (∀ e f, ev e (.func f) = .func (.func f) #[] #[]) ∧ (∀ e g, ev e (.global g) = .pointer (some ⟨g, 0, none⟩)) ∧
    (∀ a K, pX (.pointer (some a)) K = K a) ∧ (∀ t K, tX (.bool t) K = K t) ∧ (∀ {α : Type} (v : α) K, ldX (some v) K = K v) ∧ (∀ K, reqX True K = K ()) ∧
    (∀ A B, cdX true A B = A ()) ∧ (∀ A B, cdX false A B = B ()) ∧
    (∀ a K, nilX (.pointer (some a)) K = K (.pointer (some a))) ∧ (∀ f x y K, nilX (.func (.func f) x y) K = K (.func (.func f) x y)) ∧
    (∀ a n c K, slcX (.slice a n c) K = K a n c) ∧ (∀ k n K, intX (.int k n) K = K n) ∧ (∀ {α : Type} (a : α) K, someX (some a) K = K a) ∧
    (∀ d K, bndX none d K = K d) ∧ (∀ v d K, bndX (some v) d K = intX v K) ∧
    (∀ len a esz k n K, ixX len a esz (.int k n) K = reqX (0 ≤ n ∧ n < (len : Int)) (fun _ => K (.pointer (some (a.add (n.toNat * esz)))))) ∧
    (∀ b o n, (⟨b, o, none⟩ : Addr).add n = ⟨b, o + n, none⟩) ∧
    (∀ a, argE [a] = upd noE 0 a) ∧ (∀ a b, argE [a, b] = upd (upd noE 1 b) 0 a) ∧ (∀ a b c, argE [a, b, c] = upd (upd (upd noE 2 c) 1 b) 0 a) ∧ (∀ a b c d, argE [a, b, c, d] = upd (upd (upd (upd noE 3 d) 2 c) 1 b) 0 a) ∧
    (∀ a b c d f, argE [a, b, c, d, f] = upd (upd (upd (upd (upd noE 4 f) 3 d) 2 c) 1 b) 0 a) ∧ (∀ a b c d f g, argE [a, b, c, d, f, g] = upd (upd (upd (upd (upd (upd noE 5 g) 4 f) 3 d) 2 c) 1 b) 0 a) ∧
    (∀ e d v, upd e d v d = v) ∧ (∀ e d x v, x ≠ d → upd e d v x = e x) ∧ (∀ (a : Value) l, (a :: l)[0]? = some a) ∧ (∀ (a : Value) l n, (a :: l)[n + 1]? = l[n]?) ∧
    (∀ p K, p → reqX p K = K ()) ∧ (∀ n : Nat, ((n : Int)).toNat = n) ∧ (∀ n : Nat, 0 + n = n) ∧ (∀ n : Nat, n + 0 = n) ∧ (∀ n : Nat, n * 1 = n) ∧ (∀ n : Nat, ((n : Int) + 1).toNat = n + 1) ∧ (((0 : Int)).toNat = 0) ∧ (∀ n : Nat, 0 * n = 0) ∧
    (∀ k n, (Value.int k n).cells.toList = [.int k n]) ∧ (∀ b, (Value.bool b).cells.toList = [.bool b]) ∧ (∀ a, (Value.pointer a).cells.toList = [.pointer a]) ∧ (∀ a n c, (Value.slice a n c).cells.toList = [.slice a n c]) ∧ (∀ l : List Value, (Value.agg l.toArray).cells.toList = l) ∧
    (∀ f x y, (Value.func f x y).cells.toList = [.func f x y]) ∧ (∀ a, (Value.map a).cells.toList = [.map a]) ∧ (∀ s, (Value.string s).cells.toList = [.string s]) ∧ (Value.nilFunc.cells.toList = [.nilFunc]) ∧ (∀ t v, (Value.iface t v).cells.toList = [.iface t v]) ∧ (Value.nilIface.cells.toList = [.nilIface]) ∧
    (∀ (a : Value) l, (a :: l).length = l.length + 1) ∧ (([] : List Value).length = 0) ∧ (∀ b, xor false b = b) ∧ (∀ b, xor true b = !b) := by
  repeat' apply And.intro
  all_goals (intros; first | rfl | (simp [blockX, survX, gdX, undef, ldX, reqX, cdX, add_mk, upd, Value.cells, *]; done) | (omega))

/-- Slices of slices. -/
def slX (s : Nat) (a : Option Addr) (n c : Nat) (lo hi mx : Option Value) (K : Value → Prop) (_ : Dum K := ()) : Prop := bndX mx c fun m => bndX hi n fun h => bndX lo 0 fun l =>
  reqX (0 ≤ l ∧ l ≤ h ∧ h ≤ m ∧ m ≤ (c : Int) ∧ (mx.isSome → hi.isSome)) (fun _ => K (.slice (if m.toNat = l.toNat then a else a.map (·.add (l.toNat * s))) (h.toNat - l.toNat) (m.toNat - l.toNat)))
def slaX (len esz : Nat) (a : Addr) (K : Value → Prop) (_ : Dum K := ()) : Prop := bndX none len fun h => bndX none 0 fun l =>
  reqX (0 ≤ l ∧ l ≤ h ∧ h ≤ (len : Int)) (fun _ => K (.slice (some (if len = l.toNat then a else a.add (l.toNat * esz))) (h.toNat - l.toNat) (len - l.toNat)))
theorem slX_h (s b o n c : Nat) (k : IntKind) (h : Int) (K : Value → Prop) : slX s (some ⟨b, o, none⟩) n c none (some (.int k h)) none K = reqX (0 ≤ h ∧ h ≤ c) fun _ => K (.slice (some ⟨b, o, none⟩) h.toNat c) := by
  simp [slX, bndX, intX, reqX, add_mk, and_assoc]
theorem slX_h0 (s n c : Nat) (k : IntKind) (h : Int) (K : Value → Prop) : slX s none n c none (some (.int k h)) none K = reqX (0 ≤ h ∧ h ≤ c) fun _ => K (.slice none h.toNat c) := by
  simp [slX, bndX, intX, reqX, and_assoc]
theorem slX_hm (s b o n c : Nat) (k j : IntKind) (h m : Int) (K : Value → Prop) : slX s (some ⟨b, o, none⟩) n c none (some (.int k h)) (some (.int j m)) K = reqX (0 ≤ h ∧ h ≤ m ∧ m ≤ c) fun _ => K (.slice (some ⟨b, o, none⟩) h.toNat m.toNat) := by
  simp [slX, bndX, intX, reqX, add_mk, and_assoc]
theorem slX_hm0 (s n c : Nat) (k j : IntKind) (h m : Int) (K : Value → Prop) : slX s none n c none (some (.int k h)) (some (.int j m)) K = reqX (0 ≤ h ∧ h ≤ m ∧ m ≤ c) fun _ => K (.slice none h.toNat m.toNat) := by
  simp [slX, bndX, intX, reqX, and_assoc]
theorem slX_l (s b o n c : Nat) (k : IntKind) (l : Int) (K : Value → Prop) : slX s (some ⟨b, o, none⟩) n c (some (.int k l)) none none K = reqX (0 ≤ l ∧ l ≤ n ∧ n ≤ c) fun _ => K (.slice (some (if c = l.toNat then ⟨b, o, none⟩ else ⟨b, o + l.toNat * s, none⟩)) (n - l.toNat) (c - l.toNat)) := by
  simp only [slX, bndX, intX, reqX, Option.map_some, add_mk, Int.toNat_natCast]
  by_cases hc : c = l.toNat
  · simp only [if_pos hc]; simp [and_assoc]
  · simp only [if_neg hc]; simp [and_assoc]
theorem slX_l0 (s n c : Nat) (k : IntKind) (l : Int) (K : Value → Prop) : slX s none n c (some (.int k l)) none none K = reqX (0 ≤ l ∧ l ≤ n ∧ n ≤ c) fun _ => K (.slice none (n - l.toNat) (c - l.toNat)) := by
  simp [slX, bndX, intX, reqX, and_assoc]
theorem slX_lh (s b o n c : Nat) (k j : IntKind) (l h : Int) (K : Value → Prop) : slX s (some ⟨b, o, none⟩) n c (some (.int k l)) (some (.int j h)) none K = reqX (0 ≤ l ∧ l ≤ h ∧ h ≤ c) fun _ => K (.slice (some (if c = l.toNat then ⟨b, o, none⟩ else ⟨b, o + l.toNat * s, none⟩)) (h.toNat - l.toNat) (c - l.toNat)) := by
  simp only [slX, bndX, intX, reqX, Option.map_some, add_mk, Int.toNat_natCast]
  by_cases hc : c = l.toNat
  · simp only [if_pos hc]; simp [and_assoc]
  · simp only [if_neg hc]; simp [and_assoc]
theorem slX_lh0 (s n c : Nat) (k j : IntKind) (l h : Int) (K : Value → Prop) : slX s none n c (some (.int k l)) (some (.int j h)) none K = reqX (0 ≤ l ∧ l ≤ h ∧ h ≤ c) fun _ => K (.slice none (h.toNat - l.toNat) (c - l.toNat)) := by
  simp [slX, bndX, intX, reqX, and_assoc]
theorem slaX_a (len s b o : Nat) (K : Value → Prop) : slaX len s ⟨b, o, none⟩ K = K (.slice (some ⟨b, o, none⟩) len len) := by
  simp [slaX, bndX, reqX, add_mk]
/-- Cuts. -/
theorem xs :
    (∀ s b o n c k h K, slX s (some ⟨b, o, none⟩) n c none (some (.int k h)) none K = reqX (0 ≤ h ∧ h ≤ c) fun _ => K (.slice (some ⟨b, o, none⟩) h.toNat c)) ∧
    (∀ s n c k h K, slX s none n c none (some (.int k h)) none K = reqX (0 ≤ h ∧ h ≤ c) fun _ => K (.slice none h.toNat c)) ∧
    (∀ s b o n c k j h m K, slX s (some ⟨b, o, none⟩) n c none (some (.int k h)) (some (.int j m)) K = reqX (0 ≤ h ∧ h ≤ m ∧ m ≤ c) fun _ => K (.slice (some ⟨b, o, none⟩) h.toNat m.toNat)) ∧
    (∀ s n c k j h m K, slX s none n c none (some (.int k h)) (some (.int j m)) K = reqX (0 ≤ h ∧ h ≤ m ∧ m ≤ c) fun _ => K (.slice none h.toNat m.toNat)) ∧
    (∀ s b o n c k l K, slX s (some ⟨b, o, none⟩) n c (some (.int k l)) none none K = reqX (0 ≤ l ∧ l ≤ n ∧ n ≤ c) fun _ => K (.slice (some (if c = l.toNat then ⟨b, o, none⟩ else ⟨b, o + l.toNat * s, none⟩)) (n - l.toNat) (c - l.toNat))) ∧
    (∀ s n c k l K, slX s none n c (some (.int k l)) none none K = reqX (0 ≤ l ∧ l ≤ n ∧ n ≤ c) fun _ => K (.slice none (n - l.toNat) (c - l.toNat))) ∧
    (∀ s b o n c k j l h K, slX s (some ⟨b, o, none⟩) n c (some (.int k l)) (some (.int j h)) none K = reqX (0 ≤ l ∧ l ≤ h ∧ h ≤ c) fun _ => K (.slice (some (if c = l.toNat then ⟨b, o, none⟩ else ⟨b, o + l.toNat * s, none⟩)) (h.toNat - l.toNat) (c - l.toNat))) ∧
    (∀ s n c k j l h K, slX s none n c (some (.int k l)) (some (.int j h)) none K = reqX (0 ≤ l ∧ l ≤ h ∧ h ≤ c) fun _ => K (.slice none (h.toNat - l.toNat) (c - l.toNat))) ∧
    (∀ len s b o K, slaX len s ⟨b, o, none⟩ K = K (.slice (some ⟨b, o, none⟩) len len)) :=
  ⟨slX_h, slX_h0, slX_hm, slX_hm0, slX_l, slX_l0, slX_lh, slX_lh0, slaX_a⟩

/-- What the operations do. -/
theorem xo :
    (∀ P e w x K Kp, opX P e w (.mv x) K Kp = K (ev e x) w) ∧
    (∀ P e w c a b K Kp, opX P e w (.pick c a b) K Kp = tX (ev e c) fun t => K (bif t then ev e a else ev e b) w) ∧
    (∀ P e w z ps K Kp, opX P e w (.bd z ps) K Kp = ldX (fillL z (pvals e ps)) fun l => K (.agg l.toArray) w) ∧
    (∀ P e w a K Kp, opX P e w (.ld a) K Kp = pX (ev e a) fun a => ldX (w.cell? a) fun v => K v w) ∧
    (∀ P e w n a K Kp, opX P e w (.lda n a) K Kp = pX (ev e a) fun a => ldX (rowOf w a n) fun l => K (.agg l.toArray) w) ∧
    (∀ P e w x K Kp, opX P e w (.nil x) K Kp = nilX (ev e x) fun v => K v w) ∧
    (∀ P e w op x y K Kp, opX P e w (.bin op x y) K Kp = ldX (binV op (ev e x) (ev e y)) fun v => K v w) ∧
    (∀ P e w n x y K Kp, opX P e w (.beq n x y) K Kp = ldX (beqV n (ev e x) (ev e y)) fun v => K v w) ∧
    (∀ P e w op x K Kp, opX P e w (.un op x) K Kp = ldX (unV op (ev e x)) fun v => K v w) ∧
    (∀ P e w k x K Kp, opX P e w (.cv k x) K Kp = ldX (cvV k (ev e x)) fun v => K v w) ∧
    (∀ P e w o x K Kp, opX P e w (.fa o x) K Kp = pX (ev e x) fun a => K (.pointer (some (a.add o))) w) ∧
    (∀ P e w o n x K Kp, opX P e w (.fd o n x) K Kp = ldX (fdV o n (ev e x)) fun v => K v w) ∧
    (∀ P e w s x i K Kp, opX P e w (.ix s x i) K Kp = slcX (ev e x) fun a n _ => someX a fun a => ixX n a s (ev e i) fun v => K v w) ∧
    (∀ P e w l s x i K Kp, opX P e w (.ixa l s x i) K Kp = pX (ev e x) fun a => ixX l a s (ev e i) fun v => K v w) ∧
    (∀ P e w b x K Kp, opX P e w (.len b x) K Kp = ldX (lenV b (ev e x)) fun v => K v w) ∧
    (∀ P e w x y K Kp, opX P e w (.min x y) K Kp = ldX (mmV false (ev e x) (ev e y)) fun v => K v w) ∧
    (∀ P e w x y K Kp, opX P e w (.max x y) K Kp = ldX (mmV true (ev e x) (ev e y)) fun v => K v w) ∧
    (∀ P e w x i K Kp, opX P e w (.ext x i) K Kp = ldX (extV (ev e x) i) fun v => K v w) ∧
    (∀ P e w t x K Kp, opX P e w (.mi t x) K Kp = K (.iface t (ev e x)) w) ∧
    (∀ P e w f x y K Kp, opX P e w (.mf f x y) K Kp = K (.func f (vals e x).toArray (vals e y).toArray) w) ∧
    (∀ P e w t z K Kp, opX P e w (.al t z) K Kp = alX w t z K) ∧
    (∀ P e w t x K Kp, opX P e w (.box t x) K Kp = alX w t (ev e x).cells.toList K) ∧
    (∀ P e w t n z ps K Kp, opX P e w (.bs t n z ps) K Kp = ldX (fillL z (pvals e ps)) fun l => bsX w t n l K) ∧
    (∀ P e w n a v K Kp, opX P e w (.st n a v) K Kp = pX (ev e a) fun a => reqX ((ev e v).cells.toList.length = n) (fun _ => stX w a (ev e v).cells.toList fun w' => K undef w')) ∧
    (∀ P e w t s b z x y K Kp, opX P e w (.app t s b z x y) K Kp = appX t s b z (ev e x) (ev e y) w K) ∧
    (∀ P e w f l K Kp, opX P e w (.call f l) K Kp = callX P f (vals e l) w K Kp) ∧
    (∀ P e w s x lo hi mx K Kp, opX P e w (.sl s x lo hi mx) K Kp = qX e w (.sl s x lo hi mx) fun v => K v w) ∧
    (∀ P e w n s x lo hi K Kp, opX P e w (.sla n s x lo hi) K Kp = qX e w (.sla n s x lo hi) fun v => K v w) ∧
    (∀ P e w o t K Kp, opX P e w (.raw o t) K Kp = rawX P (execOp (ev e) ⟨none, o, t, "", #[], none⟩) w K Kp) ∧
    (∀ e w x K, qX e w (.mv x) K = K (ev e x)) ∧
    (∀ e w c a b K, qX e w (.pick c a b) K = tX (ev e c) fun t => K (bif t then ev e a else ev e b)) ∧
    (∀ e w z ps K, qX e w (.bd z ps) K = ldX (fillL z (pvals e ps)) fun l => K (.agg l.toArray)) ∧
    (∀ e w a K, qX e w (.ld a) K = pX (ev e a) fun a => ldX (w.cell? a) K) ∧
    (∀ e w n a K, qX e w (.lda n a) K = pX (ev e a) fun a => ldX (rowOf w a n) fun l => K (.agg l.toArray)) ∧
    (∀ e w x K, qX e w (.nil x) K = nilX (ev e x) K) ∧
    (∀ e w op x y K, qX e w (.bin op x y) K = ldX (binV op (ev e x) (ev e y)) K) ∧
    (∀ e w n x y K, qX e w (.beq n x y) K = ldX (beqV n (ev e x) (ev e y)) K) ∧
    (∀ e w op x K, qX e w (.un op x) K = ldX (unV op (ev e x)) K) ∧
    (∀ e w k x K, qX e w (.cv k x) K = ldX (cvV k (ev e x)) K) ∧
    (∀ e w o x K, qX e w (.fa o x) K = pX (ev e x) fun a => K (.pointer (some (a.add o)))) ∧
    (∀ e w o n x K, qX e w (.fd o n x) K = ldX (fdV o n (ev e x)) K) ∧
    (∀ e w s x i K, qX e w (.ix s x i) K = slcX (ev e x) fun a n _ => someX a fun a => ixX n a s (ev e i) K) ∧
    (∀ e w l s x i K, qX e w (.ixa l s x i) K = pX (ev e x) fun a => ixX l a s (ev e i) K) ∧
    (∀ e w b x K, qX e w (.len b x) K = ldX (lenV b (ev e x)) K) ∧
    (∀ e w x y K, qX e w (.min x y) K = ldX (mmV false (ev e x) (ev e y)) K) ∧
    (∀ e w x y K, qX e w (.max x y) K = ldX (mmV true (ev e x) (ev e y)) K) ∧
    (∀ e w x i K, qX e w (.ext x i) K = ldX (extV (ev e x) i) K) ∧
    (∀ e w t x K, qX e w (.mi t x) K = K (.iface t (ev e x))) ∧
    (∀ e w f x y K, qX e w (.mf f x y) K = K (.func f (vals e x).toArray (vals e y).toArray)) ∧
    (∀ e w s x h K, qX e w (.sl s x none (some h) none) K = slcX (ev e x) fun a n c => slX s a n c none (some (ev e h)) none K) ∧
    (∀ e w s x l K, qX e w (.sl s x (some l) none none) K = slcX (ev e x) fun a n c => slX s a n c (some (ev e l)) none none K) ∧
    (∀ e w s x l h K, qX e w (.sl s x (some l) (some h) none) K = slcX (ev e x) fun a n c => slX s a n c (some (ev e l)) (some (ev e h)) none K) ∧
    (∀ e w s x h m K, qX e w (.sl s x none (some h) (some m)) K = slcX (ev e x) fun a n c => slX s a n c none (some (ev e h)) (some (ev e m)) K) ∧
    (∀ e w n s x K, qX e w (.sla n s x none none) K = pX (ev e x) fun a => slaX n s a K) ∧
    (∀ e x l, vals e (x :: l) = ev e x :: vals e l) ∧ (∀ e, vals e [] = []) := by
  repeat' apply And.intro
  all_goals (intros; rfl)

theorem ldX_fill (c : List Value) (off s : Nat) (v : Value) (r : List (Nat × Nat × Value)) (K : List Value → Prop) : ldX (fillL c ((off, s, v) :: r)) K = reqX (v.cells.toList.length = s) fun _ => reqX (off + s ≤ c.length) fun _ => ldX (fillL (putL c off v.cells.toList) r) K := by
  simp only [fillL, ldX, reqX]
  by_cases h1 : v.cells.toList.length = s
  · by_cases h2 : off + s ≤ c.length
    · rw [if_pos ⟨h1, h2⟩]; simp only [h1, h2, true_and]
    · rw [if_neg (fun h => h2 h.2)]; simp [h2]
  · rw [if_neg (fun h => h1 h.1)]
    apply propext; constructor
    · rintro ⟨v, h, _⟩; cases h
    · rintro ⟨h, _⟩; exact absurd h h1

/-- Values. -/
theorem xv :
    (∀ k a b, binV .add (.int k a) (.int k b) = some (.int k (k.wrap (a + b)))) ∧ (∀ k a b, binV .sub (.int k a) (.int k b) = some (.int k (k.wrap (a - b)))) ∧ (∀ k a b, binV .mul (.int k a) (.int k b) = some (.int k (k.wrap (a * b)))) ∧
    (∀ k a b, b ≠ 0 → binV .quo (.int k a) (.int k b) = some (.int k (k.wrap (a.tdiv b)))) ∧ (∀ k a b, b ≠ 0 → binV .rem (.int k a) (.int k b) = some (.int k (a.tmod b))) ∧
    (∀ k a b, binV .eql (.int k a) (.int k b) = some (.bool (decide (a = b)))) ∧ (∀ k a b, binV .neq (.int k a) (.int k b) = some (.bool (!decide (a = b)))) ∧ (∀ k a b, binV .lss (.int k a) (.int k b) = some (.bool (decide (a < b)))) ∧
    (∀ k a b, binV .leq (.int k a) (.int k b) = some (.bool (decide (a ≤ b)))) ∧ (∀ k a b, binV .gtr (.int k a) (.int k b) = some (.bool (decide (b < a)))) ∧ (∀ k a b, binV .geq (.int k a) (.int k b) = some (.bool (decide (b ≤ a)))) ∧
    (∀ k a b, binV .and (.int k a) (.int k b) = some (.int k (k.wrap (BitVec.ofInt k.bits a &&& BitVec.ofInt k.bits b).toNat))) ∧
    (∀ x, -9223372036854775808 ≤ x → x ≤ 9223372036854775807 → IntKind.wrap .i64 x = x) ∧ (∀ x, 0 ≤ x → x ≤ 18446744073709551615 → IntKind.wrap .u64 x = x) ∧
    (∀ n a b, beqV n (.bool a) (.bool b) = some (.bool (xor n (a == b)))) ∧ (∀ b, unV .not (.bool b) = some (.bool (!b))) ∧ (∀ k j n, cvV k (.int j n) = some (.int k (k.wrap n))) ∧
    (∀ a n c, lenV false (.slice a n c) = some (.int .i64 n)) ∧ (∀ s : ByteArray, lenV true (.string s) = some (.int .i64 s.size)) ∧
    (∀ k j a b, mmV false (.int k a) (.int j b) = some (.int k (if b < a then b else a))) ∧ (∀ k j a b, mmV true (.int k a) (.int j b) = some (.int k (if a < b then b else a))) ∧
    (∀ l : List Value, ∀ i, extV (.tuple l.toArray) i = l[i]?) ∧
    (∀ l : List Value, ∀ i, fdV i none (.agg l.toArray) = l[i]?) ∧ (∀ l : List Value, ∀ i n, fdV i (some n) (.agg l.toArray) = some (.agg ((l.drop i).take n).toArray)) ∧
    (∀ a b : Value, (bif true then a else b) = a) ∧ (∀ a b : Value, (bif false then a else b) = b) ∧
    (∀ e, pvals e [] = []) ∧ (∀ e o s x r, pvals e ((o, s, x) :: r) = (o, s, ev e x) :: pvals e r) ∧ (∀ c K, ldX (fillL c []) K = K c) ∧
    (∀ c off s v r K, ldX (fillL c ((off, s, v) :: r)) K = reqX (v.cells.toList.length = s) fun _ => reqX (off + s ≤ c.length) fun _ => ldX (fillL (putL c off v.cells.toList) r) K) ∧
    (∀ c off, putL c off [] = c) ∧ (∀ c off v r, putL c off (v :: r) = putL (c.set off v) (off + 1) r) ∧
    (∀ (a b : Value) l, (a :: l).set 0 b = b :: l) ∧ (∀ (a b : Value) l n, (a :: l).set (n + 1) b = a :: l.set n b) ∧ (∀ (b : Value) n, ([] : List Value).set n b = []) ∧
    (∀ (a : Value) l, List.drop 0 (a :: l) = a :: l) ∧ (∀ (a : Value) l n, List.drop (n + 1) (a :: l) = List.drop n l) ∧ (∀ (l : List Value), List.take 0 l = []) ∧ (∀ (a : Value) l n, List.take (n + 1) (a :: l) = a :: List.take n l) := by
  repeat' apply And.intro
  all_goals intros
  all_goals first
    | rfl
    | (rename_i h; simp [binV, intV, h]; done)
    | (simp [binV, intV]; done)
    | exact wrap_i64 (by assumption) (by assumption)
    | exact wrap_u64 (by assumption) (by assumption)
    | (simp [fdV, extV, fillL, ldX, reqX]; done)
    | (rename_i c off s v r K; exact ldX_fill c off s v r K)

/-- What stays in sight over an operation of a region that draws. -/
def jX (v : Value) (K : Addr → Prop) (_ : Dum K := ()) : Prop := match v with | .pointer (some a) => K a | _ => True
theorem survX_if (c : Bool) (i : Nat) (P : World → Prop) (l : List (Nat × (World → Prop))) (sv : List Nat) (w w' : World) (K : Unit → Prop) :
    survX (if c = true then (i, P) :: l else l) sv w w' K = (bif c && sv.contains i then reqX (P w → P w') fun _ => survX l sv w w' K else survX l sv w w' K) := by
  cases c
  · rfl
  · by_cases h : i ∈ sv
    · have : sv.contains i = true := by simpa using h
      simp only [Bool.true_and, this, cond_true, if_true]
      simp [survX, reqX, h, and_assoc]
    · have : sv.contains i = false := by simpa using h
      simp only [Bool.true_and, this, cond_false, if_true]
      simp [survX, h]
/-- The loads that must hold. -/
theorem xp :
    (∀ c i P l sv w w' K, survX (if c = true then (i, P) :: l else l) sv w w' K = (bif c && sv.contains i then reqX (P w → P w') fun _ => survX l sv w w' K else survX l sv w w' K)) ∧ (∀ sv w w' K, survX [] sv w w' K = K ()) ∧
    (∀ e w x w', ldJ e w (.ld x) w' = jX (ev e x) fun a => w'.cell? a = w.cell? a) ∧ (∀ e w n x w', ldJ e w (.lda n x) w' = jX (ev e x) fun a => rowOf w' a n = rowOf w a n) ∧
    (∀ a K, jX (.pointer (some a)) K = K a) ∧
    (∀ x, SOp.loads (.mv x) = false) ∧ (∀ x a b, SOp.loads (.pick x a b) = false) ∧ (∀ z p, SOp.loads (.bd z p) = false) ∧ (∀ a, SOp.loads (.ld a) = true) ∧ (∀ n a, SOp.loads (.lda n a) = true) ∧ (∀ a, SOp.loads (.nil a) = false) ∧
    (∀ o x y, SOp.loads (.bin o x y) = false) ∧ (∀ o x y, SOp.loads (.beq o x y) = false) ∧ (∀ o x, SOp.loads (.un o x) = false) ∧ (∀ k x, SOp.loads (.cv k x) = false) ∧ (∀ o x, SOp.loads (.fa o x) = false) ∧ (∀ o n x, SOp.loads (.fd o n x) = false) ∧
    (∀ s x i, SOp.loads (.ix s x i) = false) ∧ (∀ l s x i, SOp.loads (.ixa l s x i) = false) ∧ (∀ s x a b c, SOp.loads (.sl s x a b c) = false) ∧ (∀ n s x a b, SOp.loads (.sla n s x a b) = false) ∧ (∀ b x, SOp.loads (.len b x) = false) ∧
    (∀ x y, SOp.loads (.min x y) = false) ∧ (∀ x y, SOp.loads (.max x y) = false) ∧ (∀ x i, SOp.loads (.ext x i) = false) ∧ (∀ t x, SOp.loads (.mi t x) = false) ∧ (∀ f x y, SOp.loads (.mf f x y) = false) ∧
    (∀ i l, List.contains (α := Nat) (i :: l) i = true) ∧ (∀ i j l, i ≠ j → List.contains (α := Nat) (j :: l) i = l.contains i) ∧ (∀ i, List.contains (α := Nat) [] i = false) ∧ (∀ b, (true || b) = true) ∧ (∀ b, (false || b) = b) ∧ (∀ b, (true && b) = b) ∧ (∀ b, (false && b) = false) ∧
    (∀ p q : Prop, (bif true then p else q) = p) ∧ (∀ p q : Prop, (bif false then p else q) = q) ∧ (∀ p : Prop, (p → True) = True) ∧ (∀ p : Prop, (True → p) = p) := by
  refine ⟨survX_if, ?_⟩
  repeat' apply And.intro
  all_goals (intros; first | rfl | (simp [survX, ldJ, jX, SOp.loads]; done) | (rw [ldJ, jX]) | (simp; done) | (simp [*]; done))

theorem quo_nat (a b : Nat) : ((a : Int)).tdiv b = ((a / b : Nat) : Int) := by
  rw [Int.tdiv_eq_ediv_of_nonneg (by omega)]; simp
theorem rem_nat (a b : Nat) : ((a : Int)).tmod b = ((a % b : Nat) : Int) := by
  rw [Int.tmod_eq_emod_of_nonneg (by omega)]; simp
/-- The slot of an int. -/
def inat (v : Value) : Nat := match v with | .int _ n => n.toNat | _ => 0
theorem inat_int (k : IntKind) (n : Int) : inat (.int k n) = n.toNat := rfl

end Go.Shu
