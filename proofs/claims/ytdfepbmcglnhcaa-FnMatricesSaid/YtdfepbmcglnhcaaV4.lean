import Derived.Test.YtdfepbmcglnhcaaV3
set_option linter.unusedVariables false
set_option linter.unusedSimpArgs false
/-! plain: ends in balls, sides, and how they move -/
namespace Pl
namespace M2

/-- what is in the whole ball, as columns -/
def In (p : Int) (x y : Int) : Prop := ∃ (t : Nat) (u v : Int), x = p ^ t * u ∧ y = p ^ t * v ∧ ¬ p ∣ v
def Out (p : Int) (x y : Int) : Prop := ∃ (t : Nat) (u v : Int), x = p ^ t * u ∧ y = p ^ t * (p * v) ∧ ¬ p ∣ u

theorem in_or_out {p : Int} (hp : 2 ≤ p) {x y : Int} (h : x ≠ 0 ∨ y ≠ 0) : In p x y ∨ Out p x y := by
  by_cases hy : y = 0
  · have hx : x ≠ 0 := by rcases h with h | h; exact h; exact absurd hy h
    obtain ⟨m, hm, hpm⟩ := vl_spec hp hx
    exact .inr ⟨vl p x, m, 0, hm, by simp [hy], hpm⟩
  · obtain ⟨m, hm, hpm⟩ := vl_spec hp hy
    by_cases hd : p ^ vl p y ∣ x
    · obtain ⟨u, hu⟩ := hd
      exact .inl ⟨vl p y, u, m, hu, hm, hpm⟩
    · have hx : x ≠ 0 := by rintro rfl; exact hd (Int.dvd_zero _)
      obtain ⟨n, hn, hpn⟩ := vl_spec hp hx
      have hlt : vl p x < vl p y := by
        rcases Nat.lt_or_ge (vl p x) (vl p y) with h | h
        · exact h
        · exact absurd ((dvd_iff_le_vl hp hx _).2 h) hd
      refine .inr ⟨vl p x, n, p ^ (vl p y - vl p x - 1) * m, hn, ?_, hpn⟩
      have e : vl p y = vl p x + (1 + (vl p y - vl p x - 1)) := by omega
      have e2 : p ^ vl p y = p ^ vl p x * (p * p ^ (vl p y - vl p x - 1)) := by
        conv => lhs; rw [e]
        rw [Int.pow_add, Int.pow_add]
        have : p ^ 1 = p := by grind
        rw [this]
      conv => lhs; rw [hm, e2]
      ac_rfl

theorem not_in_out {p : Int} (hp : 2 ≤ p) {x y : Int} (h : In p x y) (k : Out p x y) : False := by
  obtain ⟨t, u, v, h1, h2, h3⟩ := h
  obtain ⟨s, u', v', k1, k2, k3⟩ := k
  have e1 : p ^ (s + 1) ∣ p ^ t * v := by rw [← h2, k2, Int.pow_succ]; exact ⟨v', by ac_rfl⟩
  have e2 : p ^ t ∣ p ^ s * u' := by rw [← k1, h1]; exact Int.dvd_mul_right _ _
  have := pow_dvd_pow_mul hp h3 e1
  have := pow_dvd_pow_mul hp k3 e2
  omega

def Iw (p : Int) (K : M2) : Prop := ∃ (k : Nat) (a b c d : Int), K = ⟨p ^ k * a, p ^ k * b, p ^ k * (p * c), p ^ k * d⟩ ∧ ¬ p ∣ a ∧ ¬ p ∣ d
def Ap (p : Int) (K : M2) : Prop := ∃ (k : Nat) (a b c d : Int), K = ⟨p ^ k * (p * a), p ^ k * b, p ^ k * (p * c), p ^ k * (p * d)⟩ ∧ ¬ p ∣ b

theorem ndvd_mul {p : Int} (hp : IsP p) {a b : Int} (ha : ¬ p ∣ a) (hb : ¬ p ∣ b) : ¬ p ∣ a * b := fun h => (hp.euclid h).elim ha hb
theorem ndvd_add {p a b : Int} (ha : ¬ p ∣ a) (hb : p ∣ b) : ¬ p ∣ a + b := fun h => ha (by have := Int.dvd_sub h hb; simpa using this)
theorem ndvd_add' {p a b : Int} (ha : p ∣ a) (hb : ¬ p ∣ b) : ¬ p ∣ a + b := by rw [Int.add_comm]; exact ndvd_add hb ha
theorem ndvd_neg {p a : Int} (ha : ¬ p ∣ a) : ¬ p ∣ -a := by rwa [Int.dvd_neg]

theorem Iw.in_ {p : Int} (hp : IsP p) {K : M2} (hK : Iw p K) {x y : Int} (h : In p x y) : In p (K.a * x + K.b * y) (K.c * x + K.d * y) := by
  obtain ⟨k, a, b, c, d, rfl, ha, hd⟩ := hK
  obtain ⟨t, u, v, rfl, rfl, hv⟩ := h
  refine ⟨k + t, a * u + b * v, p * (c * u) + d * v, ?_, ?_, ndvd_add' ⟨_, rfl⟩ (ndvd_mul hp hd hv)⟩ <;> rw [Int.pow_add] <;> grind

theorem Iw.out_ {p : Int} (hp : IsP p) {K : M2} (hK : Iw p K) {x y : Int} (h : Out p x y) : Out p (K.a * x + K.b * y) (K.c * x + K.d * y) := by
  obtain ⟨k, a, b, c, d, rfl, ha, hd⟩ := hK
  obtain ⟨t, u, v, rfl, rfl, hu⟩ := h
  refine ⟨k + t, a * u + p * (b * v), c * u + d * v, ?_, ?_, ndvd_add (ndvd_mul hp ha hu) ⟨_, rfl⟩⟩ <;> rw [Int.pow_add] <;> grind

theorem Iw.mul {p : Int} (hp : IsP p) {K L : M2} (hK : Iw p K) (hL : Iw p L) : Iw p (K.mul L) := by
  obtain ⟨k, a, b, c, d, rfl, ha, hd⟩ := hK
  obtain ⟨l, a', b', c', d', rfl, ha', hd'⟩ := hL
  refine ⟨k + l, a * a' + p * (b * c'), a * b' + b * d', c * a' + d * c', p * (c * b') + d * d', ?_, ndvd_add (ndvd_mul hp ha ha') ⟨_, rfl⟩, ndvd_add' ⟨_, rfl⟩ (ndvd_mul hp hd hd')⟩
  ext <;> simp only [M2.mul, Int.pow_add] <;> grind

theorem Iw.adj {p : Int} {K : M2} (hK : Iw p K) : Iw p K.adj := by
  obtain ⟨k, a, b, c, d, rfl, ha, hd⟩ := hK
  refine ⟨k, d, -b, -c, a, ?_, hd, ha⟩
  ext <;> simp only [M2.adj] <;> grind

theorem Iw.smul {p : Int} (hp : IsP p) {K : M2} (hK : Iw p K) {s : Int} (hs : s ≠ 0) : Iw p (smul s K) := by
  obtain ⟨k, a, b, c, d, rfl, ha, hd⟩ := hK
  obtain ⟨m, hm, hpm⟩ := vl_spec hp.two hs
  generalize vl p s = j at hm
  subst hm
  refine ⟨j + k, m * a, m * b, m * c, m * d, ?_, ndvd_mul hp hpm ha, ndvd_mul hp hpm hd⟩
  ext <;> simp only [M2.smul, Int.pow_add] <;> grind

theorem Ap.smul {p : Int} (hp : IsP p) {K : M2} (hK : Ap p K) {s : Int} (hs : s ≠ 0) : Ap p (smul s K) := by
  obtain ⟨k, a, b, c, d, rfl, hb⟩ := hK
  obtain ⟨m, hm, hpm⟩ := vl_spec hp.two hs
  generalize vl p s = j at hm
  subst hm
  refine ⟨j + k, m * a, m * b, m * c, m * d, ?_, ndvd_mul hp hpm hb⟩
  ext <;> simp only [M2.smul, Int.pow_add] <;> grind

theorem Ap.left {p : Int} (hp : IsP p) {K L : M2} (hK : Iw p K) (hL : Ap p L) : Ap p (K.mul L) := by
  obtain ⟨k, a, b, c, d, rfl, ha, hd⟩ := hK
  obtain ⟨l, a', b', c', d', rfl, hb'⟩ := hL
  refine ⟨k + l, a * a' + b * c', a * b' + p * (b * d'), p * (c * a') + d * c', c * b' + d * d', ?_, ndvd_add (ndvd_mul hp ha hb') ⟨_, rfl⟩⟩
  ext <;> simp only [M2.mul, Int.pow_add] <;> grind

theorem Ap.right {p : Int} (hp : IsP p) {K L : M2} (hK : Ap p K) (hL : Iw p L) : Ap p (K.mul L) := by
  obtain ⟨k, a, b, c, d, rfl, hb⟩ := hK
  obtain ⟨l, a', b', c', d', rfl, ha', hd'⟩ := hL
  refine ⟨k + l, a * a' + b * c', p * (a * b') + b * d', c * a' + p * (d * c'), c * b' + d * d', ?_, ndvd_add' ⟨_, rfl⟩ (ndvd_mul hp hb hd')⟩
  ext <;> simp only [M2.mul, Int.pow_add] <;> grind

theorem cancel_pow {p : Int} (hp : IsP p) {m x y : Int} {j k : Nat} (hm : ¬ p ∣ m) (hjk : j ≤ k) (h : p ^ j * m * x = p ^ k * y) : ∃ z, x = p ^ (k - j) * z ∧ m * z = y := by
  have hm0 : m ≠ 0 := by rintro rfl; exact hm (Int.dvd_zero _)
  have e : p ^ k = p ^ j * p ^ (k - j) := by rw [← Int.pow_add]; congr 1; omega
  have hpj : p ^ j ≠ 0 := by have := pow_pos hp.two j; omega
  have h1 : m * x = p ^ (k - j) * y := by
    apply Int.eq_of_mul_eq_mul_left hpj
    rw [← Int.mul_assoc, h, e, Int.mul_assoc]
  have hv : vl p m = 0 := by
    refine vl_unique (m := m) hp.two hm0 (by simp) hm
  have h2 : p ^ (k - j) ∣ x := by
    refine dvd_of_mul hp hm0 ?_
    rw [hv, Nat.add_zero, Int.mul_comm, h1]; exact Int.dvd_mul_right _ _
  obtain ⟨z, hz⟩ := h2
  refine ⟨z, hz, ?_⟩
  have hpk : p ^ (k - j) ≠ 0 := by have := pow_pos hp.two (k - j); omega
  apply Int.eq_of_mul_eq_mul_left hpk
  rw [← h1, hz]; ac_rfl

theorem le_of_cancel {p : Int} (hp : IsP p) {m x y : Int} {j k : Nat} (hy : ¬ p ∣ y) (h : p ^ j * m * x = p ^ k * y) : j ≤ k :=
  pow_dvd_pow_mul hp.two hy (by rw [← h, Int.mul_assoc]; exact Int.dvd_mul_right _ _)

theorem Iw.unsmul {p : Int} (hp : IsP p) {K : M2} {s : Int} (hs : s ≠ 0) (h : Iw p (M2.smul s K)) : Iw p K := by
  obtain ⟨k, a, b, c, d, e, ha, hd⟩ := h
  obtain ⟨m, hm, hpm⟩ := vl_spec hp.two hs
  generalize vl p s = j at hm
  subst hm
  simp only [M2.smul, M2.mk.injEq] at e
  obtain ⟨e1, e2, e3, e4⟩ := e
  have hjk := le_of_cancel hp ha e1
  obtain ⟨a', h1, h1'⟩ := cancel_pow hp hpm hjk e1
  obtain ⟨b', h2, h2'⟩ := cancel_pow hp hpm hjk e2
  obtain ⟨c', h3, h3'⟩ := cancel_pow hp hpm hjk e3
  obtain ⟨d', h4, h4'⟩ := cancel_pow hp hpm hjk e4
  have hc : p ∣ c' := by
    rcases hp.euclid (a := m) (b := c') ⟨c, h3'⟩ with h | h
    · exact absurd h hpm
    · exact h
  obtain ⟨c2, rfl⟩ := hc
  refine ⟨k - j, a', b', c2, d', ?_, fun h => ha ?_, fun h => hd ?_⟩
  · ext <;> assumption
  · rw [← h1']; exact Int.dvd_trans h (Int.dvd_mul_left _ _)
  · rw [← h4']; exact Int.dvd_trans h (Int.dvd_mul_left _ _)

theorem Ap.unsmul {p : Int} (hp : IsP p) {K : M2} {s : Int} (hs : s ≠ 0) (h : Ap p (M2.smul s K)) : Ap p K := by
  obtain ⟨k, a, b, c, d, e, hb⟩ := h
  obtain ⟨m, hm, hpm⟩ := vl_spec hp.two hs
  generalize vl p s = j at hm
  subst hm
  simp only [M2.smul, M2.mk.injEq] at e
  obtain ⟨e1, e2, e3, e4⟩ := e
  have hjk := le_of_cancel hp hb e2
  obtain ⟨a', h1, h1'⟩ := cancel_pow hp hpm hjk e1
  obtain ⟨b', h2, h2'⟩ := cancel_pow hp hpm hjk e2
  obtain ⟨c', h3, h3'⟩ := cancel_pow hp hpm hjk e3
  obtain ⟨d', h4, h4'⟩ := cancel_pow hp hpm hjk e4
  have hdv : ∀ {x y : Int}, m * x = p * y → ∃ z, x = p * z := fun {x y} h => by
    rcases hp.euclid (a := m) (b := x) ⟨y, h⟩ with h | h
    · exact absurd h hpm
    · exact h
  obtain ⟨a2, rfl⟩ := hdv h1'
  obtain ⟨c2, rfl⟩ := hdv h3'
  obtain ⟨d2, rfl⟩ := hdv h4'
  refine ⟨k - j, a2, b', c2, d2, ?_, fun h => hb ?_⟩
  · ext <;> assumption
  · rw [← h2']; exact Int.dvd_trans h (Int.dvd_mul_left _ _)

/-- two matrices tell the same side -/
def Eqv (p : Int) (X Y : M2) : Prop := Iw p (X.adj.mul Y)
/-- the matrix that turns a side -/
def turn (p : Int) : M2 := ⟨0, 1, p, 0⟩
/-- sides without common ends -/
def Dis (p : Int) (X Y : M2) : Prop := Ap p (X.adj.mul Y)

theorem adj_mul_mul (g X Y : M2) : (g.mul X).adj.mul (g.mul Y) = smul g.det (X.adj.mul Y) := by
  rw [adj_mul, mul_assoc, ← mul_assoc g.adj, adj_mul_self, smul_mul, mul_smul, one_mul]
theorem mid (X Y Z : M2) : (X.adj.mul Y).mul (Y.adj.mul Z) = smul Y.det (X.adj.mul Z) := by
  rw [mul_assoc, ← mul_assoc Y, mul_adj, smul_mul, one_mul, mul_smul]

section
variable {p : Int} {X Y Z g : M2}
theorem Eqv.symm (h : Eqv p X Y) : Eqv p Y X := by unfold Eqv at *; have := h.adj; rwa [adj_mul, adj_adj] at this
theorem Eqv.turn (h : Eqv p X Y) : Eqv p (X.mul (turn p)) (Y.mul (M2.turn p)) := by
  unfold Eqv at *
  have e : (X.mul (M2.turn p)).adj.mul (Y.mul (M2.turn p)) = ((M2.turn p).adj.mul (X.adj.mul Y)).mul (M2.turn p) := by
    rw [adj_mul, mul_assoc, mul_assoc, mul_assoc]
  rw [e]
  obtain ⟨k, a, b, c, d, e2, ha, hd⟩ := h
  rw [e2]
  refine ⟨k + 1, -d, -c, -b, -a, ?_, ndvd_neg hd, ndvd_neg ha⟩
  ext <;> simp only [M2.turn, adj, mul, Int.pow_succ] <;> grind
theorem turn_turn : (X.mul (turn p)).mul (turn p) = smul p X := by
  ext <;> simp only [turn, mul, smul] <;> grind
theorem Dis.symm (h : Dis p X Y) : Dis p Y X := by
  unfold Dis at *
  obtain ⟨k, a, b, c, d, e, hb⟩ := h
  have e2 : Y.adj.mul X = (X.adj.mul Y).adj := by rw [adj_mul, adj_adj]
  rw [e2, e]
  refine ⟨k, d, -b, -c, a, ?_, ndvd_neg hb⟩
  ext <;> simp only [adj] <;> grind

/-- the ends of a side -/
def Has (p : Int) (X : M2) (x y : Int) : Prop := In p (X.adj.a * x + X.adj.b * y) (X.adj.c * x + X.adj.d * y)

theorem app_ne (hx : X.det ≠ 0) {x y : Int} (h : x ≠ 0 ∨ y ≠ 0) : X.a * x + X.b * y ≠ 0 ∨ X.c * x + X.d * y ≠ 0 := by
  by_cases h1 : X.a * x + X.b * y = 0
  · by_cases h2 : X.c * x + X.d * y = 0
    · exfalso
      have e1 : X.det * x = X.d * (X.a * x + X.b * y) - X.b * (X.c * x + X.d * y) := by simp only [det]; grind
      have e2 : X.det * y = X.a * (X.c * x + X.d * y) - X.c * (X.a * x + X.b * y) := by simp only [det]; grind
      rw [h1, h2, Int.mul_zero, Int.mul_zero, Int.sub_zero] at e1 e2
      rcases h with h | h
      · exact Int.mul_ne_zero hx h e1
      · exact Int.mul_ne_zero hx h e2
    · exact .inr h2
  · exact .inl h1

variable (hp : IsP p)
include hp
theorem iw_one : Iw p one := ⟨0, 1, 0, 0, 1, by ext <;> simp [one], fun h => by have := Int.le_of_dvd (by omega) h; have := hp.two; omega, fun h => by have := Int.le_of_dvd (by omega) h; have := hp.two; omega⟩
theorem Eqv.refl (hx : X.det ≠ 0) : Eqv p X X := by unfold Eqv; rw [adj_mul_self]; exact (iw_one hp).smul hp hx
theorem Eqv.trans (hy : Y.det ≠ 0) (h : Eqv p X Y) (k : Eqv p Y Z) : Eqv p X Z := by
  unfold Eqv at *; have := h.mul hp k; rw [mid] at this; exact this.unsmul hp hy
theorem Eqv.left (hg : g.det ≠ 0) (h : Eqv p X Y) : Eqv p (g.mul X) (g.mul Y) := by
  unfold Eqv at *; rw [adj_mul_mul]; exact h.smul hp hg
theorem Eqv.smul_right {s : Int} (hs : s ≠ 0) (h : Eqv p X Y) : Eqv p X (smul s Y) := by
  unfold Eqv at *; rw [mul_smul]; exact h.smul hp hs
theorem det_turn_ne (hx : X.det ≠ 0) : (X.mul (turn p)).det ≠ 0 := by
  rw [det_mul]; exact Int.mul_ne_zero hx (by simp only [turn, det]; have := hp.two; omega)
theorem Dis.eqv {X' Y' : M2} (hx : X.det ≠ 0) (hy : Y.det ≠ 0) (h : Dis p X Y) (k : Eqv p X X') (l : Eqv p Y Y') : Dis p X' Y' := by
  unfold Dis at *
  have h1 := Ap.left hp (k.symm) h
  rw [mid] at h1
  have h2 := Ap.right hp (h1.unsmul hp hx) l
  rw [mid] at h2
  exact h2.unsmul hp hy
theorem Dis.left (hg : g.det ≠ 0) (h : Dis p X Y) : Dis p (g.mul X) (g.mul Y) := by
  unfold Dis at *; rw [adj_mul_mul]; exact h.smul hp hg
theorem Dis.smul_right {s : Int} (hs : s ≠ 0) (h : Dis p X Y) : Dis p X (smul s Y) := by
  unfold Dis at *; rw [mul_smul]; exact h.smul hp hs
theorem in_smul {s x y : Int} (hs : s ≠ 0) : In p (s * x) (s * y) ↔ In p x y := by
  by_cases h0 : x ≠ 0 ∨ y ≠ 0
  · have fw : ∀ {x y : Int}, In p x y → In p (s * x) (s * y) := by
      rintro x y ⟨t, u, v, rfl, rfl, hv⟩
      obtain ⟨m, hm, hpm⟩ := vl_spec hp.two hs
      generalize vl p s = j at hm
      subst hm
      refine ⟨j + t, m * u, m * v, ?_, ?_, ndvd_mul hp hpm hv⟩ <;> rw [Int.pow_add] <;> ac_rfl
    constructor
    · intro h
      rcases in_or_out hp.two h0 with k | k
      · exact k
      · exfalso
        refine not_in_out hp.two h ?_
        obtain ⟨t, u, v, rfl, rfl, hu⟩ := k
        obtain ⟨m, hm, hpm⟩ := vl_spec hp.two hs
        generalize vl p s = j at hm
        subst hm
        refine ⟨j + t, m * u, m * v, ?_, ?_, ndvd_mul hp hpm hu⟩ <;> rw [Int.pow_add] <;> ac_rfl
    · exact fw
  · have hx : x = 0 := by omega
    have hy : y = 0 := by omega
    subst hx; subst hy
    simp

theorem Has.eqv (hx : X.det ≠ 0) {x y : Int} (k : Eqv p X Y) (h : Has p X x y) : Has p Y x y := by
  unfold Has at *
  have h1 := Iw.in_ hp k.symm h
  have e1 : (Y.adj.mul X).a * (X.adj.a * x + X.adj.b * y) + (Y.adj.mul X).b * (X.adj.c * x + X.adj.d * y) = X.det * (Y.adj.a * x + Y.adj.b * y) := by
    simp only [M2.adj, M2.mul, det]; grind
  have e2 : (Y.adj.mul X).c * (X.adj.a * x + X.adj.b * y) + (Y.adj.mul X).d * (X.adj.c * x + X.adj.d * y) = X.det * (Y.adj.c * x + Y.adj.d * y) := by
    simp only [M2.adj, M2.mul, det]; grind
  rw [e1, e2, in_smul hp hx] at h1
  exact h1

theorem Has.move (hg : g.det ≠ 0) {x y : Int} : Has p (g.mul X) (g.a * x + g.b * y) (g.c * x + g.d * y) ↔ Has p X x y := by
  unfold Has
  have e1 : (g.mul X).adj.a * (g.a * x + g.b * y) + (g.mul X).adj.b * (g.c * x + g.d * y) = g.det * (X.adj.a * x + X.adj.b * y) := by
    simp only [M2.adj, M2.mul, det]; grind
  have e2 : (g.mul X).adj.c * (g.a * x + g.b * y) + (g.mul X).adj.d * (g.c * x + g.d * y) = g.det * (X.adj.c * x + X.adj.d * y) := by
    simp only [M2.adj, M2.mul, det]; grind
  rw [e1, e2, in_smul hp hg]

theorem Has.scale {s x y : Int} (hs : s ≠ 0) : Has p X (s * x) (s * y) ↔ Has p X x y := by
  unfold Has
  rw [← in_smul hp hs (x := X.adj.a * x + X.adj.b * y)]
  have e1 : X.adj.a * (s * x) + X.adj.b * (s * y) = s * (X.adj.a * x + X.adj.b * y) := by grind
  have e2 : X.adj.c * (s * x) + X.adj.d * (s * y) = s * (X.adj.c * x + X.adj.d * y) := by grind
  rw [e1, e2]

theorem Has.turn (hx : X.det ≠ 0) {x y : Int} (h0 : x ≠ 0 ∨ y ≠ 0) : Has p (X.mul (turn p)) x y ↔ ¬ Has p X x y := by
  unfold Has
  have e1 : (X.mul (M2.turn p)).adj.a * x + (X.mul (M2.turn p)).adj.b * y = -(X.adj.c * x + X.adj.d * y) := by
    simp only [M2.adj, M2.mul, M2.turn]; grind
  have e2 : (X.mul (M2.turn p)).adj.c * x + (X.mul (M2.turn p)).adj.d * y = -(p * (X.adj.a * x + X.adj.b * y)) := by
    simp only [M2.adj, M2.mul, M2.turn]; grind
  rw [e1, e2]
  have hne := app_ne (X := X.adj) (by rwa [det_adj]) h0
  generalize X.adj.a * x + X.adj.b * y = u at *
  generalize X.adj.c * x + X.adj.d * y = v at *
  constructor
  · rintro h k
    obtain ⟨t, a, b, rfl, rfl, hb⟩ := k
    refine not_in_out hp.two h ⟨t, -b, -a, by grind, by grind, ndvd_neg hb⟩
  · intro h
    rcases in_or_out hp.two hne with k | k
    · exact absurd k h
    · obtain ⟨t, a, b, rfl, rfl, ha⟩ := k
      exact ⟨t + 1, -b, -a, by rw [Int.pow_succ]; grind, by rw [Int.pow_succ]; grind, ndvd_neg ha⟩

theorem Dis.has (hx : X.det ≠ 0) (hy : Y.det ≠ 0) (h : Dis p X Y) {x y : Int} (h1 : Has p X x y) (h2 : Has p Y x y) : False := by
  unfold Has at *
  have e1 : (X.adj.mul Y).a * (Y.adj.a * x + Y.adj.b * y) + (X.adj.mul Y).b * (Y.adj.c * x + Y.adj.d * y) = Y.det * (X.adj.a * x + X.adj.b * y) := by
    simp only [M2.adj, M2.mul, det]; grind
  have e2 : (X.adj.mul Y).c * (Y.adj.a * x + Y.adj.b * y) + (X.adj.mul Y).d * (Y.adj.c * x + Y.adj.d * y) = Y.det * (X.adj.c * x + X.adj.d * y) := by
    simp only [M2.adj, M2.mul, det]; grind
  rw [← in_smul hp hy, ← e1, ← e2] at h1
  obtain ⟨k, a, b, c, d, e, hb⟩ := h
  rw [e] at h1
  obtain ⟨t, u, v, h3, h4, hv⟩ := h2
  rw [h3, h4] at h1
  refine not_in_out hp.two h1 ⟨k + t, p * (a * u) + b * v, c * u + d * v, ?_, ?_, ndvd_add' ⟨_, rfl⟩ (ndvd_mul hp hb hv)⟩ <;> rw [Int.pow_add] <;> grind
end

end M2
end Pl
