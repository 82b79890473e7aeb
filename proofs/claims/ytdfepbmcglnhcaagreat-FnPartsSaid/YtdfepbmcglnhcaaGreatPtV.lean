section
set_option linter.unusedVariables false
set_option linter.unusedSimpArgs false
/-! plain: valuations -/
namespace Pl

def IsP (p : Int) : Prop := p = 2 ∨ p = 3 ∨ p = 5 ∨ p = 7

theorem IsP.two {p : Int} (h : IsP p) : 2 ≤ p := by unfold IsP at h; omega
theorem IsP.seven {p : Int} (h : IsP p) : p ≤ 7 := by unfold IsP at h; omega

theorem IsP.euclid {p : Int} (h : IsP p) {a b : Int} (hab : p ∣ a * b) : p ∣ a ∨ p ∣ b := by
  have h1 : (a * b) % p = 0 := Int.emod_eq_zero_of_dvd hab
  rw [Int.mul_emod] at h1
  have key : a % p = 0 ∨ b % p = 0 := by
    rcases h with rfl | rfl | rfl | rfl
    · have ha : a % 2 = 0 ∨ a % 2 = 1 := by omega
      have hb : b % 2 = 0 ∨ b % 2 = 1 := by omega
      rcases ha with ha | ha <;> rcases hb with hb | hb <;> simp [ha, hb] at h1 ⊢
    · have ha : a % 3 = 0 ∨ a % 3 = 1 ∨ a % 3 = 2 := by omega
      have hb : b % 3 = 0 ∨ b % 3 = 1 ∨ b % 3 = 2 := by omega
      rcases ha with ha | ha | ha <;> rcases hb with hb | hb | hb <;> simp [ha, hb] at h1 ⊢
    · have ha : a % 5 = 0 ∨ a % 5 = 1 ∨ a % 5 = 2 ∨ a % 5 = 3 ∨ a % 5 = 4 := by omega
      have hb : b % 5 = 0 ∨ b % 5 = 1 ∨ b % 5 = 2 ∨ b % 5 = 3 ∨ b % 5 = 4 := by omega
      rcases ha with ha | ha | ha | ha | ha <;> rcases hb with hb | hb | hb | hb | hb <;> simp [ha, hb] at h1 ⊢
    · have ha : a % 7 = 0 ∨ a % 7 = 1 ∨ a % 7 = 2 ∨ a % 7 = 3 ∨ a % 7 = 4 ∨ a % 7 = 5 ∨ a % 7 = 6 := by omega
      have hb : b % 7 = 0 ∨ b % 7 = 1 ∨ b % 7 = 2 ∨ b % 7 = 3 ∨ b % 7 = 4 ∨ b % 7 = 5 ∨ b % 7 = 6 := by omega
      rcases ha with ha | ha | ha | ha | ha | ha | ha <;> rcases hb with hb | hb | hb | hb | hb | hb | hb <;> simp [ha, hb] at h1 ⊢
  rcases key with k | k
  · exact .inl (Int.dvd_of_emod_eq_zero k)
  · exact .inr (Int.dvd_of_emod_eq_zero k)

/-- the valuation, counted down by a bound -/
def vf (p : Int) : Nat → Int → Nat
  | 0, _ => 0
  | k + 1, n => if n % p = 0 then vf p k (n / p) + 1 else 0

def vl (p n : Int) : Nat := if n = 0 then 0 else vf p n.natAbs n

theorem pow_pos {p : Int} (h : 2 ≤ p) (k : Nat) : 0 < p ^ k := Int.pow_pos (by omega)

theorem vf_spec {p : Int} (hp : 2 ≤ p) : ∀ (k : Nat) (n : Int), n ≠ 0 → n.natAbs ≤ k → ∃ m, n = p ^ vf p k n * m ∧ ¬ p ∣ m := by
  intro k
  induction k with
  | zero => intro n h0 hk; exact absurd (Int.natAbs_eq_zero.1 (by omega)) h0
  | succ k ih =>
    intro n h0 hk
    by_cases hd : n % p = 0
    · have hpn : p ∣ n := Int.dvd_of_emod_eq_zero hd
      obtain ⟨q, rfl⟩ := hpn
      have hq : q ≠ 0 := by rintro rfl; simp at h0
      have e : p * q / p = q := Int.mul_ediv_cancel_left _ (by omega)
      have hqk : q.natAbs ≤ k := by
        rw [Int.natAbs_mul] at hk
        have h2 : 2 ≤ p.natAbs := by omega
        have h3 : 2 * q.natAbs ≤ p.natAbs * q.natAbs := Nat.mul_le_mul_right _ h2
        have h4 : 0 < q.natAbs := Int.natAbs_pos.2 hq
        omega
      obtain ⟨m, hm, hpm⟩ := ih q hq hqk
      refine ⟨m, ?_, hpm⟩
      simp only [vf, hd, if_true, e]
      rw [Int.pow_succ, Int.mul_comm (p ^ _) p, Int.mul_assoc, ← hm]
    · exact ⟨n, by simp [vf, hd], fun h => hd (Int.emod_eq_zero_of_dvd h)⟩

theorem vl_spec {p n : Int} (hp : 2 ≤ p) (h0 : n ≠ 0) : ∃ m, n = p ^ vl p n * m ∧ ¬ p ∣ m := by
  unfold vl; rw [if_neg h0]; exact vf_spec hp _ n h0 (Nat.le_refl _)

theorem pow_dvd_pow_mul {p m : Int} (hp : 2 ≤ p) (hm : ¬ p ∣ m) {k a : Nat} (h : p ^ k ∣ p ^ a * m) : k ≤ a := by
  induction a generalizing k with
  | zero =>
    cases k with
    | zero => omega
    | succ k => 
      exfalso; apply hm
      simp at h
      exact Int.dvd_trans ⟨p ^ k, by rw [Int.pow_succ, Int.mul_comm]⟩ h
  | succ a ih =>
    cases k with
    | zero => omega
    | succ k =>
      have : p ^ k ∣ p ^ a * m := by
        rw [Int.pow_succ, Int.pow_succ, Int.mul_comm (p^k) p, Int.mul_comm (p^a) p, Int.mul_assoc] at h
        exact Int.dvd_of_mul_dvd_mul_left (by omega) h
      have := ih this
      omega

/-- the valuation by what it divides -/
theorem dvd_iff_le_vl {p n : Int} (hp : 2 ≤ p) (h0 : n ≠ 0) (k : Nat) : p ^ k ∣ n ↔ k ≤ vl p n := by
  obtain ⟨m, hm, hpm⟩ := vl_spec hp h0
  constructor
  · intro h; rw [hm] at h; exact pow_dvd_pow_mul hp hpm h
  · intro h; rw [hm]
    exact Int.dvd_trans ⟨p ^ (vl p n - k), by rw [← Int.pow_add]; congr 1; omega⟩ (Int.dvd_mul_right _ _)

theorem vl_unique {p n m : Int} {k : Nat} (hp : 2 ≤ p) (h0 : n ≠ 0) (h : n = p ^ k * m) (hm : ¬ p ∣ m) : vl p n = k := by
  have h1 : k ≤ vl p n := (dvd_iff_le_vl hp h0 k).1 ⟨m, h⟩
  have h2 : p ^ vl p n ∣ p ^ k * m := by rw [← h]; exact (dvd_iff_le_vl hp h0 _).2 (Nat.le_refl _)
  have := pow_dvd_pow_mul hp hm h2
  omega

theorem vl_mul {p a b : Int} (hp : IsP p) (ha : a ≠ 0) (hb : b ≠ 0) : vl p (a * b) = vl p a + vl p b := by
  obtain ⟨m, hm, hpm⟩ := vl_spec hp.two ha
  obtain ⟨n, hn, hpn⟩ := vl_spec hp.two hb
  refine vl_unique (m := m * n) hp.two (Int.mul_ne_zero ha hb) ?_ ?_
  · rw [Int.pow_add]
    calc a * b = (p ^ vl p a * m) * (p ^ vl p b * n) := by rw [← hm, ← hn]
      _ = _ := by ac_rfl
  · intro h; rcases hp.euclid h with h | h
    · exact hpm h
    · exact hpn h

theorem vl_neg {p a : Int} (hp : 2 ≤ p) : vl p (-a) = vl p a := by
  by_cases h0 : a = 0
  · subst h0; rfl
  · obtain ⟨m, hm, hpm⟩ := vl_spec hp h0
    refine vl_unique (m := -m) hp (by omega) ?_ (by rwa [Int.dvd_neg])
    rw [Int.mul_neg, ← hm]

theorem vl_pow {p : Int} (hp : 2 ≤ p) (k : Nat) : vl p (p ^ k) = k := by
  refine vl_unique (m := 1) hp (by have := pow_pos hp k; omega) (by omega) ?_
  intro h
  have := Int.le_of_dvd (by omega) h
  omega

theorem vl_pow_mul {p a : Int} (hp : 2 ≤ p) (k : Nat) (h0 : a ≠ 0) : vl p (p ^ k * a) = k + vl p a := by
  obtain ⟨m, hm, hpm⟩ := vl_spec hp h0
  refine vl_unique (m := m) hp (Int.mul_ne_zero (by have := pow_pos hp k; omega) h0) ?_ hpm
  rw [Int.pow_add, Int.mul_assoc, ← hm]

end Pl
end
section
set_option linter.unusedVariables false
set_option linter.unusedSimpArgs false
/-! plain: two by two matrices over the whole numbers, and the tree of balls -/
namespace Pl

@[ext] structure M2 where
  a : Int
  b : Int
  c : Int
  d : Int
deriving DecidableEq

namespace M2
def det (X : M2) : Int := X.a * X.d - X.b * X.c
def mul (X Y : M2) : M2 := ⟨X.a * Y.a + X.b * Y.c, X.a * Y.b + X.b * Y.d, X.c * Y.a + X.d * Y.c, X.c * Y.b + X.d * Y.d⟩
def adj (X : M2) : M2 := ⟨X.d, -X.b, -X.c, X.a⟩
def smul (s : Int) (X : M2) : M2 := ⟨s * X.a, s * X.b, s * X.c, s * X.d⟩
def one : M2 := ⟨1, 0, 0, 1⟩

theorem mul_assoc (X Y Z : M2) : (X.mul Y).mul Z = X.mul (Y.mul Z) := by
  ext <;> simp only [mul] <;> grind
theorem det_mul (X Y : M2) : (X.mul Y).det = X.det * Y.det := by
  simp only [mul, det]; grind
theorem det_adj (X : M2) : X.adj.det = X.det := by simp only [adj, det]; grind
theorem adj_adj (X : M2) : X.adj.adj = X := by ext <;> simp [adj]
theorem adj_mul (X Y : M2) : (X.mul Y).adj = Y.adj.mul X.adj := by
  ext <;> simp only [mul, adj] <;> grind
theorem mul_adj (X : M2) : X.mul X.adj = smul X.det one := by
  ext <;> simp only [mul, adj, smul, one, det] <;> grind
theorem adj_mul_self (X : M2) : X.adj.mul X = smul X.det one := by
  ext <;> simp only [mul, adj, smul, one, det] <;> grind
theorem smul_mul (s : Int) (X Y : M2) : (smul s X).mul Y = smul s (X.mul Y) := by
  ext <;> simp only [mul, smul] <;> grind
theorem mul_smul (s : Int) (X Y : M2) : X.mul (smul s Y) = smul s (X.mul Y) := by
  ext <;> simp only [mul, smul] <;> grind
theorem one_mul (X : M2) : one.mul X = X := by ext <;> simp [mul, one]
theorem mul_one (X : M2) : X.mul one = X := by ext <;> simp [mul, one]
theorem det_smul (s : Int) (X : M2) : (smul s X).det = s * s * X.det := by simp only [smul, det]; grind
theorem det_one : one.det = 1 := rfl
theorem smul_smul (s t : Int) (X : M2) : smul s (smul t X) = smul (s * t) X := by
  ext <;> simp only [smul] <;> grind
theorem smul_one (X : M2) : smul 1 X = X := by ext <;> simp [smul]
theorem adj_smul (s : Int) (X : M2) : (smul s X).adj = smul s X.adj := by
  ext <;> simp only [smul, adj] <;> grind

/-- all entries are multiples of q -/
def Dvd (q : Int) (X : M2) : Prop := q ∣ X.a ∧ q ∣ X.b ∧ q ∣ X.c ∧ q ∣ X.d

theorem Dvd.iff {q : Int} {X : M2} : Dvd q X ↔ ∃ Y, X = smul q Y := by
  constructor
  · rintro ⟨⟨a, ha⟩, ⟨b, hb⟩, ⟨c, hc⟩, ⟨d, hd⟩⟩
    exact ⟨⟨a, b, c, d⟩, by ext <;> simp [smul, *]⟩
  · rintro ⟨Y, rfl⟩
    exact ⟨⟨_, rfl⟩, ⟨_, rfl⟩, ⟨_, rfl⟩, ⟨_, rfl⟩⟩

/-- the greatest common divisor of the entries -/
def cont (X : M2) : Int := (Int.gcd (Int.gcd X.a X.b) (Int.gcd X.c X.d) : Int)

theorem dvd_cont (q : Int) (X : M2) : q ∣ X.cont ↔ Dvd q X := by
  unfold cont Dvd
  constructor
  · intro h
    have h1 : q ∣ (Int.gcd X.a X.b : Int) := Int.dvd_trans h (Int.gcd_dvd_left ..)
    have h2 : q ∣ (Int.gcd X.c X.d : Int) := Int.dvd_trans h (Int.gcd_dvd_right ..)
    exact ⟨Int.dvd_trans h1 (Int.gcd_dvd_left ..), Int.dvd_trans h1 (Int.gcd_dvd_right ..), Int.dvd_trans h2 (Int.gcd_dvd_left ..), Int.dvd_trans h2 (Int.gcd_dvd_right ..)⟩
  · rintro ⟨ha, hb, hc, hd⟩
    exact Int.dvd_coe_gcd (Int.dvd_coe_gcd ha hb) (Int.dvd_coe_gcd hc hd)

theorem cont_ne {X : M2} (h : X.det ≠ 0) : X.cont ≠ 0 := by
  intro h0
  have : Dvd 0 X := (dvd_cont 0 X).1 (by rw [h0]; exact Int.dvd_refl 0)
  obtain ⟨ha, hb, hc, hd⟩ := this
  rw [Int.zero_dvd] at ha hb hc hd
  apply h; simp [det, ha, hb]

/-- the least valuation of the entries -/
def minv (p : Int) (X : M2) : Nat := vl p X.cont

theorem le_minv {p : Int} (hp : 2 ≤ p) {X : M2} (h : X.det ≠ 0) (k : Nat) : k ≤ minv p X ↔ Dvd (p ^ k) X := by
  unfold minv; rw [← dvd_iff_le_vl hp (cont_ne h), dvd_cont]

theorem det_ne_mul {X Y : M2} (hx : X.det ≠ 0) (hy : Y.det ≠ 0) : (X.mul Y).det ≠ 0 := by
  rw [det_mul]; exact Int.mul_ne_zero hx hy

theorem minv_mul {p : Int} (hp : 2 ≤ p) {X Y : M2} (hx : X.det ≠ 0) (hy : Y.det ≠ 0) : minv p X + minv p Y ≤ minv p (X.mul Y) := by
  rw [le_minv hp (det_ne_mul hx hy)]
  obtain ⟨A, hA⟩ := Dvd.iff.1 ((le_minv hp hx _).1 (Nat.le_refl (minv p X)))
  obtain ⟨B, hB⟩ := Dvd.iff.1 ((le_minv hp hy _).1 (Nat.le_refl (minv p Y)))
  generalize minv p X = m at *
  generalize minv p Y = n at *
  refine Dvd.iff.2 ⟨A.mul B, ?_⟩
  rw [hA, hB, smul_mul, mul_smul, smul_smul, Int.pow_add]

theorem cont_smul (s : Int) (X : M2) : (smul s X).cont = s.natAbs * X.cont := by
  unfold cont smul
  simp only [Int.gcd_mul_left]
  simp only [Int.natCast_mul, Int.gcd_mul_left]
  simp

theorem vl_natAbs {p : Int} (hp : 2 ≤ p) (s : Int) : vl p (s.natAbs : Int) = vl p s := by
  rcases Int.natAbs_eq s with h | h
  · rw [← h]
  · conv => rhs; rw [h, vl_neg hp]

theorem minv_smul {p : Int} (hp : IsP p) {s : Int} (hs : s ≠ 0) {X : M2} (hx : X.det ≠ 0) : minv p (smul s X) = vl p s + minv p X := by
  unfold minv
  rw [cont_smul, vl_mul hp (by omega) (cont_ne hx), vl_natAbs hp.two]

theorem two_minv_le {p : Int} (hp : IsP p) {X : M2} (hx : X.det ≠ 0) : 2 * minv p X ≤ vl p X.det := by
  obtain ⟨A, hA⟩ := Dvd.iff.1 ((le_minv hp.two hx _).1 (Nat.le_refl (minv p X)))
  generalize minv p X = m at *
  have : X.det = p ^ m * p ^ m * A.det := by rw [hA, det_smul]
  rw [← dvd_iff_le_vl hp.two hx, this, Nat.two_mul, Int.pow_add]
  exact Int.dvd_mul_right _ _

/-- the distance of the balls of two matrices -/
def dist (p : Int) (X Y : M2) : Int := vl p X.det + vl p Y.det - 2 * minv p (X.adj.mul Y)

theorem det_adj_ne {X : M2} (h : X.det ≠ 0) : X.adj.det ≠ 0 := by rwa [det_adj]

theorem dist_nonneg {p : Int} (hp : IsP p) {X Y : M2} (hx : X.det ≠ 0) (hy : Y.det ≠ 0) : 0 ≤ dist p X Y := by
  have h := two_minv_le hp (det_ne_mul (det_adj_ne hx) hy)
  rw [det_mul, det_adj, vl_mul hp hx hy] at h
  unfold dist; omega

theorem cont_adj (X : M2) : X.adj.cont = X.cont := by
  have h : ∀ q, q ∣ X.adj.cont ↔ q ∣ X.cont := by
    intro q; rw [dvd_cont, dvd_cont]; simp only [Dvd, adj, Int.dvd_neg]
    constructor <;> (rintro ⟨a, b, c, d⟩; exact ⟨d, b, c, a⟩)
  have h0 : ∀ Y : M2, 0 ≤ Y.cont := fun Y => by unfold cont; omega
  exact Int.dvd_antisymm (h0 _) (h0 _) ((h _).1 (Int.dvd_refl _)) ((h _).2 (Int.dvd_refl _))

theorem dist_comm (p : Int) (X Y : M2) : dist p X Y = dist p Y X := by
  unfold dist minv
  have : X.adj.mul Y = (Y.adj.mul X).adj := by rw [adj_mul, adj_adj]
  rw [this, cont_adj]; omega

theorem dist_mul {p : Int} (hp : IsP p) {g X Y : M2} (hg : g.det ≠ 0) (hx : X.det ≠ 0) (hy : Y.det ≠ 0) : dist p (g.mul X) (g.mul Y) = dist p X Y := by
  unfold dist
  have : (g.mul X).adj.mul (g.mul Y) = smul g.det (X.adj.mul Y) := by
    rw [adj_mul, mul_assoc, ← mul_assoc g.adj, adj_mul_self, smul_mul, mul_smul, one_mul]
  rw [this, minv_smul hp hg (det_ne_mul (det_adj_ne hx) hy), det_mul, det_mul, vl_mul hp hg hx, vl_mul hp hg hy]
  omega

theorem dist_smul_left {p : Int} (hp : IsP p) {s : Int} (hs : s ≠ 0) {X Y : M2} (hx : X.det ≠ 0) (hy : Y.det ≠ 0) : dist p (smul s X) Y = dist p X Y := by
  unfold dist
  rw [adj_smul, smul_mul, minv_smul hp hs (det_ne_mul (det_adj_ne hx) hy), det_smul, vl_mul hp (Int.mul_ne_zero hs hs) hx, vl_mul hp hs hs]
  omega

theorem dist_smul_right {p : Int} (hp : IsP p) {s : Int} (hs : s ≠ 0) {X Y : M2} (hx : X.det ≠ 0) (hy : Y.det ≠ 0) : dist p X (smul s Y) = dist p X Y := by
  rw [dist_comm, dist_smul_left hp hs hy hx, dist_comm]

theorem dist_self {p : Int} (hp : IsP p) {X : M2} (hx : X.det ≠ 0) : dist p X X = 0 := by
  unfold dist
  rw [adj_mul_self, minv_smul hp hx (by decide)]
  have : minv p one = 0 := by
    have h := two_minv_le hp (X := one) (by decide)
    have h1 : vl p one.det = 0 := by rw [det_one]; have := vl_pow hp.two 0; simpa using this
    omega
  omega

theorem triangle {p : Int} (hp : IsP p) {X Y Z : M2} (hx : X.det ≠ 0) (hy : Y.det ≠ 0) (hz : Z.det ≠ 0) : dist p X Z ≤ dist p X Y + dist p Y Z := by
  have h := minv_mul hp.two (X := X.adj.mul Y) (Y := Y.adj.mul Z) (det_ne_mul (det_adj_ne hx) hy) (det_ne_mul (det_adj_ne hy) hz)
  have e : (X.adj.mul Y).mul (Y.adj.mul Z) = smul Y.det (X.adj.mul Z) := by
    rw [mul_assoc, ← mul_assoc Y, mul_adj, smul_mul, one_mul, mul_smul]
  rw [e, minv_smul hp hy (det_ne_mul (det_adj_ne hx) hz)] at h
  unfold dist; omega

/-- two matrices have the same ball -/
def Same (p : Int) (X Y : M2) : Prop := dist p X Y = 0

theorem Same.symm {p : Int} {X Y : M2} (h : Same p X Y) : Same p Y X := by unfold Same; rw [dist_comm]; exact h
theorem Same.trans {p : Int} (hp : IsP p) {X Y Z : M2} (hx : X.det ≠ 0) (hy : Y.det ≠ 0) (hz : Z.det ≠ 0) (h : Same p X Y) (k : Same p Y Z) : Same p X Z := by
  have h1 := triangle hp hx hy hz
  have h2 := dist_nonneg hp hx hz
  unfold Same at *; omega
theorem Same.dist {p : Int} (hp : IsP p) {X Y X' Y' : M2} (hx : X.det ≠ 0) (hy : Y.det ≠ 0) (hx' : X'.det ≠ 0) (hy' : Y'.det ≠ 0) (h : Same p X X') (k : Same p Y Y') : dist p X Y = dist p X' Y' := by
  have h1 := triangle hp hx hx' hy
  have h2 := triangle hp hx' hx hy'
  have h3 := triangle hp hx' hy' hy
  have h4 := triangle hp hx hy hy'
  have h5 := dist_comm p X X'
  have h6 := dist_comm p Y Y'
  unfold Same at *; omega
theorem Same.mul {p : Int} (hp : IsP p) {g X Y : M2} (hg : g.det ≠ 0) (hx : X.det ≠ 0) (hy : Y.det ≠ 0) (h : Same p X Y) : Same p (g.mul X) (g.mul Y) := by
  unfold Same at *; rw [dist_mul hp hg hx hy, h]

/-- it is enough that the difference is divisible by what it must be -/
theorem same_of_dvd {p : Int} (hp : IsP p) {X Y : M2} (hx : X.det ≠ 0) (hy : Y.det ≠ 0) (k : Nat) (hk : vl p X.det + vl p Y.det = 2 * k) (h : Dvd (p ^ k) (X.adj.mul Y)) : Same p X Y := by
  have h1 := (le_minv hp.two (det_ne_mul (det_adj_ne hx) hy) k).2 h
  have h2 := dist_nonneg hp hx hy
  unfold Same; unfold M2.dist at *; omega

/-- the matrix of a ball: its level and 6 together, and its mark -/
def ofB (p : Int) (n : Nat) (x : Int) : M2 := ⟨p ^ n, x, 0, p ^ 6⟩

theorem det_ofB (p : Int) (n : Nat) (x : Int) : (ofB p n x).det = p ^ (n + 6) := by simp [ofB, det, Int.pow_add]
theorem det_ofB_ne {p : Int} (hp : 2 ≤ p) (n : Nat) (x : Int) : (ofB p n x).det ≠ 0 := by
  rw [det_ofB]; have := pow_pos hp (n + 6); omega

theorem adj_ofB_mul (p : Int) (n m : Nat) (x y : Int) : (ofB p n x).adj.mul (ofB p m y) = smul (p ^ 6) ⟨p ^ m, y - x, 0, p ^ n⟩ := by
  ext <;> simp only [ofB, adj, mul, smul] <;> grind

/-- divisibility for the product of two balls -/
theorem dist_ofB {p : Int} (hp : IsP p) (n m : Nat) (x y : Int) :
    dist p (ofB p n x) (ofB p m y) = n + m - 2 * (if y - x = 0 then min n m else min (min n m) (vl p (y - x)) : Nat) := by
  have hd : (⟨p ^ m, y - x, 0, p ^ n⟩ : M2).det ≠ 0 := by
    have h1 := pow_pos hp.two m
    have h2 := pow_pos hp.two n
    have := Int.mul_pos h1 h2
    simp only [det]; omega
  have e : minv p (⟨p ^ m, y - x, 0, p ^ n⟩ : M2) = (if y - x = 0 then min n m else min (min n m) (vl p (y - x)) : Nat) := by
    have key : ∀ k, k ≤ minv p (⟨p ^ m, y - x, 0, p ^ n⟩ : M2) ↔ k ≤ (if y - x = 0 then min n m else min (min n m) (vl p (y - x)) : Nat) := by
      intro k
      rw [le_minv hp.two hd]
      have hpw : ∀ j : Nat, p ^ k ∣ p ^ j ↔ k ≤ j := fun j => by
        rw [dvd_iff_le_vl hp.two (by have := pow_pos hp.two j; omega), vl_pow hp.two]
      simp only [Dvd, hpw]
      split
      · rename_i h0; rw [h0]; simp; omega
      · rename_i h0; rw [dvd_iff_le_vl hp.two h0]; simp; omega
    exact Nat.le_antisymm ((key _).1 (Nat.le_refl _)) ((key _).2 (Nat.le_refl _))
  unfold dist
  rw [adj_ofB_mul, minv_smul hp (by have := pow_pos hp.two 6; omega) hd, e, det_ofB, det_ofB, vl_pow hp.two, vl_pow hp.two, vl_pow hp.two]
  omega

theorem same_ofB {p : Int} (hp : IsP p) {n m : Nat} {x y : Int} (hx : 0 ≤ x ∧ x < p ^ n) (hy : 0 ≤ y ∧ y < p ^ m) (h : Same p (ofB p n x) (ofB p m y)) : n = m ∧ x = y := by
  unfold Same at h
  rw [dist_ofB hp] at h
  have hnm : n = m := by split at h <;> omega
  subst hnm
  refine ⟨rfl, ?_⟩
  by_cases h0 : y - x = 0
  · omega
  · rw [if_neg h0] at h
    have h1 : n ≤ vl p (y - x) := by omega
    have h2 := (dvd_iff_le_vl hp.two h0 n).2 h1
    exfalso
    rcases Int.lt_or_gt_of_ne h0 with h3 | h3
    · have h4 : p ^ n ∣ x - y := by
        have : x - y = -(y - x) := by omega
        rw [this, Int.dvd_neg]; exact h2
      have := Int.le_of_dvd (by omega) h4
      omega
    · have := Int.le_of_dvd (by omega) h2
      omega

end M2
end Pl
end
section
set_option linter.unusedVariables false
set_option linter.unusedSimpArgs false
namespace Pl
namespace M2

theorem dvd_of_mul {p : Int} (hp : IsP p) {a b : Int} (hb : b ≠ 0) {k : Nat} (h : p ^ (k + vl p b) ∣ a * b) : p ^ k ∣ a := by
  by_cases ha : a = 0
  · subst ha; exact Int.dvd_zero _
  · rw [dvd_iff_le_vl hp.two (Int.mul_ne_zero ha hb), vl_mul hp ha hb] at h
    rw [dvd_iff_le_vl hp.two ha]; omega

theorem pow_dvd_vl {p : Int} (hp : 2 ≤ p) {a : Int} {k : Nat} (h : a = 0 ∨ k ≤ vl p a) : p ^ k ∣ a := by
  rcases h with rfl | h
  · exact Int.dvd_zero _
  · by_cases h0 : a = 0
    · subst h0; exact Int.dvd_zero _
    · exact (dvd_iff_le_vl hp h0 k).2 h

/-- a ball that holds the quotient of a column, at the level that the determinant tells -/
theorem same_col {p : Int} (hp : IsP p) {u1 u2 v1 v2 x : Int} {n : Nat} (hd : (⟨u1, v1, u2, v2⟩ : M2).det ≠ 0) (hv : v2 ≠ 0) (hu : u2 = 0 ∨ vl p v2 ≤ vl p u2)
    (hn : n + 2 * vl p v2 = vl p (⟨u1, v1, u2, v2⟩ : M2).det + 6) (hx : p ^ (n + vl p v2) ∣ p ^ 6 * v1 - x * v2) : Same p (ofB p n x) ⟨u1, v1, u2, v2⟩ := by
  have hdu := pow_dvd_vl hp.two hu
  have hdv : p ^ vl p v2 ∣ v2 := pow_dvd_vl hp.two (.inr (Nat.le_refl _))
  refine same_of_dvd hp (det_ofB_ne hp.two _ _) hd (n + vl p v2) ?_ ?_
  · rw [det_ofB, vl_pow hp.two]; omega
  · have e : (ofB p n x).adj.mul ⟨u1, v1, u2, v2⟩ = ⟨p ^ 6 * u1 - x * u2, p ^ 6 * v1 - x * v2, p ^ n * u2, p ^ n * v2⟩ := by
      ext <;> simp only [ofB, adj, mul] <;> grind
    rw [e]
    refine ⟨?_, hx, ?_, ?_⟩
    · refine dvd_of_mul hp hv ?_
      have e1 : (p ^ 6 * u1 - x * u2) * v2 = p ^ 6 * (⟨u1, v1, u2, v2⟩ : M2).det + u2 * (p ^ 6 * v1 - x * v2) := by simp only [det]; grind
      rw [e1]
      refine Int.dvd_add ?_ ?_
      · have : n + vl p v2 + vl p v2 = 6 + vl p (⟨u1, v1, u2, v2⟩ : M2).det := by omega
        rw [this, Int.pow_add]
        exact Int.mul_dvd_mul (Int.dvd_refl _) (pow_dvd_vl hp.two (.inr (Nat.le_refl _)))
      · have : n + vl p v2 + vl p v2 = vl p v2 + (n + vl p v2) := by omega
        rw [this, Int.pow_add]
        exact Int.mul_dvd_mul hdu hx
    · rw [Int.pow_add]; exact Int.mul_dvd_mul (Int.dvd_refl _) hdu
    · rw [Int.pow_add]; exact Int.mul_dvd_mul (Int.dvd_refl _) hdv

theorem same_swap {p : Int} (hp : IsP p) {a b c d : Int} (hd : (⟨a, b, c, d⟩ : M2).det ≠ 0) : Same p ⟨b, a, d, c⟩ ⟨a, b, c, d⟩ := by
  have hd' : (⟨b, a, d, c⟩ : M2).det ≠ 0 := by simp only [det] at *; grind
  have e : (⟨b, a, d, c⟩ : M2).det = - (⟨a, b, c, d⟩ : M2).det := by simp only [det]; grind
  refine same_of_dvd hp hd' hd (vl p (⟨a, b, c, d⟩ : M2).det) (by rw [e, vl_neg hp.two]; omega) ?_
  have hdv : p ^ vl p (⟨a, b, c, d⟩ : M2).det ∣ (⟨a, b, c, d⟩ : M2).det := pow_dvd_vl hp.two (.inr (Nat.le_refl _))
  have e2 : (⟨b, a, d, c⟩ : M2).adj.mul ⟨a, b, c, d⟩ = smul (⟨a, b, c, d⟩ : M2).det ⟨0, -1, -1, 0⟩ := by
    ext <;> simp only [adj, mul, smul, det] <;> grind
  rw [e2]
  exact ⟨Int.dvd_trans hdv ⟨_, rfl⟩, Int.dvd_trans hdv ⟨_, rfl⟩, Int.dvd_trans hdv ⟨_, rfl⟩, Int.dvd_trans hdv ⟨_, rfl⟩⟩

theorem same_col' {p : Int} (hp : IsP p) {u1 u2 v1 v2 x : Int} {n : Nat} (hd : (⟨v1, u1, v2, u2⟩ : M2).det ≠ 0) (hv : v2 ≠ 0) (hu : u2 = 0 ∨ vl p v2 ≤ vl p u2)
    (hn : n + 2 * vl p v2 = vl p (⟨v1, u1, v2, u2⟩ : M2).det + 6) (hx : p ^ (n + vl p v2) ∣ p ^ 6 * v1 - x * v2) : Same p (ofB p n x) ⟨v1, u1, v2, u2⟩ := by
  have e : (⟨u1, v1, u2, v2⟩ : M2).det = - (⟨v1, u1, v2, u2⟩ : M2).det := by simp only [det]; grind
  have hd' : (⟨u1, v1, u2, v2⟩ : M2).det ≠ 0 := by rw [e]; omega
  exact (same_col hp hd' hv hu (by rw [e, vl_neg hp.two]; omega) hx).trans hp (det_ofB_ne hp.two _ _) hd' hd (same_swap hp hd)

end M2
end Pl
end
section
set_option linter.unusedVariables false
set_option linter.unusedSimpArgs false
/-! plain: ends in balls, sides, and how they move -/
namespace Pl
namespace M2

/-- what is in the whole ball, as columns -/
def In (p : Int) (x y : Int) : Prop := ∃ (t : Nat) (u v : Int), x = p ^ t * u ∧ y = p ^ t * v ∧ ¬ p ∣ v
def Out (p : Int) (x y : Int) : Prop := ∃ (t : Nat) (u v : Int), x = p ^ t * u ∧ y = p ^ t * (p * v) ∧ ¬ p ∣ u

theorem in_or_out {p : Int} (hp : 2 ≤ p) {x y : Int} (h : x ≠ 0 ∨ y ≠ 0) : In p x y ∨ Out p x y := by
  by_cases hy : y = 0
  · have hx : x ≠ 0 := by rcases h with h | h; exact h; exact absurd hy h
    obtain ⟨m, hm, hpm⟩ := vl_spec hp hx
    exact .inr ⟨vl p x, m, 0, hm, by simp [hy], hpm⟩
  · obtain ⟨m, hm, hpm⟩ := vl_spec hp hy
    by_cases hd : p ^ vl p y ∣ x
    · obtain ⟨u, hu⟩ := hd
      exact .inl ⟨vl p y, u, m, hu, hm, hpm⟩
    · have hx : x ≠ 0 := by rintro rfl; exact hd (Int.dvd_zero _)
      obtain ⟨n, hn, hpn⟩ := vl_spec hp hx
      have hlt : vl p x < vl p y := by
        rcases Nat.lt_or_ge (vl p x) (vl p y) with h | h
        · exact h
        · exact absurd ((dvd_iff_le_vl hp hx _).2 h) hd
      refine .inr ⟨vl p x, n, p ^ (vl p y - vl p x - 1) * m, hn, ?_, hpn⟩
      have e : vl p y = vl p x + (1 + (vl p y - vl p x - 1)) := by omega
      have e2 : p ^ vl p y = p ^ vl p x * (p * p ^ (vl p y - vl p x - 1)) := by
        conv => lhs; rw [e]
        rw [Int.pow_add, Int.pow_add]
        have : p ^ 1 = p := by grind
        rw [this]
      conv => lhs; rw [hm, e2]
      ac_rfl

theorem not_in_out {p : Int} (hp : 2 ≤ p) {x y : Int} (h : In p x y) (k : Out p x y) : False := by
  obtain ⟨t, u, v, h1, h2, h3⟩ := h
  obtain ⟨s, u', v', k1, k2, k3⟩ := k
  have e1 : p ^ (s + 1) ∣ p ^ t * v := by rw [← h2, k2, Int.pow_succ]; exact ⟨v', by ac_rfl⟩
  have e2 : p ^ t ∣ p ^ s * u' := by rw [← k1, h1]; exact Int.dvd_mul_right _ _
  have := pow_dvd_pow_mul hp h3 e1
  have := pow_dvd_pow_mul hp k3 e2
  omega

def Iw (p : Int) (K : M2) : Prop := ∃ (k : Nat) (a b c d : Int), K = ⟨p ^ k * a, p ^ k * b, p ^ k * (p * c), p ^ k * d⟩ ∧ ¬ p ∣ a ∧ ¬ p ∣ d
def Ap (p : Int) (K : M2) : Prop := ∃ (k : Nat) (a b c d : Int), K = ⟨p ^ k * (p * a), p ^ k * b, p ^ k * (p * c), p ^ k * (p * d)⟩ ∧ ¬ p ∣ b

theorem ndvd_mul {p : Int} (hp : IsP p) {a b : Int} (ha : ¬ p ∣ a) (hb : ¬ p ∣ b) : ¬ p ∣ a * b := fun h => (hp.euclid h).elim ha hb
theorem ndvd_add {p a b : Int} (ha : ¬ p ∣ a) (hb : p ∣ b) : ¬ p ∣ a + b := fun h => ha (by have := Int.dvd_sub h hb; simpa using this)
theorem ndvd_add' {p a b : Int} (ha : p ∣ a) (hb : ¬ p ∣ b) : ¬ p ∣ a + b := by rw [Int.add_comm]; exact ndvd_add hb ha
theorem ndvd_neg {p a : Int} (ha : ¬ p ∣ a) : ¬ p ∣ -a := by rwa [Int.dvd_neg]

theorem Iw.in_ {p : Int} (hp : IsP p) {K : M2} (hK : Iw p K) {x y : Int} (h : In p x y) : In p (K.a * x + K.b * y) (K.c * x + K.d * y) := by
  obtain ⟨k, a, b, c, d, rfl, ha, hd⟩ := hK
  obtain ⟨t, u, v, rfl, rfl, hv⟩ := h
  refine ⟨k + t, a * u + b * v, p * (c * u) + d * v, ?_, ?_, ndvd_add' ⟨_, rfl⟩ (ndvd_mul hp hd hv)⟩ <;> rw [Int.pow_add] <;> grind

theorem Iw.out_ {p : Int} (hp : IsP p) {K : M2} (hK : Iw p K) {x y : Int} (h : Out p x y) : Out p (K.a * x + K.b * y) (K.c * x + K.d * y) := by
  obtain ⟨k, a, b, c, d, rfl, ha, hd⟩ := hK
  obtain ⟨t, u, v, rfl, rfl, hu⟩ := h
  refine ⟨k + t, a * u + p * (b * v), c * u + d * v, ?_, ?_, ndvd_add (ndvd_mul hp ha hu) ⟨_, rfl⟩⟩ <;> rw [Int.pow_add] <;> grind

theorem Iw.mul {p : Int} (hp : IsP p) {K L : M2} (hK : Iw p K) (hL : Iw p L) : Iw p (K.mul L) := by
  obtain ⟨k, a, b, c, d, rfl, ha, hd⟩ := hK
  obtain ⟨l, a', b', c', d', rfl, ha', hd'⟩ := hL
  refine ⟨k + l, a * a' + p * (b * c'), a * b' + b * d', c * a' + d * c', p * (c * b') + d * d', ?_, ndvd_add (ndvd_mul hp ha ha') ⟨_, rfl⟩, ndvd_add' ⟨_, rfl⟩ (ndvd_mul hp hd hd')⟩
  ext <;> simp only [M2.mul, Int.pow_add] <;> grind

theorem Iw.adj {p : Int} {K : M2} (hK : Iw p K) : Iw p K.adj := by
  obtain ⟨k, a, b, c, d, rfl, ha, hd⟩ := hK
  refine ⟨k, d, -b, -c, a, ?_, hd, ha⟩
  ext <;> simp only [M2.adj] <;> grind

theorem Iw.smul {p : Int} (hp : IsP p) {K : M2} (hK : Iw p K) {s : Int} (hs : s ≠ 0) : Iw p (smul s K) := by
  obtain ⟨k, a, b, c, d, rfl, ha, hd⟩ := hK
  obtain ⟨m, hm, hpm⟩ := vl_spec hp.two hs
  generalize vl p s = j at hm
  subst hm
  refine ⟨j + k, m * a, m * b, m * c, m * d, ?_, ndvd_mul hp hpm ha, ndvd_mul hp hpm hd⟩
  ext <;> simp only [M2.smul, Int.pow_add] <;> grind

theorem Ap.smul {p : Int} (hp : IsP p) {K : M2} (hK : Ap p K) {s : Int} (hs : s ≠ 0) : Ap p (smul s K) := by
  obtain ⟨k, a, b, c, d, rfl, hb⟩ := hK
  obtain ⟨m, hm, hpm⟩ := vl_spec hp.two hs
  generalize vl p s = j at hm
  subst hm
  refine ⟨j + k, m * a, m * b, m * c, m * d, ?_, ndvd_mul hp hpm hb⟩
  ext <;> simp only [M2.smul, Int.pow_add] <;> grind

theorem Ap.left {p : Int} (hp : IsP p) {K L : M2} (hK : Iw p K) (hL : Ap p L) : Ap p (K.mul L) := by
  obtain ⟨k, a, b, c, d, rfl, ha, hd⟩ := hK
  obtain ⟨l, a', b', c', d', rfl, hb'⟩ := hL
  refine ⟨k + l, a * a' + b * c', a * b' + p * (b * d'), p * (c * a') + d * c', c * b' + d * d', ?_, ndvd_add (ndvd_mul hp ha hb') ⟨_, rfl⟩⟩
  ext <;> simp only [M2.mul, Int.pow_add] <;> grind

theorem Ap.right {p : Int} (hp : IsP p) {K L : M2} (hK : Ap p K) (hL : Iw p L) : Ap p (K.mul L) := by
  obtain ⟨k, a, b, c, d, rfl, hb⟩ := hK
  obtain ⟨l, a', b', c', d', rfl, ha', hd'⟩ := hL
  refine ⟨k + l, a * a' + b * c', p * (a * b') + b * d', c * a' + p * (d * c'), c * b' + d * d', ?_, ndvd_add' ⟨_, rfl⟩ (ndvd_mul hp hb hd')⟩
  ext <;> simp only [M2.mul, Int.pow_add] <;> grind

theorem cancel_pow {p : Int} (hp : IsP p) {m x y : Int} {j k : Nat} (hm : ¬ p ∣ m) (hjk : j ≤ k) (h : p ^ j * m * x = p ^ k * y) : ∃ z, x = p ^ (k - j) * z ∧ m * z = y := by
  have hm0 : m ≠ 0 := by rintro rfl; exact hm (Int.dvd_zero _)
  have e : p ^ k = p ^ j * p ^ (k - j) := by rw [← Int.pow_add]; congr 1; omega
  have hpj : p ^ j ≠ 0 := by have := pow_pos hp.two j; omega
  have h1 : m * x = p ^ (k - j) * y := by
    apply Int.eq_of_mul_eq_mul_left hpj
    rw [← Int.mul_assoc, h, e, Int.mul_assoc]
  have hv : vl p m = 0 := by
    refine vl_unique (m := m) hp.two hm0 (by simp) hm
  have h2 : p ^ (k - j) ∣ x := by
    refine dvd_of_mul hp hm0 ?_
    rw [hv, Nat.add_zero, Int.mul_comm, h1]; exact Int.dvd_mul_right _ _
  obtain ⟨z, hz⟩ := h2
  refine ⟨z, hz, ?_⟩
  have hpk : p ^ (k - j) ≠ 0 := by have := pow_pos hp.two (k - j); omega
  apply Int.eq_of_mul_eq_mul_left hpk
  rw [← h1, hz]; ac_rfl

theorem le_of_cancel {p : Int} (hp : IsP p) {m x y : Int} {j k : Nat} (hy : ¬ p ∣ y) (h : p ^ j * m * x = p ^ k * y) : j ≤ k :=
  pow_dvd_pow_mul hp.two hy (by rw [← h, Int.mul_assoc]; exact Int.dvd_mul_right _ _)

theorem Iw.unsmul {p : Int} (hp : IsP p) {K : M2} {s : Int} (hs : s ≠ 0) (h : Iw p (M2.smul s K)) : Iw p K := by
  obtain ⟨k, a, b, c, d, e, ha, hd⟩ := h
  obtain ⟨m, hm, hpm⟩ := vl_spec hp.two hs
  generalize vl p s = j at hm
  subst hm
  simp only [M2.smul, M2.mk.injEq] at e
  obtain ⟨e1, e2, e3, e4⟩ := e
  have hjk := le_of_cancel hp ha e1
  obtain ⟨a', h1, h1'⟩ := cancel_pow hp hpm hjk e1
  obtain ⟨b', h2, h2'⟩ := cancel_pow hp hpm hjk e2
  obtain ⟨c', h3, h3'⟩ := cancel_pow hp hpm hjk e3
  obtain ⟨d', h4, h4'⟩ := cancel_pow hp hpm hjk e4
  have hc : p ∣ c' := by
    rcases hp.euclid (a := m) (b := c') ⟨c, h3'⟩ with h | h
    · exact absurd h hpm
    · exact h
  obtain ⟨c2, rfl⟩ := hc
  refine ⟨k - j, a', b', c2, d', ?_, fun h => ha ?_, fun h => hd ?_⟩
  · ext <;> assumption
  · rw [← h1']; exact Int.dvd_trans h (Int.dvd_mul_left _ _)
  · rw [← h4']; exact Int.dvd_trans h (Int.dvd_mul_left _ _)

theorem Ap.unsmul {p : Int} (hp : IsP p) {K : M2} {s : Int} (hs : s ≠ 0) (h : Ap p (M2.smul s K)) : Ap p K := by
  obtain ⟨k, a, b, c, d, e, hb⟩ := h
  obtain ⟨m, hm, hpm⟩ := vl_spec hp.two hs
  generalize vl p s = j at hm
  subst hm
  simp only [M2.smul, M2.mk.injEq] at e
  obtain ⟨e1, e2, e3, e4⟩ := e
  have hjk := le_of_cancel hp hb e2
  obtain ⟨a', h1, h1'⟩ := cancel_pow hp hpm hjk e1
  obtain ⟨b', h2, h2'⟩ := cancel_pow hp hpm hjk e2
  obtain ⟨c', h3, h3'⟩ := cancel_pow hp hpm hjk e3
  obtain ⟨d', h4, h4'⟩ := cancel_pow hp hpm hjk e4
  have hdv : ∀ {x y : Int}, m * x = p * y → ∃ z, x = p * z := fun {x y} h => by
    rcases hp.euclid (a := m) (b := x) ⟨y, h⟩ with h | h
    · exact absurd h hpm
    · exact h
  obtain ⟨a2, rfl⟩ := hdv h1'
  obtain ⟨c2, rfl⟩ := hdv h3'
  obtain ⟨d2, rfl⟩ := hdv h4'
  refine ⟨k - j, a2, b', c2, d2, ?_, fun h => hb ?_⟩
  · ext <;> assumption
  · rw [← h2']; exact Int.dvd_trans h (Int.dvd_mul_left _ _)

/-- two matrices tell the same side -/
def Eqv (p : Int) (X Y : M2) : Prop := Iw p (X.adj.mul Y)
/-- the matrix that turns a side -/
def turn (p : Int) : M2 := ⟨0, 1, p, 0⟩
/-- sides without common ends -/
def Dis (p : Int) (X Y : M2) : Prop := Ap p (X.adj.mul Y)

theorem adj_mul_mul (g X Y : M2) : (g.mul X).adj.mul (g.mul Y) = smul g.det (X.adj.mul Y) := by
  rw [adj_mul, mul_assoc, ← mul_assoc g.adj, adj_mul_self, smul_mul, mul_smul, one_mul]
theorem mid (X Y Z : M2) : (X.adj.mul Y).mul (Y.adj.mul Z) = smul Y.det (X.adj.mul Z) := by
  rw [mul_assoc, ← mul_assoc Y, mul_adj, smul_mul, one_mul, mul_smul]

section
variable {p : Int} {X Y Z g : M2}
theorem Eqv.symm (h : Eqv p X Y) : Eqv p Y X := by unfold Eqv at *; have := h.adj; rwa [adj_mul, adj_adj] at this
theorem Eqv.turn (h : Eqv p X Y) : Eqv p (X.mul (turn p)) (Y.mul (M2.turn p)) := by
  unfold Eqv at *
  have e : (X.mul (M2.turn p)).adj.mul (Y.mul (M2.turn p)) = ((M2.turn p).adj.mul (X.adj.mul Y)).mul (M2.turn p) := by
    rw [adj_mul, mul_assoc, mul_assoc, mul_assoc]
  rw [e]
  obtain ⟨k, a, b, c, d, e2, ha, hd⟩ := h
  rw [e2]
  refine ⟨k + 1, -d, -c, -b, -a, ?_, ndvd_neg hd, ndvd_neg ha⟩
  ext <;> simp only [M2.turn, adj, mul, Int.pow_succ] <;> grind
theorem turn_turn : (X.mul (turn p)).mul (turn p) = smul p X := by
  ext <;> simp only [turn, mul, smul] <;> grind
theorem Dis.symm (h : Dis p X Y) : Dis p Y X := by
  unfold Dis at *
  obtain ⟨k, a, b, c, d, e, hb⟩ := h
  have e2 : Y.adj.mul X = (X.adj.mul Y).adj := by rw [adj_mul, adj_adj]
  rw [e2, e]
  refine ⟨k, d, -b, -c, a, ?_, ndvd_neg hb⟩
  ext <;> simp only [adj] <;> grind

/-- the ends of a side -/
def Has (p : Int) (X : M2) (x y : Int) : Prop := In p (X.adj.a * x + X.adj.b * y) (X.adj.c * x + X.adj.d * y)

theorem app_ne (hx : X.det ≠ 0) {x y : Int} (h : x ≠ 0 ∨ y ≠ 0) : X.a * x + X.b * y ≠ 0 ∨ X.c * x + X.d * y ≠ 0 := by
  by_cases h1 : X.a * x + X.b * y = 0
  · by_cases h2 : X.c * x + X.d * y = 0
    · exfalso
      have e1 : X.det * x = X.d * (X.a * x + X.b * y) - X.b * (X.c * x + X.d * y) := by simp only [det]; grind
      have e2 : X.det * y = X.a * (X.c * x + X.d * y) - X.c * (X.a * x + X.b * y) := by simp only [det]; grind
      rw [h1, h2, Int.mul_zero, Int.mul_zero, Int.sub_zero] at e1 e2
      rcases h with h | h
      · exact Int.mul_ne_zero hx h e1
      · exact Int.mul_ne_zero hx h e2
    · exact .inr h2
  · exact .inl h1

variable (hp : IsP p)
include hp
theorem iw_one : Iw p one := ⟨0, 1, 0, 0, 1, by ext <;> simp [one], fun h => by have := Int.le_of_dvd (by omega) h; have := hp.two; omega, fun h => by have := Int.le_of_dvd (by omega) h; have := hp.two; omega⟩
theorem Eqv.refl (hx : X.det ≠ 0) : Eqv p X X := by unfold Eqv; rw [adj_mul_self]; exact (iw_one hp).smul hp hx
theorem Eqv.trans (hy : Y.det ≠ 0) (h : Eqv p X Y) (k : Eqv p Y Z) : Eqv p X Z := by
  unfold Eqv at *; have := h.mul hp k; rw [mid] at this; exact this.unsmul hp hy
theorem Eqv.left (hg : g.det ≠ 0) (h : Eqv p X Y) : Eqv p (g.mul X) (g.mul Y) := by
  unfold Eqv at *; rw [adj_mul_mul]; exact h.smul hp hg
theorem Eqv.smul_right {s : Int} (hs : s ≠ 0) (h : Eqv p X Y) : Eqv p X (smul s Y) := by
  unfold Eqv at *; rw [mul_smul]; exact h.smul hp hs
theorem det_turn_ne (hx : X.det ≠ 0) : (X.mul (turn p)).det ≠ 0 := by
  rw [det_mul]; exact Int.mul_ne_zero hx (by simp only [turn, det]; have := hp.two; omega)
theorem Dis.eqv {X' Y' : M2} (hx : X.det ≠ 0) (hy : Y.det ≠ 0) (h : Dis p X Y) (k : Eqv p X X') (l : Eqv p Y Y') : Dis p X' Y' := by
  unfold Dis at *
  have h1 := Ap.left hp (k.symm) h
  rw [mid] at h1
  have h2 := Ap.right hp (h1.unsmul hp hx) l
  rw [mid] at h2
  exact h2.unsmul hp hy
theorem Dis.left (hg : g.det ≠ 0) (h : Dis p X Y) : Dis p (g.mul X) (g.mul Y) := by
  unfold Dis at *; rw [adj_mul_mul]; exact h.smul hp hg
theorem Dis.smul_right {s : Int} (hs : s ≠ 0) (h : Dis p X Y) : Dis p X (smul s Y) := by
  unfold Dis at *; rw [mul_smul]; exact h.smul hp hs
theorem in_smul {s x y : Int} (hs : s ≠ 0) : In p (s * x) (s * y) ↔ In p x y := by
  by_cases h0 : x ≠ 0 ∨ y ≠ 0
  · have fw : ∀ {x y : Int}, In p x y → In p (s * x) (s * y) := by
      rintro x y ⟨t, u, v, rfl, rfl, hv⟩
      obtain ⟨m, hm, hpm⟩ := vl_spec hp.two hs
      generalize vl p s = j at hm
      subst hm
      refine ⟨j + t, m * u, m * v, ?_, ?_, ndvd_mul hp hpm hv⟩ <;> rw [Int.pow_add] <;> ac_rfl
    constructor
    · intro h
      rcases in_or_out hp.two h0 with k | k
      · exact k
      · exfalso
        refine not_in_out hp.two h ?_
        obtain ⟨t, u, v, rfl, rfl, hu⟩ := k
        obtain ⟨m, hm, hpm⟩ := vl_spec hp.two hs
        generalize vl p s = j at hm
        subst hm
        refine ⟨j + t, m * u, m * v, ?_, ?_, ndvd_mul hp hpm hu⟩ <;> rw [Int.pow_add] <;> ac_rfl
    · exact fw
  · have hx : x = 0 := by omega
    have hy : y = 0 := by omega
    subst hx; subst hy
    simp

theorem Has.eqv (hx : X.det ≠ 0) {x y : Int} (k : Eqv p X Y) (h : Has p X x y) : Has p Y x y := by
  unfold Has at *
  have h1 := Iw.in_ hp k.symm h
  have e1 : (Y.adj.mul X).a * (X.adj.a * x + X.adj.b * y) + (Y.adj.mul X).b * (X.adj.c * x + X.adj.d * y) = X.det * (Y.adj.a * x + Y.adj.b * y) := by
    simp only [M2.adj, M2.mul, det]; grind
  have e2 : (Y.adj.mul X).c * (X.adj.a * x + X.adj.b * y) + (Y.adj.mul X).d * (X.adj.c * x + X.adj.d * y) = X.det * (Y.adj.c * x + Y.adj.d * y) := by
    simp only [M2.adj, M2.mul, det]; grind
  rw [e1, e2, in_smul hp hx] at h1
  exact h1

theorem Has.move (hg : g.det ≠ 0) {x y : Int} : Has p (g.mul X) (g.a * x + g.b * y) (g.c * x + g.d * y) ↔ Has p X x y := by
  unfold Has
  have e1 : (g.mul X).adj.a * (g.a * x + g.b * y) + (g.mul X).adj.b * (g.c * x + g.d * y) = g.det * (X.adj.a * x + X.adj.b * y) := by
    simp only [M2.adj, M2.mul, det]; grind
  have e2 : (g.mul X).adj.c * (g.a * x + g.b * y) + (g.mul X).adj.d * (g.c * x + g.d * y) = g.det * (X.adj.c * x + X.adj.d * y) := by
    simp only [M2.adj, M2.mul, det]; grind
  rw [e1, e2, in_smul hp hg]

theorem Has.scale {s x y : Int} (hs : s ≠ 0) : Has p X (s * x) (s * y) ↔ Has p X x y := by
  unfold Has
  rw [← in_smul hp hs (x := X.adj.a * x + X.adj.b * y)]
  have e1 : X.adj.a * (s * x) + X.adj.b * (s * y) = s * (X.adj.a * x + X.adj.b * y) := by grind
  have e2 : X.adj.c * (s * x) + X.adj.d * (s * y) = s * (X.adj.c * x + X.adj.d * y) := by grind
  rw [e1, e2]

theorem Has.turn (hx : X.det ≠ 0) {x y : Int} (h0 : x ≠ 0 ∨ y ≠ 0) : Has p (X.mul (turn p)) x y ↔ ¬ Has p X x y := by
  unfold Has
  have e1 : (X.mul (M2.turn p)).adj.a * x + (X.mul (M2.turn p)).adj.b * y = -(X.adj.c * x + X.adj.d * y) := by
    simp only [M2.adj, M2.mul, M2.turn]; grind
  have e2 : (X.mul (M2.turn p)).adj.c * x + (X.mul (M2.turn p)).adj.d * y = -(p * (X.adj.a * x + X.adj.b * y)) := by
    simp only [M2.adj, M2.mul, M2.turn]; grind
  rw [e1, e2]
  have hne := app_ne (X := X.adj) (by rwa [det_adj]) h0
  generalize X.adj.a * x + X.adj.b * y = u at *
  generalize X.adj.c * x + X.adj.d * y = v at *
  constructor
  · rintro h k
    obtain ⟨t, a, b, rfl, rfl, hb⟩ := k
    refine not_in_out hp.two h ⟨t, -b, -a, by grind, by grind, ndvd_neg hb⟩
  · intro h
    rcases in_or_out hp.two hne with k | k
    · exact absurd k h
    · obtain ⟨t, a, b, rfl, rfl, ha⟩ := k
      exact ⟨t + 1, -b, -a, by rw [Int.pow_succ]; grind, by rw [Int.pow_succ]; grind, ndvd_neg ha⟩

theorem Dis.has (hx : X.det ≠ 0) (hy : Y.det ≠ 0) (h : Dis p X Y) {x y : Int} (h1 : Has p X x y) (h2 : Has p Y x y) : False := by
  unfold Has at *
  have e1 : (X.adj.mul Y).a * (Y.adj.a * x + Y.adj.b * y) + (X.adj.mul Y).b * (Y.adj.c * x + Y.adj.d * y) = Y.det * (X.adj.a * x + X.adj.b * y) := by
    simp only [M2.adj, M2.mul, det]; grind
  have e2 : (X.adj.mul Y).c * (Y.adj.a * x + Y.adj.b * y) + (X.adj.mul Y).d * (Y.adj.c * x + Y.adj.d * y) = Y.det * (X.adj.c * x + X.adj.d * y) := by
    simp only [M2.adj, M2.mul, det]; grind
  rw [← in_smul hp hy, ← e1, ← e2] at h1
  obtain ⟨k, a, b, c, d, e, hb⟩ := h
  rw [e] at h1
  obtain ⟨t, u, v, h3, h4, hv⟩ := h2
  rw [h3, h4] at h1
  refine not_in_out hp.two h1 ⟨k + t, p * (a * u) + b * v, c * u + d * v, ?_, ?_, ndvd_add' ⟨_, rfl⟩ (ndvd_mul hp hb hv)⟩ <;> rw [Int.pow_add] <;> grind
end

end M2
end Pl
end
section
set_option linter.unusedVariables false
set_option linter.unusedSimpArgs false
/-! plain: balls by level, top and down; the ball of a level that holds a fraction -/
namespace Pl
open M2

def IsB (p L T D : Int) : Prop := IsP p ∧ (-6 ≤ L ∧ L ≤ 6) ∧ (0 ≤ D ∧ D ≤ 6) ∧ ((L + D ≤ 0 ∧ T = 0 ∧ D = 0) ∨ (0 < L + D ∧ 0 ≤ T ∧ T < p ^ (L + D).toNat ∧ (D = 0 ∨ ¬ p ∣ T)))
def mk (p T D : Int) : Int := T * p ^ (6 - D).toNat
def nL (L : Int) : Nat := (L + 6).toNat

section
variable {p : Int}

theorem pow_mono (hp : 2 ≤ p) {a b : Nat} (h : a ≤ b) : p ^ a ≤ p ^ b := by
  obtain ⟨c, rfl⟩ : ∃ c, b = a + c := ⟨b - a, by omega⟩
  rw [Int.pow_add]
  have h1 := pow_pos hp a
  have h2 := pow_pos hp c
  have : p ^ a * 1 ≤ p ^ a * p ^ c := Int.mul_le_mul_of_nonneg_left (by omega) (by omega)
  omega

theorem pow_ne (hp : 2 ≤ p) (k : Nat) : p ^ k ≠ 0 := by have := pow_pos hp k; omega

theorem IsB.lv {L T D : Int} (h : IsB p L T D) : -6 ≤ L ∧ L ≤ 6 := h.2.1
theorem IsB.dn {L T D : Int} (h : IsB p L T D) : 0 ≤ D ∧ D ≤ 6 := h.2.2.1

theorem IsB.mk_nonneg {L T D : Int} (h : IsB p L T D) : 0 ≤ mk p T D := by
  have hp := h.1.two
  rcases h.2.2.2 with ⟨-, h1, -⟩ | ⟨-, h1, -, -⟩
  · subst h1; simp [mk]
  · exact Int.mul_nonneg h1 (by have := pow_pos hp (6 - D).toNat; omega)

theorem IsB.mk_lt {L T D : Int} (h : IsB p L T D) : mk p T D < p ^ nL L := by
  have hp := h.1.two
  have hl := h.lv
  have hd := h.dn
  rcases h.2.2.2 with ⟨-, h1, -⟩ | ⟨h0, h1, h2, -⟩
  · subst h1; simp [mk]; exact pow_pos hp _
  · have e : nL L = (L + D).toNat + (6 - D).toNat := by unfold nL; omega
    rw [e, Int.pow_add]
    exact Int.mul_lt_mul_of_pos_right h2 (pow_pos hp _)

theorem IsB.down_of_zero {L D : Int} (h : IsB p L 0 D) : D = 0 := by
  rcases h.2.2.2 with ⟨-, -, h1⟩ | ⟨-, -, -, h1 | h1⟩
  · exact h1
  · exact h1
  · exact absurd (Int.dvd_zero _) h1

theorem IsB.inj {L T D T' D' : Int} (h : IsB p L T D) (h' : IsB p L T' D') (e : mk p T D = mk p T' D') : T = T' ∧ D = D' := by
  have hp := h.1.two
  unfold mk at e
  by_cases h0 : T = 0
  · subst h0
    rw [Int.zero_mul] at e
    have : T' = 0 := by
      rcases Int.mul_eq_zero.1 e.symm with h | h
      · exact h
      · exact absurd h (pow_ne hp _)
    subst this
    exact ⟨rfl, by rw [h.down_of_zero, h'.down_of_zero]⟩
  · have h0' : T' ≠ 0 := by
      rintro rfl
      rw [Int.zero_mul] at e
      rcases Int.mul_eq_zero.1 e with h | h
      · exact h0 h
      · exact absurd h (pow_ne hp _)
    have hv : ∀ {L T D : Int}, IsB p L T D → T ≠ 0 → (D = 0 ∧ 6 ≤ vl p (T * p ^ (6 - D).toNat)) ∨ (0 < D ∧ vl p (T * p ^ (6 - D).toNat) = (6 - D).toNat) := by
      intro L T D h hT
      have e1 : vl p (T * p ^ (6 - D).toNat) = (6 - D).toNat + vl p T := by rw [Int.mul_comm, vl_pow_mul hp _ hT]
      have hd := h.dn
      rcases h.2.2.2 with ⟨-, h1, -⟩ | ⟨-, -, -, h1 | h1⟩
      · exact absurd h1 hT
      · subst h1; refine .inl ⟨rfl, ?_⟩; rw [e1]; omega
      · by_cases hD : D = 0
        · subst hD; refine .inl ⟨rfl, ?_⟩; rw [e1]; omega
        · have : vl p T = 0 := vl_unique (m := T) hp hT (by simp) h1
          refine .inr ⟨by omega, by rw [e1, this]; rfl⟩
    have hd := h.dn
    have hd' := h'.dn
    have hDD : D = D' := by
      rcases hv h h0 with ⟨a, b⟩ | ⟨a, b⟩ <;> rcases hv h' h0' with ⟨a', b'⟩ | ⟨a', b'⟩
      · omega
      · rw [e] at b; omega
      · rw [e] at b; omega
      · rw [e] at b; omega
    subst hDD
    refine ⟨?_, rfl⟩
    exact Int.eq_of_mul_eq_mul_right (pow_ne hp _) e

/-- the down and the top of a mark -/
def dOf (p x : Int) : Int := if x = 0 then 0 else max (6 - (vl p x : Int)) 0
def tOf (p x : Int) : Int := x / p ^ (6 - dOf p x).toNat

theorem tOf_mul (hp : 2 ≤ p) (x : Int) : mk p (tOf p x) (dOf p x) = x := by
  unfold mk tOf
  by_cases h0 : x = 0
  · subst h0; simp
  · have : p ^ (6 - dOf p x).toNat ∣ x := by
      rw [dvd_iff_le_vl hp h0]; unfold dOf; rw [if_neg h0]; omega
    exact Int.ediv_mul_cancel this

theorem ofMk_isB (hp : IsP p) {L x : Int} (hL : -6 ≤ L ∧ L ≤ 6) (hx : 0 ≤ x ∧ x < p ^ nL L) : IsB p L (tOf p x) (dOf p x) := by
  have h2 := hp.two
  by_cases h0 : x = 0
  · subst h0
    have e1 : dOf p 0 = 0 := by simp [dOf]
    have e2 : tOf p 0 = 0 := by simp [tOf]
    rw [e1, e2]
    refine ⟨hp, hL, by omega, ?_⟩
    by_cases h : L ≤ 0
    · exact .inl ⟨by omega, rfl, rfl⟩
    · exact .inr ⟨by omega, by omega, by have := pow_pos h2 (L + 0).toNat; omega, .inl rfl⟩
  · have hd0 : 0 ≤ dOf p x ∧ dOf p x ≤ 6 := by unfold dOf; rw [if_neg h0]; omega
    have hm := tOf_mul h2 x
    have hpd := pow_pos h2 (6 - dOf p x).toNat
    have ht : 0 < tOf p x := by
      rcases Int.lt_or_le 0 (tOf p x) with h | h
      · exact h
      · exfalso
        unfold mk at hm
        have := Int.mul_nonpos_of_nonpos_of_nonneg h (Int.le_of_lt hpd)
        omega
    refine ⟨hp, hL, hd0, .inr ?_⟩
    have hlt : 0 < L + dOf p x := by
      rcases Int.lt_or_le 0 (L + dOf p x) with h | h
      · exact h
      · exfalso
        have h3 : p ^ nL L ≤ p ^ (6 - dOf p x).toNat := pow_mono h2 (by unfold nL; omega)
        unfold mk at hm
        have h4 : 1 * p ^ (6 - dOf p x).toNat ≤ tOf p x * p ^ (6 - dOf p x).toNat := Int.mul_le_mul_of_nonneg_right (by omega) (Int.le_of_lt hpd)
        omega
    refine ⟨hlt, by omega, ?_, ?_⟩
    · have e : nL L = (L + dOf p x).toNat + (6 - dOf p x).toNat := by unfold nL; omega
      rw [e, Int.pow_add, ← hm] at hx
      conv at hx => rhs; lhs; unfold mk
      have hm2 : dOf p (mk p (tOf p x) (dOf p x)) = dOf p x := by rw [hm]
      rw [hm] at hx
      have hx2 : tOf p x * p ^ (6 - dOf p x).toNat < p ^ (L + dOf p x).toNat * p ^ (6 - dOf p x).toNat := by
        have := hx.2
        first | exact this | (unfold mk at hm; rw [hm]; exact this)
      exact Int.lt_of_mul_lt_mul_right hx2 (Int.le_of_lt hpd)
    · by_cases hd : dOf p x = 0
      · exact .inl hd
      · right
        intro hdv
        have hv : vl p x = (6 - dOf p x).toNat + vl p (tOf p x) := by
          conv => lhs; rw [← hm]
          unfold mk
          rw [Int.mul_comm, vl_pow_mul h2 _ (by omega)]
        have e : p ^ 1 = p := by grind
        have hdv1 : p ^ 1 ∣ tOf p x := by rw [e]; exact hdv
        have : 1 ≤ vl p (tOf p x) := (dvd_iff_le_vl h2 (by omega) 1).1 hdv1
        unfold dOf at hv hd
        rw [if_neg h0] at hv hd
        omega

theorem ofMk_mk {L T D : Int} (h : IsB p L T D) : tOf p (mk p T D) = T ∧ dOf p (mk p T D) = D := by
  have h1 := ofMk_isB h.1 h.lv ⟨h.mk_nonneg, h.mk_lt⟩
  exact h1.inj h (tOf_mul h.1.two _)

def Fits (p num den L : Int) : Prop := (-6 ≤ L ∧ L ≤ 6) ∧ (num = 0 ∨ L ≤ (vl p num : Int) - vl p den ∨ -6 ≤ (vl p num : Int) - vl p den)
def IsAt (p num den L T D : Int) : Prop := IsB p L T D ∧ p ^ (nL L + vl p den) ∣ p ^ 6 * num - mk p T D * den
/-- the answer of both programs: the ball of a level with a fraction -/
def AtR (p num den L T D : Int) (ok : Bool) : Prop := (Fits p num den L ∧ ok = true ∧ IsAt p num den L T D) ∨ (¬ Fits p num den L ∧ ok = false)

theorem eq_of_dvd_sub {m x y : Int} (hx : 0 ≤ x ∧ x < m) (hy : 0 ≤ y ∧ y < m) (h : m ∣ x - y) : x = y := by
  by_cases h0 : x - y = 0
  · omega
  · exfalso
    rcases Int.lt_or_gt_of_ne h0 with h1 | h1
    · have h2 : m ∣ y - x := by
        have : y - x = -(x - y) := by omega
        rw [this, Int.dvd_neg]; exact h
      have := Int.le_of_dvd (by omega) h2
      omega
    · have := Int.le_of_dvd (by omega) h
      omega

theorem IsAt.unique {num den L T D T' D' : Int} (hd : den ≠ 0) (h : IsAt p num den L T D) (h' : IsAt p num den L T' D') : T = T' ∧ D = D' := by
  refine h.1.inj h'.1 (eq_of_dvd_sub ⟨h.1.mk_nonneg, h.1.mk_lt⟩ ⟨h'.1.mk_nonneg, h'.1.mk_lt⟩ ?_)
  refine dvd_of_mul h.1.1 hd ?_
  have := Int.dvd_sub h'.2 h.2
  have e : p ^ 6 * num - mk p T' D' * den - (p ^ 6 * num - mk p T D * den) = (mk p T D - mk p T' D') * den := by grind
  rwa [e] at this

theorem IsAt.fits {num den L T D : Int} (hd : den ≠ 0) (h : IsAt p num den L T D) : Fits p num den L := by
  refine ⟨h.1.lv, ?_⟩
  have hp := h.1.1
  by_cases h0 : num = 0
  · exact .inl h0
  · refine .inr ?_
    rcases Int.lt_or_le ((vl p num : Int) - vl p den) L with hlt | hle
    · right
      have hL := h.1.lv
      have h1 : ¬ p ^ (nL L + vl p den) ∣ p ^ 6 * num := by
        rw [dvd_iff_le_vl hp.two (Int.mul_ne_zero (pow_ne hp.two _) h0), vl_pow_mul hp.two _ h0]
        unfold nL; omega
      by_cases hm : mk p T D = 0
      · exfalso; apply h1; have := h.2; rw [hm, Int.zero_mul, Int.sub_zero] at this; exact this
      · rcases Int.lt_or_le ((vl p num : Int) - vl p den) (-6) with h6 | h6
        · exfalso
          have h2 : p ^ (6 + vl p num + 1) ∣ p ^ 6 * num - mk p T D * den := Int.dvd_trans ⟨p ^ (nL L + vl p den - (6 + vl p num + 1)), by rw [← Int.pow_add]; congr 1; unfold nL; omega⟩ h.2
          have h3 : p ^ (6 + vl p num + 1) ∣ mk p T D * den := Int.dvd_trans (pow_dvd_vl hp.two (a := den) (k := 6 + vl p num + 1) (.inr (by omega))) (Int.dvd_mul_left _ _)
          have h4 : p ^ (6 + vl p num + 1) ∣ p ^ 6 * num := by
            have := Int.dvd_add h2 h3
            have e : p ^ 6 * num - mk p T D * den + mk p T D * den = p ^ 6 * num := by omega
            rwa [e] at this
          rw [dvd_iff_le_vl hp.two (Int.mul_ne_zero (pow_ne hp.two _) h0), vl_pow_mul hp.two _ h0] at h4
          omega
        · exact h6
    · exact .inl hle

theorem AtR.unique {num den L T D T' D' : Int} {ok ok' : Bool} (hd : den ≠ 0) (h : AtR p num den L T D ok) (h' : AtR p num den L T' D' ok') : ok = ok' ∧ (ok = true → T = T' ∧ D = D') := by
  rcases h with ⟨h1, rfl, h2⟩ | ⟨h1, rfl⟩ <;> rcases h' with ⟨h3, rfl, h4⟩ | ⟨h3, rfl⟩
  · exact ⟨rfl, fun _ => h2.unique hd h4⟩
  · exact absurd h1 h3
  · exact absurd h3 h1
  · exact ⟨rfl, fun h => by cases h⟩

theorem AtR.of_isAt {num den L T D T' D' : Int} {ok : Bool} (hd : den ≠ 0) (h : IsAt p num den L T D) (h' : AtR p num den L T' D' ok) : ok = true ∧ T' = T ∧ D' = D := by
  rcases h' with ⟨h3, rfl, h4⟩ | ⟨h3, rfl⟩
  · exact ⟨rfl, h4.unique hd h⟩
  · exact absurd (h.fits hd) h3

theorem fits_scale {num den L s : Int} (hp : IsP p) (hs : s ≠ 0) (hd : den ≠ 0) : Fits p (s * num) (s * den) L ↔ Fits p num den L := by
  unfold Fits
  by_cases h0 : num = 0
  · subst h0; simp
  · have h1 : s * num ≠ 0 := Int.mul_ne_zero hs h0
    rw [vl_mul hp hs h0, vl_mul hp hs hd]
    simp only [h0, h1, false_or]
    constructor <;> rintro ⟨a, b⟩ <;> refine ⟨a, ?_⟩ <;> omega

theorem isAt_scale {num den L T D s : Int} (hp : IsP p) (hs : s ≠ 0) (hd : den ≠ 0) : IsAt p (s * num) (s * den) L T D ↔ IsAt p num den L T D := by
  unfold IsAt
  refine and_congr_right fun hb => ?_
  have e : p ^ 6 * (s * num) - mk p T D * (s * den) = (p ^ 6 * num - mk p T D * den) * s := by grind
  rw [e, vl_mul hp hs hd]
  constructor
  · intro h
    refine dvd_of_mul hp hs ?_
    have : nL L + vl p den + vl p s = nL L + (vl p s + vl p den) := by omega
    rw [this]; exact h
  · intro h
    have : nL L + (vl p s + vl p den) = nL L + vl p den + vl p s := by omega
    rw [this, Int.pow_add]
    exact Int.mul_dvd_mul h (pow_dvd_vl hp.two (.inr (Nat.le_refl _)))

theorem atR_scale {num den L T D s : Int} {ok : Bool} (hp : IsP p) (hs : s ≠ 0) (hd : den ≠ 0) : AtR p (s * num) (s * den) L T D ok ↔ AtR p num den L T D ok := by
  unfold AtR; rw [fits_scale hp hs hd, isAt_scale hp hs hd]

/-- the matrix of a ball -/
def mB (p L T D : Int) : M2 := ofB p (nL L) (mk p T D)

theorem mB_ne {L T D : Int} (h : IsB p L T D) : (mB p L T D).det ≠ 0 := det_ofB_ne h.1.two _ _

theorem mB_same {L T D L' T' D' : Int} (h : IsB p L T D) (h' : IsB p L' T' D') (k : Same p (mB p L T D) (mB p L' T' D')) : L = L' ∧ T = T' ∧ D = D' := by
  obtain ⟨h1, h2⟩ := same_ofB h.1 ⟨h.mk_nonneg, h.mk_lt⟩ ⟨h'.mk_nonneg, h'.mk_lt⟩ k
  have hl := h.lv
  have hl' := h'.lv
  have : L = L' := by unfold nL at h1; omega
  subst this
  exact ⟨rfl, h.inj h' h2⟩

/-- a ball of a column: where the matrix leads -/
theorem isAt_same {u1 u2 v1 v2 L T D : Int} (hp : IsP p) (hd : (⟨u1, v1, u2, v2⟩ : M2).det ≠ 0) (hv : v2 ≠ 0) (hu : u2 = 0 ∨ vl p v2 ≤ vl p u2)
    (hn : L + 2 * (vl p v2 : Int) = vl p (⟨u1, v1, u2, v2⟩ : M2).det) (h : IsAt p v1 v2 L T D) : Same p (mB p L T D) ⟨u1, v1, u2, v2⟩ := by
  have hl := h.1.lv
  exact same_col hp hd hv hu (by unfold nL; omega) h.2

/-- and back -/
theorem same_isAt {u1 u2 v1 v2 L T D : Int} (hp : IsP p) (hd : (⟨u1, v1, u2, v2⟩ : M2).det ≠ 0) (hv : v2 ≠ 0) (hu : u2 = 0 ∨ vl p v2 ≤ vl p u2)
    (hB : IsB p L T D) (h : Same p (mB p L T D) ⟨u1, v1, u2, v2⟩) : L + 2 * (vl p v2 : Int) = vl p (⟨u1, v1, u2, v2⟩ : M2).det ∧ IsAt p v1 v2 L T D := by
  have hl := hB.lv
  generalize hU : (⟨u1, v1, u2, v2⟩ : M2) = U at *
  have hKd : ((mB p L T D).adj.mul U).det ≠ 0 := det_ne_mul (det_adj_ne (mB_ne hB)) hd
  have hdet : vl p ((mB p L T D).adj.mul U).det = nL L + 6 + vl p U.det := by
    rw [det_mul, det_adj, vl_mul hp (mB_ne hB) hd]; unfold mB; rw [det_ofB, vl_pow hp.two]
  have hmin : (nL L + 6 + vl p U.det : Int) = 2 * minv p ((mB p L T D).adj.mul U) := by
    unfold Same M2.dist at h
    have e : (vl p (mB p L T D).det : Int) = nL L + 6 := by unfold mB; rw [det_ofB, vl_pow hp.two]; omega
    omega
  have hdv := (le_minv hp.two hKd _).1 (Nat.le_refl (minv p ((mB p L T D).adj.mul U)))
  generalize hk : minv p ((mB p L T D).adj.mul U) = k at *
  have eK : (mB p L T D).adj.mul U = ⟨p ^ 6 * u1 - mk p T D * u2, p ^ 6 * v1 - mk p T D * v2, p ^ nL L * u2, p ^ nL L * v2⟩ := by
    rw [← hU]; unfold mB; ext <;> simp only [ofB, adj, mul] <;> grind
  have hle : k ≤ nL L + vl p v2 := by
    have := hdv.2.2.2
    rw [eK] at this
    simp only at this
    rwa [dvd_iff_le_vl hp.two (Int.mul_ne_zero (pow_ne hp.two _) hv), vl_pow_mul hp.two _ hv] at this
  have heq : k = nL L + vl p v2 := by
    rcases Nat.lt_or_ge k (nL L + vl p v2) with hlt | hge
    · exfalso
      have h1 := hdv.1
      have h2 := hdv.2.1
      have h3 : p ^ (k + 1) ∣ ((mB p L T D).adj.mul U).c := by
        rw [eK]; simp only
        by_cases hu0 : u2 = 0
        · subst hu0; simp
        · rw [dvd_iff_le_vl hp.two (Int.mul_ne_zero (pow_ne hp.two _) hu0), vl_pow_mul hp.two _ hu0]
          rcases hu with hu | hu
          · exact absurd hu hu0
          · omega
      have h4 : p ^ (k + 1) ∣ ((mB p L T D).adj.mul U).d := by
        rw [eK]; simp only
        rw [dvd_iff_le_vl hp.two (Int.mul_ne_zero (pow_ne hp.two _) hv), vl_pow_mul hp.two _ hv]; omega
      have h5 : p ^ (k + (k + 1)) ∣ ((mB p L T D).adj.mul U).det := by
        unfold M2.det
        rw [Int.pow_add]
        exact Int.dvd_sub (Int.mul_dvd_mul h1 h4) (Int.mul_dvd_mul h2 h3)
      rw [dvd_iff_le_vl hp.two hKd, hdet] at h5
      omega
    · omega
  refine ⟨by unfold nL at *; omega, hB, ?_⟩
  have := hdv.2.1
  rw [eK, heq] at this
  exact this
end

end Pl
end
section
set_option linter.unusedVariables false
set_option linter.unusedSimpArgs false
/-! plain: reduced matrices -/
namespace Pl
namespace M2

def sgn (X : M2) : Int := if X.a < 0 ∨ X.a = 0 ∧ X.b < 0 then -1 else 1
def kof (X : M2) : Int := X.sgn * X.cont
def red (X : M2) : M2 := ⟨X.a / X.kof, X.b / X.kof, X.c / X.kof, X.d / X.kof⟩

theorem sgn_ne (X : M2) : X.sgn = 1 ∨ X.sgn = -1 := by unfold sgn; split <;> simp
theorem kof_ne {X : M2} (h : X.det ≠ 0) : X.kof ≠ 0 := by
  unfold kof
  exact Int.mul_ne_zero (by rcases sgn_ne X with h | h <;> omega) (cont_ne h)

theorem kof_dvd (X : M2) : Dvd X.kof X := by
  have h := (dvd_cont X.cont X).1 (Int.dvd_refl _)
  unfold kof
  rcases sgn_ne X with e | e
  · rw [e, Int.one_mul]; exact h
  · rw [e]
    have : -1 * X.cont = -X.cont := by omega
    rw [this]
    exact ⟨Int.neg_dvd.2 h.1, Int.neg_dvd.2 h.2.1, Int.neg_dvd.2 h.2.2.1, Int.neg_dvd.2 h.2.2.2⟩

theorem red_smul_kof (X : M2) : smul X.kof (red X) = X := by
  have h := kof_dvd X
  ext <;> simp only [smul, red]
  · exact Int.mul_ediv_cancel' h.1
  · exact Int.mul_ediv_cancel' h.2.1
  · exact Int.mul_ediv_cancel' h.2.2.1
  · exact Int.mul_ediv_cancel' h.2.2.2

theorem row_ne {X : M2} (h : X.det ≠ 0) : X.a ≠ 0 ∨ X.b ≠ 0 := by
  by_cases ha : X.a = 0
  · by_cases hb : X.b = 0
    · exact absurd (by simp [det, ha, hb]) h
    · exact .inr hb
  · exact .inl ha

theorem kof_smul {X : M2} {s : Int} (hs : s ≠ 0) (h : X.det ≠ 0) : (smul s X).kof = s * X.kof := by
  unfold kof
  rw [cont_smul]
  have hr := row_ne h
  have key : (smul s X).sgn * (s.natAbs : Int) = s * X.sgn := by
    unfold sgn
    simp only [smul]
    rcases Int.lt_or_gt_of_ne hs with h1 | h1
    · have e : (s.natAbs : Int) = -s := by omega
      rw [e]
      by_cases ha : X.a = 0
      · have hb : X.b ≠ 0 := by rcases hr with h | h; exact absurd ha h; exact h
        simp only [ha, Int.mul_zero, Int.lt_irrefl, false_or, true_and]
        rcases Int.lt_or_gt_of_ne hb with h2 | h2
        · have : 0 < s * X.b := Int.mul_pos_of_neg_of_neg h1 h2
          rw [if_neg (by omega), if_pos h2]; omega
        · have : s * X.b < 0 := Int.mul_neg_of_neg_of_pos h1 h2
          rw [if_pos this, if_neg (by omega)]; omega
      · have hsa : s * X.a ≠ 0 := Int.mul_ne_zero hs ha
        simp only [ha, hsa, false_and, or_false]
        rcases Int.lt_or_gt_of_ne ha with h2 | h2
        · have : 0 < s * X.a := Int.mul_pos_of_neg_of_neg h1 h2
          rw [if_neg (by omega), if_pos h2]; omega
        · have : s * X.a < 0 := Int.mul_neg_of_neg_of_pos h1 h2
          rw [if_pos this, if_neg (by omega)]; omega
    · have e : (s.natAbs : Int) = s := by omega
      rw [e]
      by_cases ha : X.a = 0
      · have hb : X.b ≠ 0 := by rcases hr with h | h; exact absurd ha h; exact h
        simp only [ha, Int.mul_zero, Int.lt_irrefl, false_or, true_and]
        rcases Int.lt_or_gt_of_ne hb with h2 | h2
        · have : s * X.b < 0 := Int.mul_neg_of_pos_of_neg h1 h2
          rw [if_pos this, if_pos h2]; omega
        · have : 0 < s * X.b := Int.mul_pos h1 h2
          rw [if_neg (by omega), if_neg (by omega)]; omega
      · have hsa : s * X.a ≠ 0 := Int.mul_ne_zero hs ha
        simp only [ha, hsa, false_and, or_false]
        rcases Int.lt_or_gt_of_ne ha with h2 | h2
        · have : s * X.a < 0 := Int.mul_neg_of_pos_of_neg h1 h2
          rw [if_pos this, if_pos h2]; omega
        · have : 0 < s * X.a := Int.mul_pos h1 h2
          rw [if_neg (by omega), if_neg (by omega)]; omega
  rw [← Int.mul_assoc, key, Int.mul_assoc]

theorem red_smul {X : M2} {s : Int} (hs : s ≠ 0) (h : X.det ≠ 0) : red (smul s X) = red X := by
  have hk := kof_ne h
  unfold red
  rw [kof_smul hs h]
  simp only [smul]
  have hd := kof_dvd X
  have key : ∀ x : Int, X.kof ∣ x → s * x / (s * X.kof) = x / X.kof := by
    rintro x ⟨y, rfl⟩
    rw [Int.mul_ediv_cancel_left _ hk, ← Int.mul_assoc, Int.mul_ediv_cancel_left _ (Int.mul_ne_zero hs hk)]
  rw [key _ hd.1, key _ hd.2.1, key _ hd.2.2.1, key _ hd.2.2.2]

theorem det_red_ne {X : M2} (h : X.det ≠ 0) : (red X).det ≠ 0 := by
  intro h0
  apply h
  rw [← red_smul_kof X, det_smul, h0, Int.mul_zero]

theorem smul_det_ne {X : M2} {s : Int} (hs : s ≠ 0) (h : X.det ≠ 0) : (smul s X).det ≠ 0 := by
  rw [det_smul]; exact Int.mul_ne_zero (Int.mul_ne_zero hs hs) h

theorem red_red {X : M2} (h : X.det ≠ 0) : red (red X) = red X := by
  have := red_smul (kof_ne h) (det_red_ne h)
  rw [red_smul_kof] at this
  exact this.symm

theorem red_mul_left {X Y : M2} (hx : X.det ≠ 0) (hy : Y.det ≠ 0) : red ((red X).mul Y) = red (X.mul Y) := by
  have := red_smul (kof_ne hx) (det_ne_mul (det_red_ne hx) hy)
  rw [← smul_mul, red_smul_kof] at this
  exact this.symm

theorem red_mul_right {X Y : M2} (hx : X.det ≠ 0) (hy : Y.det ≠ 0) : red (X.mul (red Y)) = red (X.mul Y) := by
  have := red_smul (kof_ne hy) (det_ne_mul hx (det_red_ne hy))
  rw [← mul_smul, red_smul_kof] at this
  exact this.symm

theorem red_adj {X : M2} (hx : X.det ≠ 0) : red (red X).adj = red X.adj := by
  have := red_smul (kof_ne hx) (X := (red X).adj) (by rw [det_adj]; exact det_red_ne hx)
  rw [← adj_smul, red_smul_kof] at this
  exact this.symm

theorem red_one : red one = one := by decide

theorem red_smul_one {s : Int} (hs : s ≠ 0) : red (smul s one) = one := by
  rw [red_smul hs (by decide), red_one]

/-- entries of a reduced matrix are no greater -/
theorem red_le {X : M2} (h : X.det ≠ 0) {m : Int} (ha : -m ≤ X.a ∧ X.a ≤ m) (hb : -m ≤ X.b ∧ X.b ≤ m) (hc : -m ≤ X.c ∧ X.c ≤ m) (hd : -m ≤ X.d ∧ X.d ≤ m) :
    (-m ≤ (red X).a ∧ (red X).a ≤ m) ∧ (-m ≤ (red X).b ∧ (red X).b ≤ m) ∧ (-m ≤ (red X).c ∧ (red X).c ≤ m) ∧ (-m ≤ (red X).d ∧ (red X).d ≤ m) := by
  have hk := kof_ne h
  have key : ∀ x : Int, -m ≤ x ∧ x ≤ m → -m ≤ x / X.kof ∧ x / X.kof ≤ m ∨ ¬ X.kof ∣ x := by
    intro x hx
    by_cases hd : X.kof ∣ x
    · left
      obtain ⟨y, rfl⟩ := hd
      rw [Int.mul_ediv_cancel_left _ hk]
      have h1 : (X.kof * y).natAbs = X.kof.natAbs * y.natAbs := Int.natAbs_mul _ _
      have h2 : 1 ≤ X.kof.natAbs := by omega
      have h3 : 1 * y.natAbs ≤ X.kof.natAbs * y.natAbs := Nat.mul_le_mul_right _ h2
      omega
    · exact .inr hd
  have hdv := kof_dvd X
  refine ⟨?_, ?_, ?_, ?_⟩
  · exact (key _ ha).resolve_right fun h => h hdv.1
  · exact (key _ hb).resolve_right fun h => h hdv.2.1
  · exact (key _ hc).resolve_right fun h => h hdv.2.2.1
  · exact (key _ hd).resolve_right fun h => h hdv.2.2.2

theorem tdiv_eq {x k : Int} (h : k ∣ x) : x.tdiv k = x / k := by
  obtain ⟨y, rfl⟩ := h
  by_cases hk : k = 0
  · subst hk; simp
  · rw [Int.mul_tdiv_cancel_left _ hk, Int.mul_ediv_cancel_left _ hk]

end M2
end Pl
end
section
set_option linter.unusedVariables false
set_option linter.unusedSimpArgs false
/-! sides moved by a matrix -/
namespace Pl
open M2
namespace M2

theorem iw_d {p : Int} (hp : IsP p) {A B C D : Int} {k : Nat} (hD : D ≠ 0) (hv : vl p D = k) (hB : p ^ k ∣ B) (hC : p ^ (k + 1) ∣ C) (h0 : A * D - B * C ≠ 0) (hd : vl p (A * D - B * C) = 2 * k) : Iw p ⟨A, B, C, D⟩ := by
  obtain ⟨d, e1, nd⟩ := vl_spec hp.two hD
  rw [hv] at e1
  obtain ⟨b, rfl⟩ := hB
  obtain ⟨c, rfl⟩ := hC
  obtain ⟨e, e2, ne⟩ := vl_spec hp.two h0
  rw [hd] at e2
  have hz := pow_ne hp.two k
  have e3 : p ^ k * (A * d) = p ^ k * (p ^ k * (e + p * (b * c))) := by
    have : p ^ (2 * k) = p ^ k * p ^ k := by rw [← Int.pow_add]; congr 1; omega
    rw [this] at e2
    rw [e1] at e2
    rw [Int.pow_succ] at e2
    grind
  have e4 := Int.eq_of_mul_eq_mul_left hz e3
  have h1 : p ^ (k + vl p d) ∣ A * d := by
    rw [show vl p d = 0 from vl_unique (m := d) hp.two (fun h => nd (by rw [h]; exact Int.dvd_zero _)) (by simp) nd, Nat.add_zero, e4]
    exact Int.dvd_mul_right _ _
  obtain ⟨a, rfl⟩ := dvd_of_mul hp (fun h => nd (by rw [h]; exact Int.dvd_zero _)) h1
  refine ⟨k, a, b, c, d, ?_, ?_, nd⟩
  · rw [e1, Int.pow_succ, Int.mul_assoc]
  · intro ha
    have e5 : a * d = e + p * (b * c) := by
      refine Int.eq_of_mul_eq_mul_left hz ?_
      rw [← e4, Int.mul_assoc]
    refine ne ?_
    have h2 : p ∣ a * d := Int.dvd_trans ha (Int.dvd_mul_right _ _)
    have h3 := Int.dvd_sub h2 (Int.dvd_mul_right p (b * c))
    rwa [e5, Int.add_sub_cancel] at h3

theorem iw_a {p : Int} (hp : IsP p) {A B C D : Int} {k : Nat} (hA : A ≠ 0) (hv : vl p A = k) (hB : p ^ k ∣ B) (hC : p ^ (k + 1) ∣ C) (h0 : A * D - B * C ≠ 0) (hd : vl p (A * D - B * C) = 2 * k) : Iw p ⟨A, B, C, D⟩ := by
  have e : D * A - -B * -C = A * D - B * C := by grind
  have h := iw_d hp (A := D) (B := -B) (C := -C) (D := A) (k := k) hA hv (Int.dvd_neg.2 hB) (Int.dvd_neg.2 hC) (by rw [e]; exact h0) (by rw [e]; exact hd)
  have h := h.adj
  unfold adj at h
  rwa [Int.neg_neg, Int.neg_neg] at h

/-- the ball of a moved side, pole outside -/
theorem eqv_out {p : Int} (hp : IsP p) {g : M2} {n n' : Nat} {m m' L L' : Int} (hg : g.det ≠ 0) (hY : g.c * m + g.d * p ^ 6 ≠ 0) (hn : g.c = 0 ∨ vl p (g.c * m + g.d * p ^ 6) < n + vl p g.c)
    (hl : (n' : Int) = n + vl p g.det - 2 * vl p (g.c * m + g.d * p ^ 6) + 12) (h : p ^ (n' + vl p (g.c * m + g.d * p ^ 6)) ∣ p ^ 6 * (g.a * m + g.b * p ^ 6) - m' * (g.c * m + g.d * p ^ 6)) :
    Eqv p (ofB p n' m') (g.mul (ofB p n m)) := by
  have h2 := hp.two
  have e : (ofB p n' m').adj.mul (g.mul (ofB p n m)) = ⟨p ^ n * (p ^ 6 * g.a - m' * g.c), p ^ 6 * (g.a * m + g.b * p ^ 6) - m' * (g.c * m + g.d * p ^ 6), p ^ (n' + n) * g.c, p ^ n' * (g.c * m + g.d * p ^ 6)⟩ := by
    rw [Int.pow_add]
    unfold adj ofB mul
    ext <;> simp only <;> grind
  unfold Eqv
  rw [e]
  have hdet : (⟨p ^ n * (p ^ 6 * g.a - m' * g.c), p ^ 6 * (g.a * m + g.b * p ^ 6) - m' * (g.c * m + g.d * p ^ 6), p ^ (n' + n) * g.c, p ^ n' * (g.c * m + g.d * p ^ 6)⟩ : M2).det = p ^ (n' + 6) * (g.det * p ^ (n + 6)) := by
    rw [← e, det_mul, det_mul, det_adj, det_ofB, det_ofB]
  have hdet : p ^ n * (p ^ 6 * g.a - m' * g.c) * (p ^ n' * (g.c * m + g.d * p ^ 6)) - (p ^ 6 * (g.a * m + g.b * p ^ 6) - m' * (g.c * m + g.d * p ^ 6)) * (p ^ (n' + n) * g.c) = p ^ (n' + 6) * (p ^ (n + 6) * g.det) := by
    have := hdet; unfold det at this; unfold det; rw [this]; grind
  refine iw_d hp (k := n' + vl p (g.c * m + g.d * p ^ 6)) (Int.mul_ne_zero (pow_ne h2 _) hY) (by rw [vl_pow_mul h2 _ hY]) h ?_ ?_ ?_
  · rcases hn with hc | hc
    · rw [hc, Int.mul_zero]; exact Int.dvd_zero _
    · by_cases hc0 : g.c = 0
      · rw [hc0, Int.mul_zero]; exact Int.dvd_zero _
      · refine pow_dvd_vl h2 (.inr ?_)
        rw [vl_pow_mul h2 _ hc0]; omega
  · rw [hdet]
    exact Int.mul_ne_zero (pow_ne h2 _) (Int.mul_ne_zero (pow_ne h2 _) hg)
  · rw [hdet, vl_pow_mul h2 _ (Int.mul_ne_zero (pow_ne h2 _) hg), vl_pow_mul h2 _ hg]; omega

/-- the ball of a moved side, pole inside -/
theorem eqv_in {p : Int} (hp : IsP p) {g : M2} {n n' : Nat} {m m' : Int} (hg : g.det ≠ 0) (hc : g.c ≠ 0) (hn : g.c * m + g.d * p ^ 6 = 0 ∨ n + vl p g.c ≤ vl p (g.c * m + g.d * p ^ 6))
    (hl : (n' : Int) = vl p g.det - 2 * vl p g.c - n + 13) (h : p ^ (n' + vl p g.c) ∣ p ^ 6 * g.a - m' * g.c) :
    Eqv p ((ofB p n' m').mul (turn p)) (g.mul (ofB p n m)) := by
  have h2 := hp.two
  have e : ((ofB p n' m').mul (turn p)).adj.mul (g.mul (ofB p n m)) = ⟨-(p ^ (n' + n) * g.c), -(p ^ n' * (g.c * m + g.d * p ^ 6)), -(p * (p ^ n * (p ^ 6 * g.a - m' * g.c))), -(p * (p ^ 6 * (g.a * m + g.b * p ^ 6) - m' * (g.c * m + g.d * p ^ 6)))⟩ := by
    rw [Int.pow_add]
    unfold adj ofB turn mul
    ext <;> simp only <;> grind
  unfold Eqv
  rw [e]
  have hdet : (-(p ^ (n' + n) * g.c)) * (-(p * (p ^ 6 * (g.a * m + g.b * p ^ 6) - m' * (g.c * m + g.d * p ^ 6)))) - (-(p ^ n' * (g.c * m + g.d * p ^ 6))) * (-(p * (p ^ n * (p ^ 6 * g.a - m' * g.c)))) = -(p ^ (n' + 7) * (p ^ (n + 6) * g.det)) := by
    have h1 : (((ofB p n' m').mul (turn p)).adj.mul (g.mul (ofB p n m))).det = (p ^ (n' + 6) * -p) * (g.det * p ^ (n + 6)) := by
      rw [det_mul, det_mul, det_adj, det_mul, det_ofB, det_ofB]; unfold turn det; simp
    rw [e] at h1
    unfold det at h1; unfold det; rw [h1, show n' + 7 = n' + 6 + 1 from rfl, Int.pow_succ p (n' + 6)]; grind
  have hc' : p ^ (n' + n) * g.c ≠ 0 := Int.mul_ne_zero (pow_ne h2 _) hc
  refine iw_a hp (k := n' + n + vl p g.c) (by omega) (by rw [vl_neg h2, vl_pow_mul h2 _ hc]) ?_ ?_ ?_ ?_
  · rw [Int.dvd_neg, show n' + n + vl p g.c = n' + (n + vl p g.c) from by omega, Int.pow_add]
    exact Int.mul_dvd_mul (Int.dvd_refl _) (pow_dvd_vl h2 hn)
  · rw [Int.dvd_neg, show n' + n + vl p g.c + 1 = 1 + (n + (n' + vl p g.c)) from by omega, Int.pow_add, Int.pow_add p n, show p ^ 1 = p from by grind]
    exact Int.mul_dvd_mul (Int.dvd_refl _) (Int.mul_dvd_mul (Int.dvd_refl _) h)
  · rw [hdet]
    have := Int.mul_ne_zero (pow_ne h2 (n' + 7)) (Int.mul_ne_zero (pow_ne h2 (n + 6)) hg)
    omega
  · rw [hdet, vl_neg h2, vl_pow_mul h2 _ (Int.mul_ne_zero (pow_ne h2 _) hg), vl_pow_mul h2 _ hg]; omega
end M2
end Pl
end
