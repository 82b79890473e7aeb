import Derived.Test.YtdfepbmcglnhcaaV1
set_option linter.unusedVariables false
set_option linter.unusedSimpArgs false
/-! plain: two by two matrices over the whole numbers, and the tree of balls -/
namespace Pl

@[ext] structure M2 where
  a : Int
  b : Int
  c : Int
  d : Int
deriving DecidableEq

namespace M2
def det (X : M2) : Int := X.a * X.d - X.b * X.c
def mul (X Y : M2) : M2 := ⟨X.a * Y.a + X.b * Y.c, X.a * Y.b + X.b * Y.d, X.c * Y.a + X.d * Y.c, X.c * Y.b + X.d * Y.d⟩
def adj (X : M2) : M2 := ⟨X.d, -X.b, -X.c, X.a⟩
def smul (s : Int) (X : M2) : M2 := ⟨s * X.a, s * X.b, s * X.c, s * X.d⟩
def one : M2 := ⟨1, 0, 0, 1⟩

theorem mul_assoc (X Y Z : M2) : (X.mul Y).mul Z = X.mul (Y.mul Z) := by
  ext <;> simp only [mul] <;> grind
theorem det_mul (X Y : M2) : (X.mul Y).det = X.det * Y.det := by
  simp only [mul, det]; grind
theorem det_adj (X : M2) : X.adj.det = X.det := by simp only [adj, det]; grind
theorem adj_adj (X : M2) : X.adj.adj = X := by ext <;> simp [adj]
theorem adj_mul (X Y : M2) : (X.mul Y).adj = Y.adj.mul X.adj := by
  ext <;> simp only [mul, adj] <;> grind
theorem mul_adj (X : M2) : X.mul X.adj = smul X.det one := by
  ext <;> simp only [mul, adj, smul, one, det] <;> grind
theorem adj_mul_self (X : M2) : X.adj.mul X = smul X.det one := by
  ext <;> simp only [mul, adj, smul, one, det] <;> grind
theorem smul_mul (s : Int) (X Y : M2) : (smul s X).mul Y = smul s (X.mul Y) := by
  ext <;> simp only [mul, smul] <;> grind
theorem mul_smul (s : Int) (X Y : M2) : X.mul (smul s Y) = smul s (X.mul Y) := by
  ext <;> simp only [mul, smul] <;> grind
theorem one_mul (X : M2) : one.mul X = X := by ext <;> simp [mul, one]
theorem mul_one (X : M2) : X.mul one = X := by ext <;> simp [mul, one]
theorem det_smul (s : Int) (X : M2) : (smul s X).det = s * s * X.det := by simp only [smul, det]; grind
theorem det_one : one.det = 1 := rfl
theorem smul_smul (s t : Int) (X : M2) : smul s (smul t X) = smul (s * t) X := by
  ext <;> simp only [smul] <;> grind
theorem smul_one (X : M2) : smul 1 X = X := by ext <;> simp [smul]
theorem adj_smul (s : Int) (X : M2) : (smul s X).adj = smul s X.adj := by
  ext <;> simp only [smul, adj] <;> grind

/-- all entries are multiples of q -/
def Dvd (q : Int) (X : M2) : Prop := q ∣ X.a ∧ q ∣ X.b ∧ q ∣ X.c ∧ q ∣ X.d

theorem Dvd.iff {q : Int} {X : M2} : Dvd q X ↔ ∃ Y, X = smul q Y := by
  constructor
  · rintro ⟨⟨a, ha⟩, ⟨b, hb⟩, ⟨c, hc⟩, ⟨d, hd⟩⟩
    exact ⟨⟨a, b, c, d⟩, by ext <;> simp [smul, *]⟩
  · rintro ⟨Y, rfl⟩
    exact ⟨⟨_, rfl⟩, ⟨_, rfl⟩, ⟨_, rfl⟩, ⟨_, rfl⟩⟩

/-- the greatest common divisor of the entries -/
def cont (X : M2) : Int := (Int.gcd (Int.gcd X.a X.b) (Int.gcd X.c X.d) : Int)

theorem dvd_cont (q : Int) (X : M2) : q ∣ X.cont ↔ Dvd q X := by
  unfold cont Dvd
  constructor
  · intro h
    have h1 : q ∣ (Int.gcd X.a X.b : Int) := Int.dvd_trans h (Int.gcd_dvd_left ..)
    have h2 : q ∣ (Int.gcd X.c X.d : Int) := Int.dvd_trans h (Int.gcd_dvd_right ..)
    exact ⟨Int.dvd_trans h1 (Int.gcd_dvd_left ..), Int.dvd_trans h1 (Int.gcd_dvd_right ..), Int.dvd_trans h2 (Int.gcd_dvd_left ..), Int.dvd_trans h2 (Int.gcd_dvd_right ..)⟩
  · rintro ⟨ha, hb, hc, hd⟩
    exact Int.dvd_coe_gcd (Int.dvd_coe_gcd ha hb) (Int.dvd_coe_gcd hc hd)

theorem cont_ne {X : M2} (h : X.det ≠ 0) : X.cont ≠ 0 := by
  intro h0
  have : Dvd 0 X := (dvd_cont 0 X).1 (by rw [h0]; exact Int.dvd_refl 0)
  obtain ⟨ha, hb, hc, hd⟩ := this
  rw [Int.zero_dvd] at ha hb hc hd
  apply h; simp [det, ha, hb]

/-- the least valuation of the entries -/
def minv (p : Int) (X : M2) : Nat := vl p X.cont

theorem le_minv {p : Int} (hp : 2 ≤ p) {X : M2} (h : X.det ≠ 0) (k : Nat) : k ≤ minv p X ↔ Dvd (p ^ k) X := by
  unfold minv; rw [← dvd_iff_le_vl hp (cont_ne h), dvd_cont]

theorem det_ne_mul {X Y : M2} (hx : X.det ≠ 0) (hy : Y.det ≠ 0) : (X.mul Y).det ≠ 0 := by
  rw [det_mul]; exact Int.mul_ne_zero hx hy

theorem minv_mul {p : Int} (hp : 2 ≤ p) {X Y : M2} (hx : X.det ≠ 0) (hy : Y.det ≠ 0) : minv p X + minv p Y ≤ minv p (X.mul Y) := by
  rw [le_minv hp (det_ne_mul hx hy)]
  obtain ⟨A, hA⟩ := Dvd.iff.1 ((le_minv hp hx _).1 (Nat.le_refl (minv p X)))
  obtain ⟨B, hB⟩ := Dvd.iff.1 ((le_minv hp hy _).1 (Nat.le_refl (minv p Y)))
  generalize minv p X = m at *
  generalize minv p Y = n at *
  refine Dvd.iff.2 ⟨A.mul B, ?_⟩
  rw [hA, hB, smul_mul, mul_smul, smul_smul, Int.pow_add]

theorem cont_smul (s : Int) (X : M2) : (smul s X).cont = s.natAbs * X.cont := by
  unfold cont smul
  simp only [Int.gcd_mul_left]
  simp only [Int.natCast_mul, Int.gcd_mul_left]
  simp

theorem vl_natAbs {p : Int} (hp : 2 ≤ p) (s : Int) : vl p (s.natAbs : Int) = vl p s := by
  rcases Int.natAbs_eq s with h | h
  · rw [← h]
  · conv => rhs; rw [h, vl_neg hp]

theorem minv_smul {p : Int} (hp : IsP p) {s : Int} (hs : s ≠ 0) {X : M2} (hx : X.det ≠ 0) : minv p (smul s X) = vl p s + minv p X := by
  unfold minv
  rw [cont_smul, vl_mul hp (by omega) (cont_ne hx), vl_natAbs hp.two]

theorem two_minv_le {p : Int} (hp : IsP p) {X : M2} (hx : X.det ≠ 0) : 2 * minv p X ≤ vl p X.det := by
  obtain ⟨A, hA⟩ := Dvd.iff.1 ((le_minv hp.two hx _).1 (Nat.le_refl (minv p X)))
  generalize minv p X = m at *
  have : X.det = p ^ m * p ^ m * A.det := by rw [hA, det_smul]
  rw [← dvd_iff_le_vl hp.two hx, this, Nat.two_mul, Int.pow_add]
  exact Int.dvd_mul_right _ _

/-- the distance of the balls of two matrices -/
def dist (p : Int) (X Y : M2) : Int := vl p X.det + vl p Y.det - 2 * minv p (X.adj.mul Y)

theorem det_adj_ne {X : M2} (h : X.det ≠ 0) : X.adj.det ≠ 0 := by rwa [det_adj]

theorem dist_nonneg {p : Int} (hp : IsP p) {X Y : M2} (hx : X.det ≠ 0) (hy : Y.det ≠ 0) : 0 ≤ dist p X Y := by
  have h := two_minv_le hp (det_ne_mul (det_adj_ne hx) hy)
  rw [det_mul, det_adj, vl_mul hp hx hy] at h
  unfold dist; omega

theorem cont_adj (X : M2) : X.adj.cont = X.cont := by
  have h : ∀ q, q ∣ X.adj.cont ↔ q ∣ X.cont := by
    intro q; rw [dvd_cont, dvd_cont]; simp only [Dvd, adj, Int.dvd_neg]
    constructor <;> (rintro ⟨a, b, c, d⟩; exact ⟨d, b, c, a⟩)
  have h0 : ∀ Y : M2, 0 ≤ Y.cont := fun Y => by unfold cont; omega
  exact Int.dvd_antisymm (h0 _) (h0 _) ((h _).1 (Int.dvd_refl _)) ((h _).2 (Int.dvd_refl _))

theorem dist_comm (p : Int) (X Y : M2) : dist p X Y = dist p Y X := by
  unfold dist minv
  have : X.adj.mul Y = (Y.adj.mul X).adj := by rw [adj_mul, adj_adj]
  rw [this, cont_adj]; omega

theorem dist_mul {p : Int} (hp : IsP p) {g X Y : M2} (hg : g.det ≠ 0) (hx : X.det ≠ 0) (hy : Y.det ≠ 0) : dist p (g.mul X) (g.mul Y) = dist p X Y := by
  unfold dist
  have : (g.mul X).adj.mul (g.mul Y) = smul g.det (X.adj.mul Y) := by
    rw [adj_mul, mul_assoc, ← mul_assoc g.adj, adj_mul_self, smul_mul, mul_smul, one_mul]
  rw [this, minv_smul hp hg (det_ne_mul (det_adj_ne hx) hy), det_mul, det_mul, vl_mul hp hg hx, vl_mul hp hg hy]
  omega

theorem dist_smul_left {p : Int} (hp : IsP p) {s : Int} (hs : s ≠ 0) {X Y : M2} (hx : X.det ≠ 0) (hy : Y.det ≠ 0) : dist p (smul s X) Y = dist p X Y := by
  unfold dist
  rw [adj_smul, smul_mul, minv_smul hp hs (det_ne_mul (det_adj_ne hx) hy), det_smul, vl_mul hp (Int.mul_ne_zero hs hs) hx, vl_mul hp hs hs]
  omega

theorem dist_smul_right {p : Int} (hp : IsP p) {s : Int} (hs : s ≠ 0) {X Y : M2} (hx : X.det ≠ 0) (hy : Y.det ≠ 0) : dist p X (smul s Y) = dist p X Y := by
  rw [dist_comm, dist_smul_left hp hs hy hx, dist_comm]

theorem dist_self {p : Int} (hp : IsP p) {X : M2} (hx : X.det ≠ 0) : dist p X X = 0 := by
  unfold dist
  rw [adj_mul_self, minv_smul hp hx (by decide)]
  have : minv p one = 0 := by
    have h := two_minv_le hp (X := one) (by decide)
    have h1 : vl p one.det = 0 := by rw [det_one]; have := vl_pow hp.two 0; simpa using this
    omega
  omega

theorem triangle {p : Int} (hp : IsP p) {X Y Z : M2} (hx : X.det ≠ 0) (hy : Y.det ≠ 0) (hz : Z.det ≠ 0) : dist p X Z ≤ dist p X Y + dist p Y Z := by
  have h := minv_mul hp.two (X := X.adj.mul Y) (Y := Y.adj.mul Z) (det_ne_mul (det_adj_ne hx) hy) (det_ne_mul (det_adj_ne hy) hz)
  have e : (X.adj.mul Y).mul (Y.adj.mul Z) = smul Y.det (X.adj.mul Z) := by
    rw [mul_assoc, ← mul_assoc Y, mul_adj, smul_mul, one_mul, mul_smul]
  rw [e, minv_smul hp hy (det_ne_mul (det_adj_ne hx) hz)] at h
  unfold dist; omega

/-- two matrices have the same ball -/
def Same (p : Int) (X Y : M2) : Prop := dist p X Y = 0

theorem Same.symm {p : Int} {X Y : M2} (h : Same p X Y) : Same p Y X := by unfold Same; rw [dist_comm]; exact h
theorem Same.trans {p : Int} (hp : IsP p) {X Y Z : M2} (hx : X.det ≠ 0) (hy : Y.det ≠ 0) (hz : Z.det ≠ 0) (h : Same p X Y) (k : Same p Y Z) : Same p X Z := by
  have h1 := triangle hp hx hy hz
  have h2 := dist_nonneg hp hx hz
  unfold Same at *; omega
theorem Same.dist {p : Int} (hp : IsP p) {X Y X' Y' : M2} (hx : X.det ≠ 0) (hy : Y.det ≠ 0) (hx' : X'.det ≠ 0) (hy' : Y'.det ≠ 0) (h : Same p X X') (k : Same p Y Y') : dist p X Y = dist p X' Y' := by
  have h1 := triangle hp hx hx' hy
  have h2 := triangle hp hx' hx hy'
  have h3 := triangle hp hx' hy' hy
  have h4 := triangle hp hx hy hy'
  have h5 := dist_comm p X X'
  have h6 := dist_comm p Y Y'
  unfold Same at *; omega
theorem Same.mul {p : Int} (hp : IsP p) {g X Y : M2} (hg : g.det ≠ 0) (hx : X.det ≠ 0) (hy : Y.det ≠ 0) (h : Same p X Y) : Same p (g.mul X) (g.mul Y) := by
  unfold Same at *; rw [dist_mul hp hg hx hy, h]

/-- it is enough that the difference is divisible by what it must be -/
theorem same_of_dvd {p : Int} (hp : IsP p) {X Y : M2} (hx : X.det ≠ 0) (hy : Y.det ≠ 0) (k : Nat) (hk : vl p X.det + vl p Y.det = 2 * k) (h : Dvd (p ^ k) (X.adj.mul Y)) : Same p X Y := by
  have h1 := (le_minv hp.two (det_ne_mul (det_adj_ne hx) hy) k).2 h
  have h2 := dist_nonneg hp hx hy
  unfold Same; unfold M2.dist at *; omega

/-- the matrix of a ball: its level and 6 together, and its mark -/
def ofB (p : Int) (n : Nat) (x : Int) : M2 := ⟨p ^ n, x, 0, p ^ 6⟩

theorem det_ofB (p : Int) (n : Nat) (x : Int) : (ofB p n x).det = p ^ (n + 6) := by simp [ofB, det, Int.pow_add]
theorem det_ofB_ne {p : Int} (hp : 2 ≤ p) (n : Nat) (x : Int) : (ofB p n x).det ≠ 0 := by
  rw [det_ofB]; have := pow_pos hp (n + 6); omega

theorem adj_ofB_mul (p : Int) (n m : Nat) (x y : Int) : (ofB p n x).adj.mul (ofB p m y) = smul (p ^ 6) ⟨p ^ m, y - x, 0, p ^ n⟩ := by
  ext <;> simp only [ofB, adj, mul, smul] <;> grind

/-- divisibility for the product of two balls -/
theorem dist_ofB {p : Int} (hp : IsP p) (n m : Nat) (x y : Int) :
    dist p (ofB p n x) (ofB p m y) = n + m - 2 * (if y - x = 0 then min n m else min (min n m) (vl p (y - x)) : Nat) := by
  have hd : (⟨p ^ m, y - x, 0, p ^ n⟩ : M2).det ≠ 0 := by
    have h1 := pow_pos hp.two m
    have h2 := pow_pos hp.two n
    have := Int.mul_pos h1 h2
    simp only [det]; omega
  have e : minv p (⟨p ^ m, y - x, 0, p ^ n⟩ : M2) = (if y - x = 0 then min n m else min (min n m) (vl p (y - x)) : Nat) := by
    have key : ∀ k, k ≤ minv p (⟨p ^ m, y - x, 0, p ^ n⟩ : M2) ↔ k ≤ (if y - x = 0 then min n m else min (min n m) (vl p (y - x)) : Nat) := by
      intro k
      rw [le_minv hp.two hd]
      have hpw : ∀ j : Nat, p ^ k ∣ p ^ j ↔ k ≤ j := fun j => by
        rw [dvd_iff_le_vl hp.two (by have := pow_pos hp.two j; omega), vl_pow hp.two]
      simp only [Dvd, hpw]
      split
      · rename_i h0; rw [h0]; simp; omega
      · rename_i h0; rw [dvd_iff_le_vl hp.two h0]; simp; omega
    exact Nat.le_antisymm ((key _).1 (Nat.le_refl _)) ((key _).2 (Nat.le_refl _))
  unfold dist
  rw [adj_ofB_mul, minv_smul hp (by have := pow_pos hp.two 6; omega) hd, e, det_ofB, det_ofB, vl_pow hp.two, vl_pow hp.two, vl_pow hp.two]
  omega

theorem same_ofB {p : Int} (hp : IsP p) {n m : Nat} {x y : Int} (hx : 0 ≤ x ∧ x < p ^ n) (hy : 0 ≤ y ∧ y < p ^ m) (h : Same p (ofB p n x) (ofB p m y)) : n = m ∧ x = y := by
  unfold Same at h
  rw [dist_ofB hp] at h
  have hnm : n = m := by split at h <;> omega
  subst hnm
  refine ⟨rfl, ?_⟩
  by_cases h0 : y - x = 0
  · omega
  · rw [if_neg h0] at h
    have h1 : n ≤ vl p (y - x) := by omega
    have h2 := (dvd_iff_le_vl hp.two h0 n).2 h1
    exfalso
    rcases Int.lt_or_gt_of_ne h0 with h3 | h3
    · have h4 : p ^ n ∣ x - y := by
        have : x - y = -(y - x) := by omega
        rw [this, Int.dvd_neg]; exact h2
      have := Int.le_of_dvd (by omega) h4
      omega
    · have := Int.le_of_dvd (by omega) h2
      omega

end M2
end Pl
