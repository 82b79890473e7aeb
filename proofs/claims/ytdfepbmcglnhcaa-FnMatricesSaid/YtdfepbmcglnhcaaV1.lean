set_option linter.unusedVariables false
set_option linter.unusedSimpArgs false
/-! plain: valuations -/
namespace Pl

def IsP (p : Int) : Prop := p = 2 ∨ p = 3 ∨ p = 5 ∨ p = 7

theorem IsP.two {p : Int} (h : IsP p) : 2 ≤ p := by unfold IsP at h; omega
theorem IsP.seven {p : Int} (h : IsP p) : p ≤ 7 := by unfold IsP at h; omega

theorem IsP.euclid {p : Int} (h : IsP p) {a b : Int} (hab : p ∣ a * b) : p ∣ a ∨ p ∣ b := by
  have h1 : (a * b) % p = 0 := Int.emod_eq_zero_of_dvd hab
  rw [Int.mul_emod] at h1
  have key : a % p = 0 ∨ b % p = 0 := by
    rcases h with rfl | rfl | rfl | rfl
    · have ha : a % 2 = 0 ∨ a % 2 = 1 := by omega
      have hb : b % 2 = 0 ∨ b % 2 = 1 := by omega
      rcases ha with ha | ha <;> rcases hb with hb | hb <;> simp [ha, hb] at h1 ⊢
    · have ha : a % 3 = 0 ∨ a % 3 = 1 ∨ a % 3 = 2 := by omega
      have hb : b % 3 = 0 ∨ b % 3 = 1 ∨ b % 3 = 2 := by omega
      rcases ha with ha | ha | ha <;> rcases hb with hb | hb | hb <;> simp [ha, hb] at h1 ⊢
    · have ha : a % 5 = 0 ∨ a % 5 = 1 ∨ a % 5 = 2 ∨ a % 5 = 3 ∨ a % 5 = 4 := by omega
      have hb : b % 5 = 0 ∨ b % 5 = 1 ∨ b % 5 = 2 ∨ b % 5 = 3 ∨ b % 5 = 4 := by omega
      rcases ha with ha | ha | ha | ha | ha <;> rcases hb with hb | hb | hb | hb | hb <;> simp [ha, hb] at h1 ⊢
    · have ha : a % 7 = 0 ∨ a % 7 = 1 ∨ a % 7 = 2 ∨ a % 7 = 3 ∨ a % 7 = 4 ∨ a % 7 = 5 ∨ a % 7 = 6 := by omega
      have hb : b % 7 = 0 ∨ b % 7 = 1 ∨ b % 7 = 2 ∨ b % 7 = 3 ∨ b % 7 = 4 ∨ b % 7 = 5 ∨ b % 7 = 6 := by omega
      rcases ha with ha | ha | ha | ha | ha | ha | ha <;> rcases hb with hb | hb | hb | hb | hb | hb | hb <;> simp [ha, hb] at h1 ⊢
  rcases key with k | k
  · exact .inl (Int.dvd_of_emod_eq_zero k)
  · exact .inr (Int.dvd_of_emod_eq_zero k)

/-- the valuation, counted down by a bound -/
def vf (p : Int) : Nat → Int → Nat
  | 0, _ => 0
  | k + 1, n => if n % p = 0 then vf p k (n / p) + 1 else 0

def vl (p n : Int) : Nat := if n = 0 then 0 else vf p n.natAbs n

theorem pow_pos {p : Int} (h : 2 ≤ p) (k : Nat) : 0 < p ^ k := Int.pow_pos (by omega)

theorem vf_spec {p : Int} (hp : 2 ≤ p) : ∀ (k : Nat) (n : Int), n ≠ 0 → n.natAbs ≤ k → ∃ m, n = p ^ vf p k n * m ∧ ¬ p ∣ m := by
  intro k
  induction k with
  | zero => intro n h0 hk; exact absurd (Int.natAbs_eq_zero.1 (by omega)) h0
  | succ k ih =>
    intro n h0 hk
    by_cases hd : n % p = 0
    · have hpn : p ∣ n := Int.dvd_of_emod_eq_zero hd
      obtain ⟨q, rfl⟩ := hpn
      have hq : q ≠ 0 := by rintro rfl; simp at h0
      have e : p * q / p = q := Int.mul_ediv_cancel_left _ (by omega)
      have hqk : q.natAbs ≤ k := by
        rw [Int.natAbs_mul] at hk
        have h2 : 2 ≤ p.natAbs := by omega
        have h3 : 2 * q.natAbs ≤ p.natAbs * q.natAbs := Nat.mul_le_mul_right _ h2
        have h4 : 0 < q.natAbs := Int.natAbs_pos.2 hq
        omega
      obtain ⟨m, hm, hpm⟩ := ih q hq hqk
      refine ⟨m, ?_, hpm⟩
      simp only [vf, hd, if_true, e]
      rw [Int.pow_succ, Int.mul_comm (p ^ _) p, Int.mul_assoc, ← hm]
    · exact ⟨n, by simp [vf, hd], fun h => hd (Int.emod_eq_zero_of_dvd h)⟩

theorem vl_spec {p n : Int} (hp : 2 ≤ p) (h0 : n ≠ 0) : ∃ m, n = p ^ vl p n * m ∧ ¬ p ∣ m := by
  unfold vl; rw [if_neg h0]; exact vf_spec hp _ n h0 (Nat.le_refl _)

theorem pow_dvd_pow_mul {p m : Int} (hp : 2 ≤ p) (hm : ¬ p ∣ m) {k a : Nat} (h : p ^ k ∣ p ^ a * m) : k ≤ a := by
  induction a generalizing k with
  | zero =>
    cases k with
    | zero => omega
    | succ k => 
      exfalso; apply hm
      simp at h
      exact Int.dvd_trans ⟨p ^ k, by rw [Int.pow_succ, Int.mul_comm]⟩ h
  | succ a ih =>
    cases k with
    | zero => omega
    | succ k =>
      have : p ^ k ∣ p ^ a * m := by
        rw [Int.pow_succ, Int.pow_succ, Int.mul_comm (p^k) p, Int.mul_comm (p^a) p, Int.mul_assoc] at h
        exact Int.dvd_of_mul_dvd_mul_left (by omega) h
      have := ih this
      omega

/-- the valuation by what it divides -/
theorem dvd_iff_le_vl {p n : Int} (hp : 2 ≤ p) (h0 : n ≠ 0) (k : Nat) : p ^ k ∣ n ↔ k ≤ vl p n := by
  obtain ⟨m, hm, hpm⟩ := vl_spec hp h0
  constructor
  · intro h; rw [hm] at h; exact pow_dvd_pow_mul hp hpm h
  · intro h; rw [hm]
    exact Int.dvd_trans ⟨p ^ (vl p n - k), by rw [← Int.pow_add]; congr 1; omega⟩ (Int.dvd_mul_right _ _)

theorem vl_unique {p n m : Int} {k : Nat} (hp : 2 ≤ p) (h0 : n ≠ 0) (h : n = p ^ k * m) (hm : ¬ p ∣ m) : vl p n = k := by
  have h1 : k ≤ vl p n := (dvd_iff_le_vl hp h0 k).1 ⟨m, h⟩
  have h2 : p ^ vl p n ∣ p ^ k * m := by rw [← h]; exact (dvd_iff_le_vl hp h0 _).2 (Nat.le_refl _)
  have := pow_dvd_pow_mul hp hm h2
  omega

theorem vl_mul {p a b : Int} (hp : IsP p) (ha : a ≠ 0) (hb : b ≠ 0) : vl p (a * b) = vl p a + vl p b := by
  obtain ⟨m, hm, hpm⟩ := vl_spec hp.two ha
  obtain ⟨n, hn, hpn⟩ := vl_spec hp.two hb
  refine vl_unique (m := m * n) hp.two (Int.mul_ne_zero ha hb) ?_ ?_
  · rw [Int.pow_add]
    calc a * b = (p ^ vl p a * m) * (p ^ vl p b * n) := by rw [← hm, ← hn]
      _ = _ := by ac_rfl
  · intro h; rcases hp.euclid h with h | h
    · exact hpm h
    · exact hpn h

theorem vl_neg {p a : Int} (hp : 2 ≤ p) : vl p (-a) = vl p a := by
  by_cases h0 : a = 0
  · subst h0; rfl
  · obtain ⟨m, hm, hpm⟩ := vl_spec hp h0
    refine vl_unique (m := -m) hp (by omega) ?_ (by rwa [Int.dvd_neg])
    rw [Int.mul_neg, ← hm]

theorem vl_pow {p : Int} (hp : 2 ≤ p) (k : Nat) : vl p (p ^ k) = k := by
  refine vl_unique (m := 1) hp (by have := pow_pos hp k; omega) (by omega) ?_
  intro h
  have := Int.le_of_dvd (by omega) h
  omega

theorem vl_pow_mul {p a : Int} (hp : 2 ≤ p) (k : Nat) (h0 : a ≠ 0) : vl p (p ^ k * a) = k + vl p a := by
  obtain ⟨m, hm, hpm⟩ := vl_spec hp h0
  refine vl_unique (m := m) hp (Int.mul_ne_zero (by have := pow_pos hp k; omega) h0) ?_ hpm
  rw [Int.pow_add, Int.mul_assoc, ← hm]

end Pl
