import Derived.Test.YtdfepbmcglnhcaaV2
set_option linter.unusedVariables false
set_option linter.unusedSimpArgs false
namespace Pl
namespace M2

theorem dvd_of_mul {p : Int} (hp : IsP p) {a b : Int} (hb : b ≠ 0) {k : Nat} (h : p ^ (k + vl p b) ∣ a * b) : p ^ k ∣ a := by
  by_cases ha : a = 0
  · subst ha; exact Int.dvd_zero _
  · rw [dvd_iff_le_vl hp.two (Int.mul_ne_zero ha hb), vl_mul hp ha hb] at h
    rw [dvd_iff_le_vl hp.two ha]; omega

theorem pow_dvd_vl {p : Int} (hp : 2 ≤ p) {a : Int} {k : Nat} (h : a = 0 ∨ k ≤ vl p a) : p ^ k ∣ a := by
  rcases h with rfl | h
  · exact Int.dvd_zero _
  · by_cases h0 : a = 0
    · subst h0; exact Int.dvd_zero _
    · exact (dvd_iff_le_vl hp h0 k).2 h

/-- a ball that holds the quotient of a column, at the level that the determinant tells -/
theorem same_col {p : Int} (hp : IsP p) {u1 u2 v1 v2 x : Int} {n : Nat} (hd : (⟨u1, v1, u2, v2⟩ : M2).det ≠ 0) (hv : v2 ≠ 0) (hu : u2 = 0 ∨ vl p v2 ≤ vl p u2)
    (hn : n + 2 * vl p v2 = vl p (⟨u1, v1, u2, v2⟩ : M2).det + 6) (hx : p ^ (n + vl p v2) ∣ p ^ 6 * v1 - x * v2) : Same p (ofB p n x) ⟨u1, v1, u2, v2⟩ := by
  have hdu := pow_dvd_vl hp.two hu
  have hdv : p ^ vl p v2 ∣ v2 := pow_dvd_vl hp.two (.inr (Nat.le_refl _))
  refine same_of_dvd hp (det_ofB_ne hp.two _ _) hd (n + vl p v2) ?_ ?_
  · rw [det_ofB, vl_pow hp.two]; omega
  · have e : (ofB p n x).adj.mul ⟨u1, v1, u2, v2⟩ = ⟨p ^ 6 * u1 - x * u2, p ^ 6 * v1 - x * v2, p ^ n * u2, p ^ n * v2⟩ := by
      ext <;> simp only [ofB, adj, mul] <;> grind
    rw [e]
    refine ⟨?_, hx, ?_, ?_⟩
    · refine dvd_of_mul hp hv ?_
      have e1 : (p ^ 6 * u1 - x * u2) * v2 = p ^ 6 * (⟨u1, v1, u2, v2⟩ : M2).det + u2 * (p ^ 6 * v1 - x * v2) := by simp only [det]; grind
      rw [e1]
      refine Int.dvd_add ?_ ?_
      · have : n + vl p v2 + vl p v2 = 6 + vl p (⟨u1, v1, u2, v2⟩ : M2).det := by omega
        rw [this, Int.pow_add]
        exact Int.mul_dvd_mul (Int.dvd_refl _) (pow_dvd_vl hp.two (.inr (Nat.le_refl _)))
      · have : n + vl p v2 + vl p v2 = vl p v2 + (n + vl p v2) := by omega
        rw [this, Int.pow_add]
        exact Int.mul_dvd_mul hdu hx
    · rw [Int.pow_add]; exact Int.mul_dvd_mul (Int.dvd_refl _) hdu
    · rw [Int.pow_add]; exact Int.mul_dvd_mul (Int.dvd_refl _) hdv

theorem same_swap {p : Int} (hp : IsP p) {a b c d : Int} (hd : (⟨a, b, c, d⟩ : M2).det ≠ 0) : Same p ⟨b, a, d, c⟩ ⟨a, b, c, d⟩ := by
  have hd' : (⟨b, a, d, c⟩ : M2).det ≠ 0 := by simp only [det] at *; grind
  have e : (⟨b, a, d, c⟩ : M2).det = - (⟨a, b, c, d⟩ : M2).det := by simp only [det]; grind
  refine same_of_dvd hp hd' hd (vl p (⟨a, b, c, d⟩ : M2).det) (by rw [e, vl_neg hp.two]; omega) ?_
  have hdv : p ^ vl p (⟨a, b, c, d⟩ : M2).det ∣ (⟨a, b, c, d⟩ : M2).det := pow_dvd_vl hp.two (.inr (Nat.le_refl _))
  have e2 : (⟨b, a, d, c⟩ : M2).adj.mul ⟨a, b, c, d⟩ = smul (⟨a, b, c, d⟩ : M2).det ⟨0, -1, -1, 0⟩ := by
    ext <;> simp only [adj, mul, smul, det] <;> grind
  rw [e2]
  exact ⟨Int.dvd_trans hdv ⟨_, rfl⟩, Int.dvd_trans hdv ⟨_, rfl⟩, Int.dvd_trans hdv ⟨_, rfl⟩, Int.dvd_trans hdv ⟨_, rfl⟩⟩

theorem same_col' {p : Int} (hp : IsP p) {u1 u2 v1 v2 x : Int} {n : Nat} (hd : (⟨v1, u1, v2, u2⟩ : M2).det ≠ 0) (hv : v2 ≠ 0) (hu : u2 = 0 ∨ vl p v2 ≤ vl p u2)
    (hn : n + 2 * vl p v2 = vl p (⟨v1, u1, v2, u2⟩ : M2).det + 6) (hx : p ^ (n + vl p v2) ∣ p ^ 6 * v1 - x * v2) : Same p (ofB p n x) ⟨v1, u1, v2, u2⟩ := by
  have e : (⟨u1, v1, u2, v2⟩ : M2).det = - (⟨v1, u1, v2, u2⟩ : M2).det := by simp only [det]; grind
  have hd' : (⟨u1, v1, u2, v2⟩ : M2).det ≠ 0 := by rw [e]; omega
  exact (same_col hp hd' hv hu (by rw [e, vl_neg hp.two]; omega) hx).trans hp (det_ofB_ne hp.two _ _) hd' hd (same_swap hp hd)

end M2
end Pl
