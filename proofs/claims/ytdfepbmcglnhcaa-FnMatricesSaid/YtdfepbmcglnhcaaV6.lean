import Derived.Test.YtdfepbmcglnhcaaV5
set_option linter.unusedVariables false
set_option linter.unusedSimpArgs false
/-! plain: reduced matrices -/
namespace Pl
namespace M2

def sgn (X : M2) : Int := if X.a < 0 ∨ X.a = 0 ∧ X.b < 0 then -1 else 1
def kof (X : M2) : Int := X.sgn * X.cont
def red (X : M2) : M2 := ⟨X.a / X.kof, X.b / X.kof, X.c / X.kof, X.d / X.kof⟩

theorem sgn_ne (X : M2) : X.sgn = 1 ∨ X.sgn = -1 := by unfold sgn; split <;> simp
theorem kof_ne {X : M2} (h : X.det ≠ 0) : X.kof ≠ 0 := by
  unfold kof
  exact Int.mul_ne_zero (by rcases sgn_ne X with h | h <;> omega) (cont_ne h)

theorem kof_dvd (X : M2) : Dvd X.kof X := by
  have h := (dvd_cont X.cont X).1 (Int.dvd_refl _)
  unfold kof
  rcases sgn_ne X with e | e
  · rw [e, Int.one_mul]; exact h
  · rw [e]
    have : -1 * X.cont = -X.cont := by omega
    rw [this]
    exact ⟨Int.neg_dvd.2 h.1, Int.neg_dvd.2 h.2.1, Int.neg_dvd.2 h.2.2.1, Int.neg_dvd.2 h.2.2.2⟩

theorem red_smul_kof (X : M2) : smul X.kof (red X) = X := by
  have h := kof_dvd X
  ext <;> simp only [smul, red]
  · exact Int.mul_ediv_cancel' h.1
  · exact Int.mul_ediv_cancel' h.2.1
  · exact Int.mul_ediv_cancel' h.2.2.1
  · exact Int.mul_ediv_cancel' h.2.2.2

theorem row_ne {X : M2} (h : X.det ≠ 0) : X.a ≠ 0 ∨ X.b ≠ 0 := by
  by_cases ha : X.a = 0
  · by_cases hb : X.b = 0
    · exact absurd (by simp [det, ha, hb]) h
    · exact .inr hb
  · exact .inl ha

theorem kof_smul {X : M2} {s : Int} (hs : s ≠ 0) (h : X.det ≠ 0) : (smul s X).kof = s * X.kof := by
  unfold kof
  rw [cont_smul]
  have hr := row_ne h
  have key : (smul s X).sgn * (s.natAbs : Int) = s * X.sgn := by
    unfold sgn
    simp only [smul]
    rcases Int.lt_or_gt_of_ne hs with h1 | h1
    · have e : (s.natAbs : Int) = -s := by omega
      rw [e]
      by_cases ha : X.a = 0
      · have hb : X.b ≠ 0 := by rcases hr with h | h; exact absurd ha h; exact h
        simp only [ha, Int.mul_zero, Int.lt_irrefl, false_or, true_and]
        rcases Int.lt_or_gt_of_ne hb with h2 | h2
        · have : 0 < s * X.b := Int.mul_pos_of_neg_of_neg h1 h2
          rw [if_neg (by omega), if_pos h2]; omega
        · have : s * X.b < 0 := Int.mul_neg_of_neg_of_pos h1 h2
          rw [if_pos this, if_neg (by omega)]; omega
      · have hsa : s * X.a ≠ 0 := Int.mul_ne_zero hs ha
        simp only [ha, hsa, false_and, or_false]
        rcases Int.lt_or_gt_of_ne ha with h2 | h2
        · have : 0 < s * X.a := Int.mul_pos_of_neg_of_neg h1 h2
          rw [if_neg (by omega), if_pos h2]; omega
        · have : s * X.a < 0 := Int.mul_neg_of_neg_of_pos h1 h2
          rw [if_pos this, if_neg (by omega)]; omega
    · have e : (s.natAbs : Int) = s := by omega
      rw [e]
      by_cases ha : X.a = 0
      · have hb : X.b ≠ 0 := by rcases hr with h | h; exact absurd ha h; exact h
        simp only [ha, Int.mul_zero, Int.lt_irrefl, false_or, true_and]
        rcases Int.lt_or_gt_of_ne hb with h2 | h2
        · have : s * X.b < 0 := Int.mul_neg_of_pos_of_neg h1 h2
          rw [if_pos this, if_pos h2]; omega
        · have : 0 < s * X.b := Int.mul_pos h1 h2
          rw [if_neg (by omega), if_neg (by omega)]; omega
      · have hsa : s * X.a ≠ 0 := Int.mul_ne_zero hs ha
        simp only [ha, hsa, false_and, or_false]
        rcases Int.lt_or_gt_of_ne ha with h2 | h2
        · have : s * X.a < 0 := Int.mul_neg_of_pos_of_neg h1 h2
          rw [if_pos this, if_pos h2]; omega
        · have : 0 < s * X.a := Int.mul_pos h1 h2
          rw [if_neg (by omega), if_neg (by omega)]; omega
  rw [← Int.mul_assoc, key, Int.mul_assoc]

theorem red_smul {X : M2} {s : Int} (hs : s ≠ 0) (h : X.det ≠ 0) : red (smul s X) = red X := by
  have hk := kof_ne h
  unfold red
  rw [kof_smul hs h]
  simp only [smul]
  have hd := kof_dvd X
  have key : ∀ x : Int, X.kof ∣ x → s * x / (s * X.kof) = x / X.kof := by
    rintro x ⟨y, rfl⟩
    rw [Int.mul_ediv_cancel_left _ hk, ← Int.mul_assoc, Int.mul_ediv_cancel_left _ (Int.mul_ne_zero hs hk)]
  rw [key _ hd.1, key _ hd.2.1, key _ hd.2.2.1, key _ hd.2.2.2]

theorem det_red_ne {X : M2} (h : X.det ≠ 0) : (red X).det ≠ 0 := by
  intro h0
  apply h
  rw [← red_smul_kof X, det_smul, h0, Int.mul_zero]

theorem smul_det_ne {X : M2} {s : Int} (hs : s ≠ 0) (h : X.det ≠ 0) : (smul s X).det ≠ 0 := by
  rw [det_smul]; exact Int.mul_ne_zero (Int.mul_ne_zero hs hs) h

theorem red_red {X : M2} (h : X.det ≠ 0) : red (red X) = red X := by
  have := red_smul (kof_ne h) (det_red_ne h)
  rw [red_smul_kof] at this
  exact this.symm

theorem red_mul_left {X Y : M2} (hx : X.det ≠ 0) (hy : Y.det ≠ 0) : red ((red X).mul Y) = red (X.mul Y) := by
  have := red_smul (kof_ne hx) (det_ne_mul (det_red_ne hx) hy)
  rw [← smul_mul, red_smul_kof] at this
  exact this.symm

theorem red_mul_right {X Y : M2} (hx : X.det ≠ 0) (hy : Y.det ≠ 0) : red (X.mul (red Y)) = red (X.mul Y) := by
  have := red_smul (kof_ne hy) (det_ne_mul hx (det_red_ne hy))
  rw [← mul_smul, red_smul_kof] at this
  exact this.symm

theorem red_adj {X : M2} (hx : X.det ≠ 0) : red (red X).adj = red X.adj := by
  have := red_smul (kof_ne hx) (X := (red X).adj) (by rw [det_adj]; exact det_red_ne hx)
  rw [← adj_smul, red_smul_kof] at this
  exact this.symm

theorem red_one : red one = one := by decide

theorem red_smul_one {s : Int} (hs : s ≠ 0) : red (smul s one) = one := by
  rw [red_smul hs (by decide), red_one]

/-- entries of a reduced matrix are no greater -/
theorem red_le {X : M2} (h : X.det ≠ 0) {m : Int} (ha : -m ≤ X.a ∧ X.a ≤ m) (hb : -m ≤ X.b ∧ X.b ≤ m) (hc : -m ≤ X.c ∧ X.c ≤ m) (hd : -m ≤ X.d ∧ X.d ≤ m) :
    (-m ≤ (red X).a ∧ (red X).a ≤ m) ∧ (-m ≤ (red X).b ∧ (red X).b ≤ m) ∧ (-m ≤ (red X).c ∧ (red X).c ≤ m) ∧ (-m ≤ (red X).d ∧ (red X).d ≤ m) := by
  have hk := kof_ne h
  have key : ∀ x : Int, -m ≤ x ∧ x ≤ m → -m ≤ x / X.kof ∧ x / X.kof ≤ m ∨ ¬ X.kof ∣ x := by
    intro x hx
    by_cases hd : X.kof ∣ x
    · left
      obtain ⟨y, rfl⟩ := hd
      rw [Int.mul_ediv_cancel_left _ hk]
      have h1 : (X.kof * y).natAbs = X.kof.natAbs * y.natAbs := Int.natAbs_mul _ _
      have h2 : 1 ≤ X.kof.natAbs := by omega
      have h3 : 1 * y.natAbs ≤ X.kof.natAbs * y.natAbs := Nat.mul_le_mul_right _ h2
      omega
    · exact .inr hd
  have hdv := kof_dvd X
  refine ⟨?_, ?_, ?_, ?_⟩
  · exact (key _ ha).resolve_right fun h => h hdv.1
  · exact (key _ hb).resolve_right fun h => h hdv.2.1
  · exact (key _ hc).resolve_right fun h => h hdv.2.2.1
  · exact (key _ hd).resolve_right fun h => h hdv.2.2.2

theorem tdiv_eq {x k : Int} (h : k ∣ x) : x.tdiv k = x / k := by
  obtain ⟨y, rfl⟩ := h
  by_cases hk : k = 0
  · subst hk; simp
  · rw [Int.mul_tdiv_cancel_left _ hk, Int.mul_ediv_cancel_left _ hk]

end M2
end Pl
