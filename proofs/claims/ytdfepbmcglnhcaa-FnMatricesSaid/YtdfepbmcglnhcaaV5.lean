import Derived.Test.YtdfepbmcglnhcaaV4
set_option linter.unusedVariables false
set_option linter.unusedSimpArgs false
/-! plain: balls by level, top and down; the ball of a level that holds a fraction -/
namespace Pl
open M2

def IsB (p L T D : Int) : Prop := IsP p ∧ (-6 ≤ L ∧ L ≤ 6) ∧ (0 ≤ D ∧ D ≤ 6) ∧ ((L + D ≤ 0 ∧ T = 0 ∧ D = 0) ∨ (0 < L + D ∧ 0 ≤ T ∧ T < p ^ (L + D).toNat ∧ (D = 0 ∨ ¬ p ∣ T)))
def mk (p T D : Int) : Int := T * p ^ (6 - D).toNat
def nL (L : Int) : Nat := (L + 6).toNat

section
variable {p : Int}

theorem pow_mono (hp : 2 ≤ p) {a b : Nat} (h : a ≤ b) : p ^ a ≤ p ^ b := by
  obtain ⟨c, rfl⟩ : ∃ c, b = a + c := ⟨b - a, by omega⟩
  rw [Int.pow_add]
  have h1 := pow_pos hp a
  have h2 := pow_pos hp c
  have : p ^ a * 1 ≤ p ^ a * p ^ c := Int.mul_le_mul_of_nonneg_left (by omega) (by omega)
  omega

theorem pow_ne (hp : 2 ≤ p) (k : Nat) : p ^ k ≠ 0 := by have := pow_pos hp k; omega

theorem IsB.lv {L T D : Int} (h : IsB p L T D) : -6 ≤ L ∧ L ≤ 6 := h.2.1
theorem IsB.dn {L T D : Int} (h : IsB p L T D) : 0 ≤ D ∧ D ≤ 6 := h.2.2.1

theorem IsB.mk_nonneg {L T D : Int} (h : IsB p L T D) : 0 ≤ mk p T D := by
  have hp := h.1.two
  rcases h.2.2.2 with ⟨-, h1, -⟩ | ⟨-, h1, -, -⟩
  · subst h1; simp [mk]
  · exact Int.mul_nonneg h1 (by have := pow_pos hp (6 - D).toNat; omega)

theorem IsB.mk_lt {L T D : Int} (h : IsB p L T D) : mk p T D < p ^ nL L := by
  have hp := h.1.two
  have hl := h.lv
  have hd := h.dn
  rcases h.2.2.2 with ⟨-, h1, -⟩ | ⟨h0, h1, h2, -⟩
  · subst h1; simp [mk]; exact pow_pos hp _
  · have e : nL L = (L + D).toNat + (6 - D).toNat := by unfold nL; omega
    rw [e, Int.pow_add]
    exact Int.mul_lt_mul_of_pos_right h2 (pow_pos hp _)

theorem IsB.down_of_zero {L D : Int} (h : IsB p L 0 D) : D = 0 := by
  rcases h.2.2.2 with ⟨-, -, h1⟩ | ⟨-, -, -, h1 | h1⟩
  · exact h1
  · exact h1
  · exact absurd (Int.dvd_zero _) h1

theorem IsB.inj {L T D T' D' : Int} (h : IsB p L T D) (h' : IsB p L T' D') (e : mk p T D = mk p T' D') : T = T' ∧ D = D' := by
  have hp := h.1.two
  unfold mk at e
  by_cases h0 : T = 0
  · subst h0
    rw [Int.zero_mul] at e
    have : T' = 0 := by
      rcases Int.mul_eq_zero.1 e.symm with h | h
      · exact h
      · exact absurd h (pow_ne hp _)
    subst this
    exact ⟨rfl, by rw [h.down_of_zero, h'.down_of_zero]⟩
  · have h0' : T' ≠ 0 := by
      rintro rfl
      rw [Int.zero_mul] at e
      rcases Int.mul_eq_zero.1 e with h | h
      · exact h0 h
      · exact absurd h (pow_ne hp _)
    have hv : ∀ {L T D : Int}, IsB p L T D → T ≠ 0 → (D = 0 ∧ 6 ≤ vl p (T * p ^ (6 - D).toNat)) ∨ (0 < D ∧ vl p (T * p ^ (6 - D).toNat) = (6 - D).toNat) := by
      intro L T D h hT
      have e1 : vl p (T * p ^ (6 - D).toNat) = (6 - D).toNat + vl p T := by rw [Int.mul_comm, vl_pow_mul hp _ hT]
      have hd := h.dn
      rcases h.2.2.2 with ⟨-, h1, -⟩ | ⟨-, -, -, h1 | h1⟩
      · exact absurd h1 hT
      · subst h1; refine .inl ⟨rfl, ?_⟩; rw [e1]; omega
      · by_cases hD : D = 0
        · subst hD; refine .inl ⟨rfl, ?_⟩; rw [e1]; omega
        · have : vl p T = 0 := vl_unique (m := T) hp hT (by simp) h1
          refine .inr ⟨by omega, by rw [e1, this]; rfl⟩
    have hd := h.dn
    have hd' := h'.dn
    have hDD : D = D' := by
      rcases hv h h0 with ⟨a, b⟩ | ⟨a, b⟩ <;> rcases hv h' h0' with ⟨a', b'⟩ | ⟨a', b'⟩
      · omega
      · rw [e] at b; omega
      · rw [e] at b; omega
      · rw [e] at b; omega
    subst hDD
    refine ⟨?_, rfl⟩
    exact Int.eq_of_mul_eq_mul_right (pow_ne hp _) e

/-- the down and the top of a mark -/
def dOf (p x : Int) : Int := if x = 0 then 0 else max (6 - (vl p x : Int)) 0
def tOf (p x : Int) : Int := x / p ^ (6 - dOf p x).toNat

theorem tOf_mul (hp : 2 ≤ p) (x : Int) : mk p (tOf p x) (dOf p x) = x := by
  unfold mk tOf
  by_cases h0 : x = 0
  · subst h0; simp
  · have : p ^ (6 - dOf p x).toNat ∣ x := by
      rw [dvd_iff_le_vl hp h0]; unfold dOf; rw [if_neg h0]; omega
    exact Int.ediv_mul_cancel this

theorem ofMk_isB (hp : IsP p) {L x : Int} (hL : -6 ≤ L ∧ L ≤ 6) (hx : 0 ≤ x ∧ x < p ^ nL L) : IsB p L (tOf p x) (dOf p x) := by
  have h2 := hp.two
  by_cases h0 : x = 0
  · subst h0
    have e1 : dOf p 0 = 0 := by simp [dOf]
    have e2 : tOf p 0 = 0 := by simp [tOf]
    rw [e1, e2]
    refine ⟨hp, hL, by omega, ?_⟩
    by_cases h : L ≤ 0
    · exact .inl ⟨by omega, rfl, rfl⟩
    · exact .inr ⟨by omega, by omega, by have := pow_pos h2 (L + 0).toNat; omega, .inl rfl⟩
  · have hd0 : 0 ≤ dOf p x ∧ dOf p x ≤ 6 := by unfold dOf; rw [if_neg h0]; omega
    have hm := tOf_mul h2 x
    have hpd := pow_pos h2 (6 - dOf p x).toNat
    have ht : 0 < tOf p x := by
      rcases Int.lt_or_le 0 (tOf p x) with h | h
      · exact h
      · exfalso
        unfold mk at hm
        have := Int.mul_nonpos_of_nonpos_of_nonneg h (Int.le_of_lt hpd)
        omega
    refine ⟨hp, hL, hd0, .inr ?_⟩
    have hlt : 0 < L + dOf p x := by
      rcases Int.lt_or_le 0 (L + dOf p x) with h | h
      · exact h
      · exfalso
        have h3 : p ^ nL L ≤ p ^ (6 - dOf p x).toNat := pow_mono h2 (by unfold nL; omega)
        unfold mk at hm
        have h4 : 1 * p ^ (6 - dOf p x).toNat ≤ tOf p x * p ^ (6 - dOf p x).toNat := Int.mul_le_mul_of_nonneg_right (by omega) (Int.le_of_lt hpd)
        omega
    refine ⟨hlt, by omega, ?_, ?_⟩
    · have e : nL L = (L + dOf p x).toNat + (6 - dOf p x).toNat := by unfold nL; omega
      rw [e, Int.pow_add, ← hm] at hx
      conv at hx => rhs; lhs; unfold mk
      have hm2 : dOf p (mk p (tOf p x) (dOf p x)) = dOf p x := by rw [hm]
      rw [hm] at hx
      have hx2 : tOf p x * p ^ (6 - dOf p x).toNat < p ^ (L + dOf p x).toNat * p ^ (6 - dOf p x).toNat := by
        have := hx.2
        first | exact this | (unfold mk at hm; rw [hm]; exact this)
      exact Int.lt_of_mul_lt_mul_right hx2 (Int.le_of_lt hpd)
    · by_cases hd : dOf p x = 0
      · exact .inl hd
      · right
        intro hdv
        have hv : vl p x = (6 - dOf p x).toNat + vl p (tOf p x) := by
          conv => lhs; rw [← hm]
          unfold mk
          rw [Int.mul_comm, vl_pow_mul h2 _ (by omega)]
        have e : p ^ 1 = p := by grind
        have hdv1 : p ^ 1 ∣ tOf p x := by rw [e]; exact hdv
        have : 1 ≤ vl p (tOf p x) := (dvd_iff_le_vl h2 (by omega) 1).1 hdv1
        unfold dOf at hv hd
        rw [if_neg h0] at hv hd
        omega

theorem ofMk_mk {L T D : Int} (h : IsB p L T D) : tOf p (mk p T D) = T ∧ dOf p (mk p T D) = D := by
  have h1 := ofMk_isB h.1 h.lv ⟨h.mk_nonneg, h.mk_lt⟩
  exact h1.inj h (tOf_mul h.1.two _)

def Fits (p num den L : Int) : Prop := (-6 ≤ L ∧ L ≤ 6) ∧ (num = 0 ∨ L ≤ (vl p num : Int) - vl p den ∨ -6 ≤ (vl p num : Int) - vl p den)
def IsAt (p num den L T D : Int) : Prop := IsB p L T D ∧ p ^ (nL L + vl p den) ∣ p ^ 6 * num - mk p T D * den
/-- the answer of both programs: the ball of a level with a fraction -/
def AtR (p num den L T D : Int) (ok : Bool) : Prop := (Fits p num den L ∧ ok = true ∧ IsAt p num den L T D) ∨ (¬ Fits p num den L ∧ ok = false)

theorem eq_of_dvd_sub {m x y : Int} (hx : 0 ≤ x ∧ x < m) (hy : 0 ≤ y ∧ y < m) (h : m ∣ x - y) : x = y := by
  by_cases h0 : x - y = 0
  · omega
  · exfalso
    rcases Int.lt_or_gt_of_ne h0 with h1 | h1
    · have h2 : m ∣ y - x := by
        have : y - x = -(x - y) := by omega
        rw [this, Int.dvd_neg]; exact h
      have := Int.le_of_dvd (by omega) h2
      omega
    · have := Int.le_of_dvd (by omega) h
      omega

theorem IsAt.unique {num den L T D T' D' : Int} (hd : den ≠ 0) (h : IsAt p num den L T D) (h' : IsAt p num den L T' D') : T = T' ∧ D = D' := by
  refine h.1.inj h'.1 (eq_of_dvd_sub ⟨h.1.mk_nonneg, h.1.mk_lt⟩ ⟨h'.1.mk_nonneg, h'.1.mk_lt⟩ ?_)
  refine dvd_of_mul h.1.1 hd ?_
  have := Int.dvd_sub h'.2 h.2
  have e : p ^ 6 * num - mk p T' D' * den - (p ^ 6 * num - mk p T D * den) = (mk p T D - mk p T' D') * den := by grind
  rwa [e] at this

theorem IsAt.fits {num den L T D : Int} (hd : den ≠ 0) (h : IsAt p num den L T D) : Fits p num den L := by
  refine ⟨h.1.lv, ?_⟩
  have hp := h.1.1
  by_cases h0 : num = 0
  · exact .inl h0
  · refine .inr ?_
    rcases Int.lt_or_le ((vl p num : Int) - vl p den) L with hlt | hle
    · right
      have hL := h.1.lv
      have h1 : ¬ p ^ (nL L + vl p den) ∣ p ^ 6 * num := by
        rw [dvd_iff_le_vl hp.two (Int.mul_ne_zero (pow_ne hp.two _) h0), vl_pow_mul hp.two _ h0]
        unfold nL; omega
      by_cases hm : mk p T D = 0
      · exfalso; apply h1; have := h.2; rw [hm, Int.zero_mul, Int.sub_zero] at this; exact this
      · rcases Int.lt_or_le ((vl p num : Int) - vl p den) (-6) with h6 | h6
        · exfalso
          have h2 : p ^ (6 + vl p num + 1) ∣ p ^ 6 * num - mk p T D * den := Int.dvd_trans ⟨p ^ (nL L + vl p den - (6 + vl p num + 1)), by rw [← Int.pow_add]; congr 1; unfold nL; omega⟩ h.2
          have h3 : p ^ (6 + vl p num + 1) ∣ mk p T D * den := Int.dvd_trans (pow_dvd_vl hp.two (a := den) (k := 6 + vl p num + 1) (.inr (by omega))) (Int.dvd_mul_left _ _)
          have h4 : p ^ (6 + vl p num + 1) ∣ p ^ 6 * num := by
            have := Int.dvd_add h2 h3
            have e : p ^ 6 * num - mk p T D * den + mk p T D * den = p ^ 6 * num := by omega
            rwa [e] at this
          rw [dvd_iff_le_vl hp.two (Int.mul_ne_zero (pow_ne hp.two _) h0), vl_pow_mul hp.two _ h0] at h4
          omega
        · exact h6
    · exact .inl hle

theorem AtR.unique {num den L T D T' D' : Int} {ok ok' : Bool} (hd : den ≠ 0) (h : AtR p num den L T D ok) (h' : AtR p num den L T' D' ok') : ok = ok' ∧ (ok = true → T = T' ∧ D = D') := by
  rcases h with ⟨h1, rfl, h2⟩ | ⟨h1, rfl⟩ <;> rcases h' with ⟨h3, rfl, h4⟩ | ⟨h3, rfl⟩
  · exact ⟨rfl, fun _ => h2.unique hd h4⟩
  · exact absurd h1 h3
  · exact absurd h3 h1
  · exact ⟨rfl, fun h => by cases h⟩

theorem AtR.of_isAt {num den L T D T' D' : Int} {ok : Bool} (hd : den ≠ 0) (h : IsAt p num den L T D) (h' : AtR p num den L T' D' ok) : ok = true ∧ T' = T ∧ D' = D := by
  rcases h' with ⟨h3, rfl, h4⟩ | ⟨h3, rfl⟩
  · exact ⟨rfl, h4.unique hd h⟩
  · exact absurd (h.fits hd) h3

theorem fits_scale {num den L s : Int} (hp : IsP p) (hs : s ≠ 0) (hd : den ≠ 0) : Fits p (s * num) (s * den) L ↔ Fits p num den L := by
  unfold Fits
  by_cases h0 : num = 0
  · subst h0; simp
  · have h1 : s * num ≠ 0 := Int.mul_ne_zero hs h0
    rw [vl_mul hp hs h0, vl_mul hp hs hd]
    simp only [h0, h1, false_or]
    constructor <;> rintro ⟨a, b⟩ <;> refine ⟨a, ?_⟩ <;> omega

theorem isAt_scale {num den L T D s : Int} (hp : IsP p) (hs : s ≠ 0) (hd : den ≠ 0) : IsAt p (s * num) (s * den) L T D ↔ IsAt p num den L T D := by
  unfold IsAt
  refine and_congr_right fun hb => ?_
  have e : p ^ 6 * (s * num) - mk p T D * (s * den) = (p ^ 6 * num - mk p T D * den) * s := by grind
  rw [e, vl_mul hp hs hd]
  constructor
  · intro h
    refine dvd_of_mul hp hs ?_
    have : nL L + vl p den + vl p s = nL L + (vl p s + vl p den) := by omega
    rw [this]; exact h
  · intro h
    have : nL L + (vl p s + vl p den) = nL L + vl p den + vl p s := by omega
    rw [this, Int.pow_add]
    exact Int.mul_dvd_mul h (pow_dvd_vl hp.two (.inr (Nat.le_refl _)))

theorem atR_scale {num den L T D s : Int} {ok : Bool} (hp : IsP p) (hs : s ≠ 0) (hd : den ≠ 0) : AtR p (s * num) (s * den) L T D ok ↔ AtR p num den L T D ok := by
  unfold AtR; rw [fits_scale hp hs hd, isAt_scale hp hs hd]

/-- the matrix of a ball -/
def mB (p L T D : Int) : M2 := ofB p (nL L) (mk p T D)

theorem mB_ne {L T D : Int} (h : IsB p L T D) : (mB p L T D).det ≠ 0 := det_ofB_ne h.1.two _ _

theorem mB_same {L T D L' T' D' : Int} (h : IsB p L T D) (h' : IsB p L' T' D') (k : Same p (mB p L T D) (mB p L' T' D')) : L = L' ∧ T = T' ∧ D = D' := by
  obtain ⟨h1, h2⟩ := same_ofB h.1 ⟨h.mk_nonneg, h.mk_lt⟩ ⟨h'.mk_nonneg, h'.mk_lt⟩ k
  have hl := h.lv
  have hl' := h'.lv
  have : L = L' := by unfold nL at h1; omega
  subst this
  exact ⟨rfl, h.inj h' h2⟩

/-- a ball of a column: where the matrix leads -/
theorem isAt_same {u1 u2 v1 v2 L T D : Int} (hp : IsP p) (hd : (⟨u1, v1, u2, v2⟩ : M2).det ≠ 0) (hv : v2 ≠ 0) (hu : u2 = 0 ∨ vl p v2 ≤ vl p u2)
    (hn : L + 2 * (vl p v2 : Int) = vl p (⟨u1, v1, u2, v2⟩ : M2).det) (h : IsAt p v1 v2 L T D) : Same p (mB p L T D) ⟨u1, v1, u2, v2⟩ := by
  have hl := h.1.lv
  exact same_col hp hd hv hu (by unfold nL; omega) h.2

/-- and back -/
theorem same_isAt {u1 u2 v1 v2 L T D : Int} (hp : IsP p) (hd : (⟨u1, v1, u2, v2⟩ : M2).det ≠ 0) (hv : v2 ≠ 0) (hu : u2 = 0 ∨ vl p v2 ≤ vl p u2)
    (hB : IsB p L T D) (h : Same p (mB p L T D) ⟨u1, v1, u2, v2⟩) : L + 2 * (vl p v2 : Int) = vl p (⟨u1, v1, u2, v2⟩ : M2).det ∧ IsAt p v1 v2 L T D := by
  have hl := hB.lv
  generalize hU : (⟨u1, v1, u2, v2⟩ : M2) = U at *
  have hKd : ((mB p L T D).adj.mul U).det ≠ 0 := det_ne_mul (det_adj_ne (mB_ne hB)) hd
  have hdet : vl p ((mB p L T D).adj.mul U).det = nL L + 6 + vl p U.det := by
    rw [det_mul, det_adj, vl_mul hp (mB_ne hB) hd]; unfold mB; rw [det_ofB, vl_pow hp.two]
  have hmin : (nL L + 6 + vl p U.det : Int) = 2 * minv p ((mB p L T D).adj.mul U) := by
    unfold Same M2.dist at h
    have e : (vl p (mB p L T D).det : Int) = nL L + 6 := by unfold mB; rw [det_ofB, vl_pow hp.two]; omega
    omega
  have hdv := (le_minv hp.two hKd _).1 (Nat.le_refl (minv p ((mB p L T D).adj.mul U)))
  generalize hk : minv p ((mB p L T D).adj.mul U) = k at *
  have eK : (mB p L T D).adj.mul U = ⟨p ^ 6 * u1 - mk p T D * u2, p ^ 6 * v1 - mk p T D * v2, p ^ nL L * u2, p ^ nL L * v2⟩ := by
    rw [← hU]; unfold mB; ext <;> simp only [ofB, adj, mul] <;> grind
  have hle : k ≤ nL L + vl p v2 := by
    have := hdv.2.2.2
    rw [eK] at this
    simp only at this
    rwa [dvd_iff_le_vl hp.two (Int.mul_ne_zero (pow_ne hp.two _) hv), vl_pow_mul hp.two _ hv] at this
  have heq : k = nL L + vl p v2 := by
    rcases Nat.lt_or_ge k (nL L + vl p v2) with hlt | hge
    · exfalso
      have h1 := hdv.1
      have h2 := hdv.2.1
      have h3 : p ^ (k + 1) ∣ ((mB p L T D).adj.mul U).c := by
        rw [eK]; simp only
        by_cases hu0 : u2 = 0
        · subst hu0; simp
        · rw [dvd_iff_le_vl hp.two (Int.mul_ne_zero (pow_ne hp.two _) hu0), vl_pow_mul hp.two _ hu0]
          rcases hu with hu | hu
          · exact absurd hu hu0
          · omega
      have h4 : p ^ (k + 1) ∣ ((mB p L T D).adj.mul U).d := by
        rw [eK]; simp only
        rw [dvd_iff_le_vl hp.two (Int.mul_ne_zero (pow_ne hp.two _) hv), vl_pow_mul hp.two _ hv]; omega
      have h5 : p ^ (k + (k + 1)) ∣ ((mB p L T D).adj.mul U).det := by
        unfold M2.det
        rw [Int.pow_add]
        exact Int.dvd_sub (Int.mul_dvd_mul h1 h4) (Int.mul_dvd_mul h2 h3)
      rw [dvd_iff_le_vl hp.two hKd, hdet] at h5
      omega
    · omega
  refine ⟨by unfold nL at *; omega, hB, ?_⟩
  have := hdv.2.1
  rw [eK, heq] at this
  exact this
end

end Pl
