import Derived.Test.YtdfepbmcglnhcaaG0
import Derived.Test.YtdfepbmcglnhcaaFM
set_option linter.unusedVariables false
set_option linter.unusedSimpArgs false
/-! plain: what the matrix functions of both programs answer -/
namespace Go.GenTry
open Go Go.Eng Pl Pl.M2

def big (x : Int) : Prop := -4611686018427387904 ≤ x ∧ x ≤ 4611686018427387904
/-- a matrix of the program -/
def toM (g : Siiii) : M2 := ⟨g.c0, g.c1, g.c2, g.c3⟩
def ofM (X : M2) : Siiii := ⟨X.a, X.b, X.c, X.d⟩
def small (m x : Int) : Prop := -m ≤ x ∧ x ≤ m
def fitM (m : Int) (X : M2) : Prop := small m X.a ∧ small m X.b ∧ small m X.c ∧ small m X.d
instance (m x : Int) : Decidable (small m x) := inferInstanceAs (Decidable (_ ∧ _))
instance (m : Int) (X : M2) : Decidable (fitM m X) := inferInstanceAs (Decidable (_ ∧ _))
def isM (X : M2) : Prop := fitM 1000 X ∧ X.det ≠ 0
instance (X : M2) : Decidable (isM X) := inferInstanceAs (Decidable (_ ∧ _))

theorem impl_gcd_l : ∀ (k : Nat) (a b : Int), b.natAbs < k → big a → big b → impl_gcd.l1 k a b = some (Int.gcd a b : Int) := by
  intro k
  induction k with
  | zero => intro a b h; omega
  | succ k ih =>
    intro a b h ha hb
    simp only [impl_gcd.l1, impl_gcd.s1]
    by_cases h0 : b = 0
    · subst h0
      unfold big at ha
      rw [bne_eq rfl, ifE_f, W_id (by omega) (by omega), Int.zero_sub, imax_neg]
      simp
    · have h1 := tmod_lt a b h0
      unfold big at *
      rw [bne_ne h0, ifE_t, guardE_pos h0, ih b _ (by omega) hb (by omega), gcd_step a b h0]
theorem impl_gcd_f {a b : Int} (ha : big a) (hb : big b) : impl_gcd.f a b = some (Int.gcd a b : Int) := by
  unfold impl_gcd.f; exact impl_gcd_l _ _ _ (by unfold big at hb; exact lt_fuel (by omega)) ha hb

theorem spec_gcd_l : ∀ (k : Nat) (a b : Int), b.natAbs < k → big a → big b → spec_l01Gcd.l1 k a b = some (Int.gcd a b : Int) := by
  intro k
  induction k with
  | zero => intro a b h; omega
  | succ k ih =>
    intro a b h ha hb
    simp only [spec_l01Gcd.l1, spec_l01Gcd.s1]
    by_cases h0 : b = 0
    · subst h0
      unfold big at ha
      rw [bne_eq rfl, ifE_f, W_id (by omega) (by omega), Int.zero_sub, imax_neg]
      simp
    · have h1 := tmod_lt a b h0
      unfold big at *
      rw [bne_ne h0, ifE_t, guardE_pos h0, ih b _ (by omega) hb (by omega), gcd_step a b h0]
theorem spec_gcd_f {a b : Int} (ha : big a) (hb : big b) : spec_l01Gcd.f a b = some (Int.gcd a b : Int) := by
  unfold spec_l01Gcd.f; exact spec_gcd_l _ _ _ (by unfold big at hb; exact lt_fuel (by omega)) ha hb

theorem impl_within_l {m : Int} {l : List Int} (hm : 0 ≤ m ∧ m ≤ 1000000000000000000) (hl : l.length ≤ 1000000000000) : ∀ (k i : Nat), l.length - i < k → i ≤ l.length →
    impl_within.l2 k m l (l.length : Int) (i : Int) = some ((l.drop i).all fun x => decide (small m x)) := by
  intro k
  have hw : W (0 - m) = -m := by rw [W_id (by omega) (by omega)]; omega
  induction k with
  | zero => intro i h; omega
  | succ k ih =>
    intro i h hi
    simp only [impl_within.l2, impl_within.s2, hw]
    by_cases hlt : i < l.length
    · rw [ifE_pos (by omega), getE_nat hlt, Option.bind_some, List.drop_eq_getElem_cons hlt, List.all_cons]
      have e : W ((i : Int) + 1) = ((i + 1 : Nat) : Int) := by rw [W_id (by omega) (by omega)]; omega
      rw [e]
      by_cases h1 : l[i] < -m
      · rw [ifE_pos h1]
        have : decide (small m l[i]) = false := decide_eq_false (by unfold small; omega)
        rw [this]; rfl
      · rw [ifE_neg h1]
        by_cases h2 : l[i] > m
        · rw [ifE_pos h2]
          have : decide (small m l[i]) = false := decide_eq_false (by unfold small; omega)
          rw [this]; rfl
        · rw [ifE_neg h2, ih (i + 1) (by omega) (by omega)]
          have : decide (small m l[i]) = true := decide_eq_true (by unfold small; omega)
          rw [this]; rfl
    · rw [ifE_neg (by omega), List.drop_eq_nil_of_le (by omega)]; rfl
theorem impl_within_f {m : Int} {l : List Int} (hm : 0 ≤ m ∧ m ≤ 1000000000000000000) (hl : l.length ≤ 1000000000000) : impl_within.f m l = some (l.all fun x => decide (small m x)) := by
  unfold impl_within.f
  exact impl_within_l hm hl fuelN 0 (lt_fuel (by omega)) (by omega)

theorem small_big {x : Int} (h : small 1000 x) : -1000 ≤ x ∧ x ≤ 1000 := h
theorem mul_small {m n x y : Int} (hx : small m x) (hy : small n y) (hm : 0 ≤ m) : small (m * n) (x * y) := by
  unfold small at *
  have h1 : (x * y).natAbs = x.natAbs * y.natAbs := Int.natAbs_mul _ _
  have h2 : x.natAbs * y.natAbs ≤ m.natAbs * n.natAbs := Nat.mul_le_mul (by omega) (by omega)
  have h3 : ((m.natAbs * n.natAbs : Nat) : Int) = m * n := by
    rw [Int.natCast_mul]
    have : (m.natAbs : Int) = m := by omega
    have : (n.natAbs : Int) = n := by omega
    simp [*]
  omega

theorem det_W {g : Siiii} {m : Int} (hm : 0 ≤ m ∧ m ≤ 2000000000) (h : fitM m (toM g)) : W ((W (g.c0 * g.c3)) - (W (g.c1 * g.c2))) = (toM g).det := by
  obtain ⟨h1, h2, h3, h4⟩ := h
  have e1 := mul_small h1 h4 hm.1
  have e2 := mul_small h2 h3 hm.1
  have hmm : m * m ≤ 2000000000 * 2000000000 := Int.mul_le_mul hm.2 hm.2 hm.1 (by omega)
  unfold small at e1 e2
  simp only [toM] at e1 e2
  rw [W_id (n := g.c0 * g.c3) (by omega) (by omega), W_id (n := g.c1 * g.c2) (by omega) (by omega), W_id (by omega) (by omega)]
  rfl

theorem impl_IsMatrix_f (g : Siiii) : impl_IsMatrix.f g = some (decide (isM (toM g))) := by
  unfold impl_IsMatrix.f impl_determinant.f
  rw [impl_within_f (by omega) (by simp), Option.bind_some]
  by_cases h : fitM 1000 (toM g)
  · have e : ([g.c0, g.c1, g.c2, g.c3].all fun x => decide (small 1000 x)) = true := by
      obtain ⟨h1, h2, h3, h4⟩ := h
      simp only [toM] at h1 h2 h3 h4
      simp [h1, h2, h3, h4]
    rw [e, ifE_t, Option.bind_some, det_W (m := 1000) (by omega) h]
    by_cases h0 : (toM g).det = 0
    · rw [bne_eq h0]; congr 1; symm; rw [decide_eq_false_iff_not]; exact fun hh => hh.2 h0
    · rw [bne_ne h0]; congr 1; symm; rw [decide_eq_true_iff]; exact ⟨h, h0⟩
  · have e : ([g.c0, g.c1, g.c2, g.c3].all fun x => decide (small 1000 x)) = false := by
      rw [Bool.eq_false_iff]
      intro hh
      apply h
      simp only [List.all_cons, List.all_nil, Bool.and_true, Bool.and_eq_true, decide_eq_true_eq] at hh
      exact ⟨hh.1, hh.2.1, hh.2.2.1, hh.2.2.2⟩
    rw [e, ifE_f]; congr 1; symm; rw [decide_eq_false_iff_not]; exact fun hh => h hh.1

theorem spec_l04Is_f (g : Siiii) : spec_l04Is.f g = some (decide (isM (toM g))) := by
  obtain ⟨k, hk⟩ := fuel_succ 4 (by omega)
  have hin : ∀ x : Int, spec_l01In.f x (-1000) 1000 = some (decide (small 1000 x)) := by
    intro x
    unfold spec_l01In.f
    by_cases h : x ≥ -1000
    · rw [ifE_pos h]; congr 1; rw [decide_eq_decide]; unfold small; omega
    · rw [ifE_neg h]; congr 1; symm; exact decide_eq_false (by unfold small; omega)
  have hd : ∀ (h : fitM 1000 (toM g)), spec_l04Det.f g = some (toM g).det := fun h => by
    unfold spec_l04Det.f; rw [det_W (m := 1000) (by omega) h]
  unfold spec_l04Is.f
  simp only [hk, spec_l04Is.l2, spec_l04Is.s2, spec_l04Is.l5, spec_l04Is.s5, hin, Option.bind_some]
  by_cases h1 : small 1000 g.c0
  case neg => simp [W_id, ifE_t, ifE_f, h1, isM, fitM, toM]
  by_cases h2 : small 1000 g.c1
  case neg => simp [W_id, ifE_t, ifE_f, h1, h2, isM, fitM, toM]
  by_cases h3 : small 1000 g.c2
  case neg => simp [W_id, ifE_t, ifE_f, h1, h2, h3, isM, fitM, toM]
  by_cases h4 : small 1000 g.c3
  case neg => simp [W_id, ifE_t, ifE_f, h1, h2, h3, h4, isM, fitM, toM]
  have hf : fitM 1000 (toM g) := ⟨h1, h2, h3, h4⟩
  have hd := hd hf
  simp [W_id, ifE_t, ifE_f, h1, h2, h3, h4, hd]
  by_cases h0 : (toM g).det = 0
  · rw [bne_eq h0]; symm; rw [decide_eq_false_iff_not]; exact fun hh => hh.2 h0
  · rw [bne_ne h0]; symm; rw [decide_eq_true_iff]; exact ⟨hf, h0⟩

theorem small_mono {m n x : Int} (h : small m x) (hmn : m ≤ n) : small n x := by unfold small at *; omega
theorem fitM_mono {m n : Int} {X : M2} (h : fitM m X) (hmn : m ≤ n) : fitM n X := ⟨small_mono h.1 hmn, small_mono h.2.1 hmn, small_mono h.2.2.1 hmn, small_mono h.2.2.2 hmn⟩
theorem red_fit {X : M2} {m : Int} (h : X.det ≠ 0) (hb : fitM m X) : fitM m (red X) := red_le h hb.1 hb.2.1 hb.2.2.1 hb.2.2.2
theorem isM_red {X : M2} (h : X.det ≠ 0) : isM (red X) ↔ fitM 1000 (red X) := ⟨fun h => h.1, fun h' => ⟨h', det_red_ne h⟩⟩
theorem toM_ofM (X : M2) : toM (ofM X) = X := rfl
theorem ofM_toM (g : Siiii) : ofM (toM g) = g := rfl
theorem toM_inj {g h : Siiii} (e : toM g = toM h) : g = h := by rw [← ofM_toM g, e]; rfl

def lim : Int := 1000000000000000

theorem red_W {X : M2} (hb : fitM lim X) (h : X.det ≠ 0) {k : Int} (hk : k = X.kof) : W (Int.tdiv X.a k) = (red X).a ∧ W (Int.tdiv X.b k) = (red X).b ∧ W (Int.tdiv X.c k) = (red X).c ∧ W (Int.tdiv X.d k) = (red X).d := by
  subst hk
  have hd := kof_dvd X
  have hf := red_fit h hb
  unfold fitM small lim red at hf
  simp only at hf
  rw [tdiv_eq hd.1, tdiv_eq hd.2.1, tdiv_eq hd.2.2.1, tdiv_eq hd.2.2.2]
  exact ⟨W_id (by omega) (by omega), W_id (by omega) (by omega), W_id (by omega) (by omega), W_id (by omega) (by omega)⟩

theorem fit_big {X : M2} {m : Int} (h : fitM m X) (hm : m ≤ 4611686018427387904) : big X.a ∧ big X.b ∧ big X.c ∧ big X.d := by
  unfold fitM small big at *; omega

theorem cont_le {X : M2} {m : Int} (h : X.det ≠ 0) (hb : fitM m X) : 0 < X.cont ∧ X.cont ≤ m := by
  have h0 := cont_ne h
  have h1 : 0 ≤ X.cont := by unfold cont; omega
  have hd := (dvd_cont X.cont X).1 (Int.dvd_refl _)
  refine ⟨by omega, ?_⟩
  have key : ∀ x, x ≠ 0 → small m x → X.cont ∣ x → X.cont ≤ m := by
    intro x hx hs hdv
    have := Int.le_of_dvd (b := x.natAbs) (by omega) (Int.dvd_natAbs.2 hdv)
    unfold small at hs; omega
  rcases row_ne h with ha | hb'
  · exact key _ ha hb.1 hd.1
  · exact key _ hb' hb.2.1 hd.2.1

theorem gcd_big {a b : Int} (ha : big a) (hb : big b) : big (Int.gcd a b : Int) := by
  unfold big at *
  have h1 : a ≠ 0 → (Int.gcd a b : Int) ≤ a.natAbs := fun h => Int.le_of_dvd (by omega) (Int.dvd_natAbs.2 (Int.gcd_dvd_left ..))
  have h2 : b ≠ 0 → (Int.gcd a b : Int) ≤ b.natAbs := fun h => Int.le_of_dvd (by omega) (Int.dvd_natAbs.2 (Int.gcd_dvd_right ..))
  by_cases h3 : a = 0
  · by_cases h4 : b = 0
    · subst h3; subst h4; simp
    · have := h2 h4; omega
  · have := h1 h3; omega

theorem impl_reduced_f {g : Siiii} (h : (toM g).det ≠ 0) (hb : fitM lim (toM g)) : impl_reduced.f g = some (ofM (red (toM g)), decide (fitM 1000 (red (toM g)))) := by
  obtain ⟨b1, b2, b3, b4⟩ := fit_big hb (by unfold lim; omega)
  simp only [toM] at b1 b2 b3 b4
  have hc := cont_le h hb
  have hcont : (Int.gcd (Int.gcd g.c0 g.c1 : Int) (Int.gcd g.c2 g.c3 : Int) : Int) = (toM g).cont := rfl
  unfold impl_reduced.f
  rw [impl_gcd_f b1 b2, Option.bind_some, impl_gcd_f b3 b4, Option.bind_some, impl_gcd_f (gcd_big b1 b2) (gcd_big b3 b4), Option.bind_some, hcont]
  have hm : decide (isM (red (toM g))) = decide (fitM 1000 (red (toM g))) := decide_eq_decide.2 (isM_red h)
  have key : ∀ k : Int, k = (toM g).kof → (guardE (k ≠ 0) <| guardE (k ≠ 0) <| guardE (k ≠ 0) <| guardE (k ≠ 0) <|
      (impl_IsMatrix.f (⟨W (Int.tdiv g.c0 k), W (Int.tdiv g.c1 k), W (Int.tdiv g.c2 k), W (Int.tdiv g.c3 k)⟩ : Siiii)).bind fun r4 =>
      some ((⟨W (Int.tdiv g.c0 k), W (Int.tdiv g.c1 k), W (Int.tdiv g.c2 k), W (Int.tdiv g.c3 k)⟩ : Siiii), r4)) = some (ofM (red (toM g)), decide (fitM 1000 (red (toM g)))) := by
    intro k hk
    have h0 : k ≠ 0 := by rw [hk]; exact kof_ne h
    obtain ⟨e1, e2, e3, e4⟩ := red_W hb h hk
    simp only [toM] at e1 e2 e3 e4
    rw [guardE_pos h0, guardE_pos h0, guardE_pos h0, guardE_pos h0, e1, e2, e3, e4]
    have e5 : (⟨(red (toM g)).a, (red (toM g)).b, (red (toM g)).c, (red (toM g)).d⟩ : Siiii) = ofM (red (toM g)) := rfl
    have e6 : impl_IsMatrix.f (ofM (red (toM g))) = some (decide (fitM 1000 (red (toM g)))) := by rw [impl_IsMatrix_f, toM_ofM, hm]
    simp only [toM] at e5 e6 ⊢
    rw [e5, e6, Option.bind_some]
  have hW : W (0 - (toM g).cont) = -(toM g).cont := by unfold lim at hc; rw [W_id (by omega) (by omega)]; omega
  by_cases h1 : g.c0 < 0
  · rw [ifE_pos h1, hW]
    refine key _ ?_
    unfold kof sgn; rw [if_pos (.inl h1)]; omega
  · rw [ifE_neg h1]
    by_cases h2 : g.c0 = 0
    · rw [show (g.c0 == 0) = true from by simp [h2], ifE_t]
      by_cases h3 : g.c1 < 0
      · rw [ifE_pos h3, hW]
        refine key _ ?_
        unfold kof sgn; rw [if_pos (.inr ⟨h2, h3⟩)]; omega
      · rw [ifE_neg h3]
        refine key _ ?_
        unfold kof sgn; rw [if_neg (by rintro (hh | ⟨_, hh⟩); exact h1 hh; exact h3 hh)]; omega
    · rw [beq_ne h2, ifE_f]
      refine key _ ?_
      unfold kof sgn; rw [if_neg (by rintro (hh | ⟨hh, _⟩); exact h1 hh; exact h2 hh)]; omega

theorem list4 (a b c d : Int) : getE [a, b, c, d] 0 = some a ∧ getE [a, b, c, d] 1 = some b ∧ getE [a, b, c, d] 2 = some c ∧ getE [a, b, c, d] 3 = some d := ⟨rfl, rfl, rfl, rfl⟩

theorem tdiv_abs {e : Int} (h : e ≠ 0) : Int.tdiv e (e.natAbs : Int) = Int.sign e := by
  rcases Int.lt_or_gt_of_ne h with h1 | h1
  · have h2 : (e.natAbs : Int) = -e := by omega
    rw [h2, Int.tdiv_neg, Int.tdiv_self h, Int.sign_eq_neg_one_of_neg h1]
  · have h2 : (e.natAbs : Int) = e := by omega
    rw [h2, Int.tdiv_self h, Int.sign_eq_one_of_pos h1]

theorem l04_step {k : Nat} {v5 v6 e i i' z0 z1 z2 z3 : Int} {l : List Int} (hi : getE l i = some e) (h4 : i < 4) (hw : W (i + 1) = i') (he : big e) (hv : big v5) :
    spec_l04Reduce.l4 (k + 1) v5 v6 i z0 z1 z2 z3 l = spec_l04Reduce.l4 k (Int.gcd v5 e : Int) (if v6 = 0 then Int.sign e else v6) i' z0 z1 z2 z3 l := by
  have habs : imax e (W (0 - e)) = (e.natAbs : Int) := by unfold big at he; rw [W_id (by omega) (by omega), Int.zero_sub, imax_neg]
  have hbig : big (e.natAbs : Int) := by unfold big at *; omega
  have hg : (Int.gcd v5 (e.natAbs : Int) : Int) = (Int.gcd v5 e : Int) := by simp [Int.gcd]
  simp only [spec_l04Reduce.l4, spec_l04Reduce.s4, hi, Option.bind_some, habs, hw]
  rw [ifE_pos h4, spec_gcd_f hv hbig, Option.bind_some, hg]
  by_cases h6 : v6 = 0
  · subst h6
    rw [show ((0 : Int) == 0) = true from rfl, ifE_t, if_pos rfl]
    by_cases h0 : e = 0
    · subst h0; rfl
    · rw [bne_ne h0, ifE_t, guardE_pos (by omega), tdiv_abs h0]
      have : W (Int.sign e) = Int.sign e := by
        have := Int.sign_eq_neg_one_of_neg (a := e)
        have := Int.sign_eq_one_of_pos (a := e)
        rw [W_id (by omega) (by omega)]
      rw [this]
  · rw [beq_ne h6, ifE_f, if_neg h6]

theorem l04_out {k : Nat} {D s e i i' z0 z1 z2 z3 : Int} {ok : Bool} {l l' : List Int} (hi : getE l i = some e) (h4 : i < 4) (hw : W (i + 1) = i') (hD : D ≠ 0) {y : Int} (hy : W ((W (Int.tdiv e D)) * s) = y) (hl : l.set (Int.toNat i) y = l') (hg : getE l' i = some y) :
    spec_l04Reduce.l12 (k + 1) D s ok i z0 z1 z2 z3 l = spec_l04Reduce.l12 k D s (ok && decide (small 1000 y)) i' z0 z1 z2 z3 l' := by
  have hin : ∀ x : Int, spec_l01In.f x (-1000) 1000 = some (decide (small 1000 x)) := by
    intro x
    unfold spec_l01In.f
    by_cases h : x ≥ -1000
    · rw [ifE_pos h]; congr 1; rw [decide_eq_decide]; unfold small; omega
    · rw [ifE_neg h]; congr 1; symm; exact decide_eq_false (by unfold small; omega)
  simp only [spec_l04Reduce.l12, spec_l04Reduce.s12, hi, Option.bind_some, hw, hy, hl, hg, hin]
  rw [ifE_pos h4, guardE_pos hD]
  cases ok
  · rw [ifE_f]; simp
  · rw [ifE_t]; simp

theorem spec_l04Reduce_f {g : Siiii} (h : (toM g).det ≠ 0) (hb : fitM lim (toM g)) : spec_l04Reduce.f g = some (ofM (red (toM g)), decide (fitM 1000 (red (toM g)))) := by
  obtain ⟨b1, b2, b3, b4⟩ := fit_big hb (by unfold lim; omega)
  simp only [toM] at b1 b2 b3 b4
  have hc := cont_le h hb
  obtain ⟨g1, g2, g3, g4⟩ := list4 g.c0 g.c1 g.c2 g.c3
  obtain ⟨k, hk⟩ := fuel_succ 5 (by omega)
  have z0 : big 0 := by unfold big; omega
  have y1 := gcd_big z0 b1
  have y2 := gcd_big y1 b2
  have y3 := gcd_big y2 b3
  unfold spec_l04Reduce.f
  rw [hk, l04_step g1 (by omega) (i' := 1) (W_id (by omega) (by omega)) b1 z0, l04_step g2 (by omega) (i' := 2) (W_id (by omega) (by omega)) b2 y1,
    l04_step g3 (by omega) (i' := 3) (W_id (by omega) (by omega)) b3 y2, l04_step g4 (by omega) (i' := 4) (W_id (by omega) (by omega)) b4 y3]
  have hD : ((Int.gcd (Int.gcd (Int.gcd (Int.gcd 0 g.c0 : Int) g.c1 : Int) g.c2 : Int) g.c3 : Nat) : Int) = (toM g).cont := by
    unfold cont toM
    simp only [Int.gcd, Int.natAbs_zero, Nat.gcd_zero_left, Int.natAbs_natCast, Nat.gcd_assoc]
  have hs : (if (if (if (if (0 : Int) = 0 then Int.sign g.c0 else 0) = 0 then Int.sign g.c1 else (if (0 : Int) = 0 then Int.sign g.c0 else 0)) = 0 then Int.sign g.c2 else (if (if (0 : Int) = 0 then Int.sign g.c0 else 0) = 0 then Int.sign g.c1 else (if (0 : Int) = 0 then Int.sign g.c0 else 0))) = 0 then Int.sign g.c3 else (if (if (if (0 : Int) = 0 then Int.sign g.c0 else 0) = 0 then Int.sign g.c1 else (if (0 : Int) = 0 then Int.sign g.c0 else 0)) = 0 then Int.sign g.c2 else (if (if (0 : Int) = 0 then Int.sign g.c0 else 0) = 0 then Int.sign g.c1 else (if (0 : Int) = 0 then Int.sign g.c0 else 0)))) = (toM g).sgn := by
    have hr := row_ne h
    simp only [if_true, toM] at *
    unfold sgn
    simp only
    by_cases ha : g.c0 = 0
    · have hb' : g.c1 ≠ 0 := by rcases hr with hh | hh; exact absurd ha hh; exact hh
      have hb0 : Int.sign g.c1 ≠ 0 := by rw [Ne, Int.sign_eq_zero_iff_zero]; exact hb'
      rw [ha]
      simp [hb0]
      rcases Int.lt_or_gt_of_ne hb' with h1 | h1
      · rw [if_pos h1, Int.sign_eq_neg_one_of_neg h1]
      · rw [if_neg (by omega), Int.sign_eq_one_of_pos h1]
    · have ha0 : Int.sign g.c0 ≠ 0 := by rw [Ne, Int.sign_eq_zero_iff_zero]; exact ha
      simp [ha0, ha]
      rcases Int.lt_or_gt_of_ne ha with h1 | h1
      · rw [if_pos h1, Int.sign_eq_neg_one_of_neg h1]
      · rw [if_neg (by omega), Int.sign_eq_one_of_pos h1]
  rw [hD, hs]
  have hend : spec_l04Reduce.l4 (k + 1) (toM g).cont (toM g).sgn 4 0 0 0 0 [g.c0, g.c1, g.c2, g.c3] = spec_l04Reduce.l12 fuelN (toM g).cont (toM g).sgn true 0 0 0 0 0 [g.c0, g.c1, g.c2, g.c3] := by
    have hcc : imax (toM g).cont (W (0 - (toM g).cont)) = (toM g).cont := by
      unfold lim at hc
      rw [W_id (by omega) (by omega), Int.zero_sub, imax_neg]; omega
    simp only [spec_l04Reduce.l4, spec_l04Reduce.s4, hcc]
    rw [ifE_neg (by omega)]
  rw [hend, hk]
  have hdv := (dvd_cont (toM g).cont (toM g)).1 (Int.dvd_refl _)
  have hf := red_fit h hb
  have hkd := kof_dvd (toM g)
  have val : ∀ e : Int, (toM g).cont ∣ e → small lim (e / (toM g).kof) → W ((W (Int.tdiv e (toM g).cont)) * (toM g).sgn) = e / (toM g).kof := by
    rintro e ⟨y, rfl⟩ hsm
    have hk0 := kof_ne h
    have e1 : (toM g).cont * y / (toM g).kof = y * (toM g).sgn := by
      unfold kof
      rcases sgn_ne (toM g) with hh | hh
      · rw [hh, Int.one_mul, Int.mul_ediv_cancel_left _ (by omega)]; omega
      · rw [hh]
        have : (-1 : Int) * (toM g).cont = -(toM g).cont := by omega
        rw [this, Int.ediv_neg, Int.mul_ediv_cancel_left _ (by omega)]; omega
    have hy : small lim y := by
      rw [e1] at hsm
      unfold small at *
      rcases sgn_ne (toM g) with hh | hh <;> rw [hh] at hsm <;> omega
    have hm : small lim (y * (toM g).sgn) := by rw [← e1]; exact hsm
    rw [e1, Int.mul_tdiv_cancel_left _ (by omega)]
    unfold small lim at hy hm
    rw [W_id (n := y) (by omega) (by omega), W_id (by omega) (by omega)]
  have v1 := val g.c0 hdv.1 hf.1
  have v2 := val g.c1 hdv.2.1 hf.2.1
  have v3 := val g.c2 hdv.2.2.1 hf.2.2.1
  have v4 := val g.c3 hdv.2.2.2 hf.2.2.2
  have hc0 : (toM g).cont ≠ 0 := by omega
  rw [l04_out g1 (by omega) (i' := 1) (W_id (by omega) (by omega)) hc0 v1 (l' := [g.c0 / (toM g).kof, g.c1, g.c2, g.c3]) rfl rfl,
    l04_out (e := g.c1) rfl (by omega) (i' := 2) (W_id (by omega) (by omega)) hc0 v2 (l' := [g.c0 / (toM g).kof, g.c1 / (toM g).kof, g.c2, g.c3]) rfl rfl,
    l04_out (e := g.c2) rfl (by omega) (i' := 3) (W_id (by omega) (by omega)) hc0 v3 (l' := [g.c0 / (toM g).kof, g.c1 / (toM g).kof, g.c2 / (toM g).kof, g.c3]) rfl rfl,
    l04_out (e := g.c3) rfl (by omega) (i' := 4) (W_id (by omega) (by omega)) hc0 v4 (l' := [g.c0 / (toM g).kof, g.c1 / (toM g).kof, g.c2 / (toM g).kof, g.c3 / (toM g).kof]) rfl rfl]
  have e : ∀ ok : Bool, spec_l04Reduce.l12 (k + 1) (toM g).cont (toM g).sgn ok 4 0 0 0 0 [g.c0 / (toM g).kof, g.c1 / (toM g).kof, g.c2 / (toM g).kof, g.c3 / (toM g).kof] = some (ofM (red (toM g)), ok) := by
    intro ok
    simp only [spec_l04Reduce.l12, spec_l04Reduce.s12]
    rw [ifE_neg (by omega)]
    rfl
  rw [e]
  congr 2
  rw [Bool.true_and, Bool.and_assoc, Bool.and_assoc, ← Bool.decide_and, ← Bool.decide_and, ← Bool.decide_and]
  rfl

/-! products, inverses -/
theorem mul_fit {X Y : M2} {m n : Int} (hm : 0 ≤ m) (hX : fitM m X) (hY : fitM n Y) : fitM (2 * (m * n)) (X.mul Y) := by
  obtain ⟨x1, x2, x3, x4⟩ := hX
  obtain ⟨y1, y2, y3, y4⟩ := hY
  have a := mul_small x1 y1 hm
  have b := mul_small x2 y3 hm
  have c := mul_small x1 y2 hm
  have d := mul_small x2 y4 hm
  have e := mul_small x3 y1 hm
  have f := mul_small x4 y3 hm
  have g := mul_small x3 y2 hm
  have h := mul_small x4 y4 hm
  unfold fitM small M2.mul at *
  refine ⟨?_, ?_, ?_, ?_⟩ <;> simp only <;> omega

theorem mul_W {g h : Siiii} (hg : fitM 20000000 (toM g)) (hh : fitM 20000000 (toM h)) :
    (⟨W ((W (g.c0 * h.c0)) + (W (g.c1 * h.c2))), W ((W (g.c0 * h.c1)) + (W (g.c1 * h.c3))), W ((W (g.c2 * h.c0)) + (W (g.c3 * h.c2))), W ((W (g.c2 * h.c1)) + (W (g.c3 * h.c3)))⟩ : Siiii) = ofM ((toM g).mul (toM h)) := by
  obtain ⟨x1, x2, x3, x4⟩ := hg
  obtain ⟨y1, y2, y3, y4⟩ := hh
  have hm : (0 : Int) ≤ 20000000 := by omega
  have a := mul_small x1 y1 hm
  have b := mul_small x2 y3 hm
  have c := mul_small x1 y2 hm
  have d := mul_small x2 y4 hm
  have e := mul_small x3 y1 hm
  have f := mul_small x4 y3 hm
  have i := mul_small x3 y2 hm
  have j := mul_small x4 y4 hm
  unfold small at *
  simp only [toM] at *
  unfold ofM M2.mul
  simp only
  rw [W_id (n := g.c0 * h.c0) (by omega) (by omega), W_id (n := g.c1 * h.c2) (by omega) (by omega), W_id (n := g.c0 * h.c1) (by omega) (by omega), W_id (n := g.c1 * h.c3) (by omega) (by omega),
    W_id (n := g.c2 * h.c0) (by omega) (by omega), W_id (n := g.c3 * h.c2) (by omega) (by omega), W_id (n := g.c2 * h.c1) (by omega) (by omega), W_id (n := g.c3 * h.c3) (by omega) (by omega),
    W_id (by omega) (by omega), W_id (by omega) (by omega), W_id (by omega) (by omega), W_id (by omega) (by omega)]

theorem fit_lim {X : M2} {m : Int} (h : fitM m X) (hm : m ≤ lim) : fitM lim X := fitM_mono h hm

theorem impl_product_f {g h : Siiii} (hg : fitM 20000000 (toM g)) (hh : fitM 20000000 (toM h)) (dg : (toM g).det ≠ 0) (dh : (toM h).det ≠ 0) :
    impl_product.f g h = some (ofM (red ((toM g).mul (toM h))), decide (fitM 1000 (red ((toM g).mul (toM h))))) := by
  unfold impl_product.f
  rw [mul_W hg hh, impl_reduced_f (g := ofM ((toM g).mul (toM h))) (det_ne_mul dg dh) (fit_lim (mul_fit (by omega) hg hh) (by unfold lim; omega))]
  rfl

theorem isM_det {g : Siiii} (h : isM (toM g)) : (toM g).det ≠ 0 := h.2
theorem isM_fit {g : Siiii} (h : isM (toM g)) : fitM 20000000 (toM g) := fitM_mono h.1 (by omega)
theorem isM_lim {g : Siiii} (h : isM (toM g)) : fitM lim (toM g) := fitM_mono h.1 (by unfold lim; omega)

theorem neg_W {x : Int} (h : small 20000000 x) : W (0 - x) = -x := by unfold small at h; rw [W_id (by omega) (by omega)]; omega

theorem adj_fit {X : M2} {m : Int} (h : fitM m X) : fitM m X.adj := by
  unfold fitM small M2.adj at *; simp only; omega

theorem impl_reduce_f {g : Siiii} (h : (toM g).det ≠ 0) (hb : fitM lim (toM g)) : impl_reduce.f g = some (ofM (red (toM g))) := by
  unfold impl_reduce.f; rw [impl_reduced_f h hb]; rfl

theorem impl_inverted_f {g : Siiii} (h : (toM g).det ≠ 0) (hb : fitM 20000000 (toM g)) : impl_inverted.f g = some (ofM (red (toM g).adj)) := by
  unfold impl_inverted.f
  have e : (⟨g.c3, W (0 - g.c1), W (0 - g.c2), g.c0⟩ : Siiii) = ofM (toM g).adj := by rw [neg_W (x := g.c1) hb.2.1, neg_W (x := g.c2) hb.2.2.1]; rfl
  rw [e, impl_reduce_f (g := ofM (toM g).adj) (by rw [toM_ofM, det_adj]; exact h) (fit_lim (adj_fit hb) (by unfold lim; omega))]
  rfl

theorem spec_l04Inverse_f {g : Siiii} (h : (toM g).det ≠ 0) (hb : fitM 20000000 (toM g)) : spec_l04Inverse.f g = some (ofM (red (toM g).adj)) := by
  unfold spec_l04Inverse.f
  have e : (⟨g.c3, W (0 - g.c1), W (0 - g.c2), g.c0⟩ : Siiii) = ofM (toM g).adj := by rw [neg_W (x := g.c1) hb.2.1, neg_W (x := g.c2) hb.2.2.1]; rfl
  rw [e, spec_l04Reduce_f (g := ofM (toM g).adj) (by rw [toM_ofM, det_adj]; exact h) (fit_lim (adj_fit hb) (by unfold lim; omega))]
  rfl

theorem spec_l04Times_f {g h : Siiii} (hg : fitM 20000000 (toM g)) (hh : fitM 20000000 (toM h)) (dg : (toM g).det ≠ 0) (dh : (toM h).det ≠ 0) :
    spec_l04Times.f g h = some (ofM (red ((toM g).mul (toM h))), decide (fitM 1000 (red ((toM g).mul (toM h))))) := by
  obtain ⟨k, hk⟩ := fuel_succ 4 (by omega)
  have hr := spec_l04Reduce_f (g := ofM ((toM g).mul (toM h))) (det_ne_mul dg dh) (fit_lim (mul_fit (by omega) hg hh) (by unfold lim; omega))
  rw [toM_ofM] at hr
  have hm := mul_W hg hh
  unfold spec_l04Times.f
  rw [hk]
  simp only [spec_l04Times.l3, spec_l04Times.s3, hk, spec_l04Times.l6, spec_l04Times.s6]
  simp [W_id, ifE_t, ifE_f]
  rw [hm, hr]
  rfl


/-! the exported functions -/
def zM : Siiii := ⟨0, 0, 0, 0⟩
def fitE (X : M2) : Siiii × Int := if fitM 1000 (red X) then (ofM (red X), 0) else (zM, 3)

theorem impl_areMatrices_l {l : List Siiii} (hl : l.length ≤ 1000000000000) : ∀ (k i : Nat), l.length - i < k → i ≤ l.length →
    impl_areMatrices.l2 k l (l.length : Int) (i : Int) = some ((l.drop i).all fun x => decide (isM (toM x))) := by
  intro k
  induction k with
  | zero => intro i h; omega
  | succ k ih =>
    intro i h hi
    simp only [impl_areMatrices.l2, impl_areMatrices.s2]
    by_cases hlt : i < l.length
    · rw [ifE_pos (by omega), getE_nat hlt, Option.bind_some, List.drop_eq_getElem_cons hlt, List.all_cons, impl_IsMatrix_f, Option.bind_some]
      have e : W ((i : Int) + 1) = ((i + 1 : Nat) : Int) := by rw [W_id (by omega) (by omega)]; omega
      rw [e]
      by_cases h1 : isM (toM l[i])
      · rw [decide_eq_true h1, Bool.not_true, ifE_f, ih (i + 1) (by omega) (by omega), Bool.true_and]
      · rw [decide_eq_false h1]; rfl
    · rw [ifE_neg (by omega), List.drop_eq_nil_of_le (by omega)]; rfl
theorem impl_areMatrices_f {l : List Siiii} (hl : l.length ≤ 1000000000000) : impl_areMatrices.f l = some (l.all fun x => decide (isM (toM x))) := by
  unfold impl_areMatrices.f
  exact impl_areMatrices_l hl fuelN 0 (lt_fuel (by omega)) (by omega)

def mulE (g h : Siiii) : Siiii × Int := if isM (toM g) ∧ isM (toM h) then fitE ((toM g).mul (toM h)) else (zM, 1)
def redE (g : Siiii) : Siiii × Int := if isM (toM g) then (ofM (red (toM g)), 0) else (zM, 1)
def invE (g : Siiii) : Siiii × Int := if isM (toM g) then (ofM (red (toM g).adj), 0) else (zM, 1)
def sameE (g h : Siiii) : Bool × Int := if isM (toM g) ∧ isM (toM h) then (decide (red (toM g) = red (toM h)), 0) else (false, 1)

theorem impl_MultiplyMatrices_f (g h : Siiii) : impl_MultiplyMatrices.f g h = some (mulE g h) := by
  unfold impl_MultiplyMatrices.f mulE
  rw [impl_areMatrices_f (by simp), Option.bind_some]
  simp only [List.all_cons, List.all_nil, Bool.and_true]
  by_cases h1 : isM (toM g)
  · by_cases h2 : isM (toM h)
    · rw [decide_eq_true h1, decide_eq_true h2, Bool.and_true, Bool.not_true, ifE_f, impl_product_f (isM_fit h1) (isM_fit h2) h1.2 h2.2, Option.bind_some, if_pos ⟨h1, h2⟩]
      unfold impl_fittedMatrix.f fitE
      by_cases hf : fitM 1000 (red ((toM g).mul (toM h)))
      · simp only [decide_eq_true hf, if_pos hf]; rfl
      · simp only [decide_eq_false hf, if_neg hf]; rfl
    · rw [decide_eq_false h2, if_neg (fun hh => h2 hh.2), Bool.and_false]; rfl
  · rw [decide_eq_false h1, if_neg (fun hh => h1 hh.1)]; rfl

theorem spec_MultiplyMatrices_f (g h : Siiii) : spec_MultiplyMatrices.f g h = some (mulE g h) := by
  unfold spec_MultiplyMatrices.f mulE
  rw [spec_l04Is_f, Option.bind_some]
  by_cases h1 : isM (toM g)
  · rw [decide_eq_true h1, Bool.not_true, ifE_f, spec_l04Is_f, Option.bind_some]
    by_cases h2 : isM (toM h)
    · rw [decide_eq_true h2, Bool.not_true, ifE_f, spec_l04Times_f (isM_fit h1) (isM_fit h2) h1.2 h2.2, Option.bind_some, if_pos ⟨h1, h2⟩]
      unfold fitE
      by_cases hf : fitM 1000 (red ((toM g).mul (toM h)))
      · simp only [decide_eq_true hf, if_pos hf]; rfl
      · simp only [decide_eq_false hf, if_neg hf]; rfl
    · rw [decide_eq_false h2, if_neg (fun hh => h2 hh.2)]; rfl
  · rw [decide_eq_false h1, if_neg (fun hh => h1 hh.1)]; rfl

theorem impl_ReduceMatrix_f (g : Siiii) : impl_ReduceMatrix.f g = some (redE g) := by
  unfold impl_ReduceMatrix.f redE
  rw [impl_IsMatrix_f, Option.bind_some]
  by_cases h1 : isM (toM g)
  · rw [decide_eq_true h1, Bool.not_true, ifE_f, impl_reduce_f h1.2 (isM_lim h1), Option.bind_some, if_pos h1]
  · rw [decide_eq_false h1, if_neg h1]; rfl
theorem spec_ReduceMatrix_f (g : Siiii) : spec_ReduceMatrix.f g = some (redE g) := by
  unfold spec_ReduceMatrix.f redE
  rw [spec_l04Is_f, Option.bind_some]
  by_cases h1 : isM (toM g)
  · rw [decide_eq_true h1, Bool.not_true, ifE_f, spec_l04Reduce_f h1.2 (isM_lim h1), Option.bind_some, if_pos h1]
  · rw [decide_eq_false h1, if_neg h1]; rfl
theorem impl_InverseMatrix_f (g : Siiii) : impl_InverseMatrix.f g = some (invE g) := by
  unfold impl_InverseMatrix.f invE
  rw [impl_IsMatrix_f, Option.bind_some]
  by_cases h1 : isM (toM g)
  · rw [decide_eq_true h1, Bool.not_true, ifE_f, impl_inverted_f h1.2 (isM_fit h1), Option.bind_some, if_pos h1]
  · rw [decide_eq_false h1, if_neg h1]; rfl
theorem spec_InverseMatrix_f (g : Siiii) : spec_InverseMatrix.f g = some (invE g) := by
  unfold spec_InverseMatrix.f invE
  rw [spec_l04Is_f, Option.bind_some]
  by_cases h1 : isM (toM g)
  · rw [decide_eq_true h1, Bool.not_true, ifE_f, spec_l04Inverse_f h1.2 (isM_fit h1), Option.bind_some, if_pos h1]
  · rw [decide_eq_false h1, if_neg h1]; rfl

theorem eqM (X Y : M2) : (((X.a == Y.a) && ((X.b == Y.b) && true)) && (((X.c == Y.c) && ((X.d == Y.d) && true)) && true)) = decide (X = Y) := by
  by_cases h : X = Y
  · subst h; simp
  · rw [decide_eq_false h, Bool.eq_false_iff]
    intro hh
    simp only [Bool.and_true, Bool.and_eq_true, beq_iff_eq] at hh
    exact h (by ext; exact hh.1.1; exact hh.1.2; exact hh.2.1; exact hh.2.2)
theorem eqS (g h : Siiii) : (((g.c0 == h.c0) && ((g.c1 == h.c1) && true)) && (((g.c2 == h.c2) && ((g.c3 == h.c3) && true)) && true)) = decide (g = h) := by
  refine (eqM (toM g) (toM h)).trans ?_
  by_cases e : g = h
  · subst e; simp
  · rw [decide_eq_false e, decide_eq_false fun h => e (toM_inj h)]

theorem impl_AreSameMatrices_f (g h : Siiii) : impl_AreSameMatrices.f g h = some (sameE g h) := by
  unfold impl_AreSameMatrices.f sameE
  rw [impl_areMatrices_f (by simp), Option.bind_some]
  have ea : ([g, h].all fun x => decide (isM (toM x))) = (decide (isM (toM g)) && decide (isM (toM h))) := by simp
  rw [ea]
  by_cases h1 : isM (toM g)
  · by_cases h2 : isM (toM h)
    · rw [decide_eq_true h1, decide_eq_true h2, Bool.and_true, Bool.not_true, ifE_f, impl_reduce_f h1.2 (isM_lim h1), Option.bind_some, impl_reduce_f h2.2 (isM_lim h2), Option.bind_some, if_pos ⟨h1, h2⟩]
      exact congrArg (fun b => some (b, (0 : Int))) (eqM (red (toM g)) (red (toM h)))
    · rw [decide_eq_false h2, if_neg (fun hh => h2 hh.2), Bool.and_false]; rfl
  · rw [decide_eq_false h1, if_neg (fun hh => h1 hh.1)]; rfl
theorem spec_AreSameMatrices_f (g h : Siiii) : spec_AreSameMatrices.f g h = some (sameE g h) := by
  unfold spec_AreSameMatrices.f sameE
  rw [spec_l04Is_f, Option.bind_some]
  by_cases h1 : isM (toM g)
  · rw [decide_eq_true h1, Bool.not_true, ifE_f, spec_l04Is_f, Option.bind_some]
    by_cases h2 : isM (toM h)
    · rw [decide_eq_true h2, Bool.not_true, ifE_f, spec_l04Reduce_f h1.2 (isM_lim h1), Option.bind_some, spec_l04Reduce_f h2.2 (isM_lim h2), Option.bind_some, if_pos ⟨h1, h2⟩]
      exact congrArg (fun b => some (b, (0 : Int))) (eqM (red (toM g)) (red (toM h)))
    · rw [decide_eq_false h2, if_neg (fun hh => h2 hh.2)]; rfl
  · rw [decide_eq_false h1, if_neg (fun hh => h1 hh.1)]; rfl

/-- n more products by X, each one reduced -/
def powR (X : M2) : Nat → M2 → Option M2
  | 0, A => some A
  | n + 1, A => if fitM 1000 (red (A.mul X)) then powR X n (red (A.mul X)) else none
def powE (X : M2) (n : Nat) : Siiii × Int := match powR X n one with
  | some A => (ofM A, 0)
  | none => (zM, 3)

theorem impl_PowerMatrix_l {X : M2} (hX : fitM 20000000 X) (dX : X.det ≠ 0) (z0 z1 z2 z3 : Int) : ∀ (n k : Nat) (i : Int) (A : M2), n < k → 0 ≤ i → i + n ≤ 1000 → fitM 1000 A → A.det ≠ 0 →
    impl_PowerMatrix.l10 k (i + n) i X.a X.b X.c X.d z0 z1 z2 z3 A.a A.b A.c A.d = some (match powR X n A with | some A => (ofM A, 0) | none => (zM, 3)) := by
  intro n
  induction n with
  | zero =>
    intro k i A hk h0 h1 hA dA
    obtain ⟨k, rfl⟩ : ∃ m, k = m + 1 := ⟨k - 1, by omega⟩
    simp only [impl_PowerMatrix.l10, impl_PowerMatrix.s10]
    rw [ifE_neg (by omega)]
    rfl
  | succ n ih =>
    intro k i A hk h0 h1 hA dA
    obtain ⟨k, rfl⟩ : ∃ m, k = m + 1 := ⟨k - 1, by omega⟩
    simp only [impl_PowerMatrix.l10, impl_PowerMatrix.s10]
    have hp := impl_product_f (g := ⟨A.a, A.b, A.c, A.d⟩) (h := ⟨X.a, X.b, X.c, X.d⟩) (fitM_mono hA (by omega)) hX dA dX
    have e1 : toM (⟨A.a, A.b, A.c, A.d⟩ : Siiii) = A := rfl
    have e2 : toM (⟨X.a, X.b, X.c, X.d⟩ : Siiii) = X := rfl
    rw [e1, e2] at hp
    rw [ifE_pos (by omega), hp, Option.bind_some]
    have ew : W (i + 1) = i + 1 := W_id (by omega) (by omega)
    rw [ew]
    unfold powR
    by_cases hf : fitM 1000 (red (A.mul X))
    · rw [if_pos hf]
      simp only [decide_eq_true hf, Bool.not_true, ifE_f]
      have := ih k (i + 1) (red (A.mul X)) (by omega) (by omega) (by omega) hf (det_red_ne (det_ne_mul dA dX))
      rw [show i + 1 + (n : Int) = i + ((n + 1 : Nat) : Int) from by omega] at this
      exact this
    · rw [if_neg hf]
      simp only [decide_eq_false hf, Bool.not_false, ifE_t]
      rfl

theorem spec_PowerMatrix_l {X : M2} (hX : fitM 20000000 X) (dX : X.det ≠ 0) (z0 z1 z2 z3 : Int) : ∀ (n k : Nat) (A : M2), n < k → n ≤ 1000 → fitM 1000 A → A.det ≠ 0 →
    spec_PowerMatrix.l9 k n X.a X.b X.c X.d z0 z1 z2 z3 A.a A.b A.c A.d = some (match powR X n A with | some A => (ofM A, 0) | none => (zM, 3)) := by
  intro n
  induction n with
  | zero =>
    intro k A hk h1 hA dA
    obtain ⟨k, rfl⟩ : ∃ m, k = m + 1 := ⟨k - 1, by omega⟩
    simp only [spec_PowerMatrix.l9, spec_PowerMatrix.s9]
    rw [ifE_neg (by omega)]
    rfl
  | succ n ih =>
    intro k A hk h1 hA dA
    obtain ⟨k, rfl⟩ : ∃ m, k = m + 1 := ⟨k - 1, by omega⟩
    simp only [spec_PowerMatrix.l9, spec_PowerMatrix.s9]
    have hp := spec_l04Times_f (g := ⟨A.a, A.b, A.c, A.d⟩) (h := ⟨X.a, X.b, X.c, X.d⟩) (fitM_mono hA (by omega)) hX dA dX
    have e1 : toM (⟨A.a, A.b, A.c, A.d⟩ : Siiii) = A := rfl
    have e2 : toM (⟨X.a, X.b, X.c, X.d⟩ : Siiii) = X := rfl
    rw [e1, e2] at hp
    rw [ifE_pos (by omega), hp, Option.bind_some]
    have ew : W (((n + 1 : Nat) : Int) - 1) = (n : Int) := by rw [W_id (by omega) (by omega)]; omega
    rw [ew]
    unfold powR
    by_cases hf : fitM 1000 (red (A.mul X))
    · rw [if_pos hf]
      simp only [decide_eq_true hf, Bool.not_true, ifE_f]
      exact ih k (red (A.mul X)) (by omega) (by omega) hf (det_red_ne (det_ne_mul dA dX))
    · rw [if_neg hf]
      simp only [decide_eq_false hf, Bool.not_false, ifE_t]
      rfl

/-- powers by a matrix or its reduced one are the same -/
theorem powR_red {X Y : M2} (dX : X.det ≠ 0) (dY : Y.det ≠ 0) (h : red X = red Y) : ∀ (n : Nat) (A : M2), A.det ≠ 0 → powR X n A = powR Y n A := by
  intro n
  induction n with
  | zero => intro A _; rfl
  | succ n ih =>
    intro A dA
    unfold powR
    have e : red (A.mul X) = red (A.mul Y) := by rw [← red_mul_right dA dX, h, red_mul_right dA dY]
    rw [e, ih _ (det_red_ne (det_ne_mul dA dY))]

def pwE (g : Siiii) (k : Int) : Siiii × Int := if isM (toM g) then (if -20 ≤ k ∧ k ≤ 20 then (if k < 0 then powE (red (toM g).adj) (-k).toNat else powE (toM g) k.toNat) else (zM, 2)) else (zM, 1)

theorem isM_one : fitM 1000 one := by decide

theorem impl_PowerMatrix_f (g : Siiii) (k : Int) : impl_PowerMatrix.f g k = some (pwE g k) := by
  unfold impl_PowerMatrix.f pwE
  rw [impl_IsMatrix_f, Option.bind_some]
  by_cases h1 : isM (toM g)
  · rw [decide_eq_true h1, Bool.not_true, ifE_f, if_pos h1]
    by_cases h2 : k < -20
    · rw [ifE_pos h2, if_neg (by omega)]; rfl
    · rw [ifE_neg h2]
      by_cases h3 : k > 20
      · rw [ifE_pos h3, if_neg (by omega)]; rfl
      · rw [ifE_neg h3, impl_reduce_f h1.2 (isM_lim h1), Option.bind_some, if_pos (by omega)]
        have hr := red_fit h1.2 h1.1
        have dr := det_red_ne h1.2
        by_cases h4 : k < 0
        · rw [ifE_pos h4, if_pos h4, impl_inverted_f (g := ofM (red (toM g))) dr (fitM_mono hr (by omega)), Option.bind_some]
          have e : W (0 - k) = 0 + ((-k).toNat : Int) := by rw [W_id (by omega) (by omega)]; omega
          have er : red (red (toM g)).adj = red (toM g).adj := red_adj h1.2
          rw [toM_ofM, er, e]
          have da : (toM g).adj.det ≠ 0 := by rw [det_adj]; exact h1.2
          have := impl_PowerMatrix_l (X := red (toM g).adj) (fitM_mono (red_fit da (adj_fit h1.1)) (by omega)) (det_red_ne da) 0 0 0 0 (-k).toNat fuelN 0 one (lt_fuel (by omega)) (by omega) (by omega) isM_one (by decide)
          exact this
        · rw [ifE_neg h4, if_neg h4]
          have := impl_PowerMatrix_l (X := red (toM g)) (fitM_mono hr (by omega)) dr 0 0 0 0 k.toNat fuelN 0 one (lt_fuel (by omega)) (by omega) (by omega) isM_one (by decide)
          rw [powR_red dr h1.2 (red_red h1.2) _ _ (by decide)] at this
          rw [show (0 : Int) + (k.toNat : Int) = k from by omega] at this
          exact this
  · rw [decide_eq_false h1, if_neg h1]; rfl

theorem spec_PowerMatrix_f (g : Siiii) (k : Int) : spec_PowerMatrix.f g k = some (pwE g k) := by
  unfold spec_PowerMatrix.f pwE
  rw [spec_l04Is_f, Option.bind_some]
  by_cases h1 : isM (toM g)
  · rw [decide_eq_true h1, Bool.not_true, ifE_f, if_pos h1]
    have hin : spec_l01In.f k (-20) 20 = some (decide (-20 ≤ k ∧ k ≤ 20)) := by
      unfold spec_l01In.f
      by_cases h : k ≥ -20
      · rw [ifE_pos h]; congr 1; rw [decide_eq_decide]; omega
      · rw [ifE_neg h]; congr 1; symm; exact decide_eq_false (by omega)
    rw [hin, Option.bind_some]
    by_cases h2 : -20 ≤ k ∧ k ≤ 20
    · rw [decide_eq_true h2, if_pos h2, Bool.not_true, ifE_f]
      by_cases h4 : k < 0
      · rw [ifE_pos h4, if_pos h4, spec_l04Inverse_f h1.2 (isM_fit h1), Option.bind_some]
        have e : W (0 - k) = ((-k).toNat : Int) := by rw [W_id (by omega) (by omega)]; omega
        rw [e]
        have da : (toM g).adj.det ≠ 0 := by rw [det_adj]; exact h1.2
        exact spec_PowerMatrix_l (X := red (toM g).adj) (fitM_mono (red_fit da (adj_fit h1.1)) (by omega)) (det_red_ne da) 0 0 0 0 (-k).toNat fuelN one (lt_fuel (by omega)) (by omega) isM_one (by decide)
      · rw [ifE_neg h4, if_neg h4]
        have := spec_PowerMatrix_l (X := toM g) (isM_fit h1) h1.2 0 0 0 0 k.toNat fuelN one (lt_fuel (by omega)) (by omega) isM_one (by decide)
        rw [show (k.toNat : Int) = k from by omega] at this
        exact this
    · rw [decide_eq_false h2, if_neg h2]; rfl
  · rw [decide_eq_false h1, if_neg h1]; rfl

end Go.GenTry
