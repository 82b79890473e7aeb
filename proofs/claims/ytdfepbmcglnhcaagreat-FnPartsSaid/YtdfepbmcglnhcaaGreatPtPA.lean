import Derived.Test.YtdfepbmcglnhcaaGreatPtEC
import Derived.Test.YtdfepbmcglnhcaaGreatPtV
import Derived.Laws.BitsLemmas
import Derived.Test.YtdfepbmcglnhcaaGreatPtF
section
set_option linter.unusedVariables false
set_option linter.unusedSimpArgs false
/-! plain: parts for the printed functions -/
namespace Pl
open Go Go.Eng

theorem W_id {n : Int} (h : -9223372036854775808 ≤ n) (h' : n ≤ 9223372036854775807) : W n = n := by
  show IntKind.i64.wrap n = n
  rw [IntKind.wrap_i64]; omega
theorem ifE_t {α : Type} (a b : Option α) : ifE true a b = a := rfl
theorem ifE_f {α : Type} (a b : Option α) : ifE false a b = b := rfl
theorem ifE_pos {α : Type} {p : Prop} [Decidable p] (h : p) (a b : Option α) : ifE (decide p) a b = a := by rw [decide_eq_true h]; rfl
theorem ifE_neg {α : Type} {p : Prop} [Decidable p] (h : ¬ p) (a b : Option α) : ifE (decide p) a b = b := by rw [decide_eq_false h]; rfl
theorem guardE_pos {α : Type} {p : Prop} [Decidable p] (h : p) (a : Option α) : guardE p a = a := if_pos h
theorem fuel_succ (n : Nat) (h : n ≤ 1000) : ∃ k, fuelN = k + n := ⟨fuelN - n, by unfold fuelN; omega⟩
theorem lt_fuel {n : Nat} (h : n < 18446744073709551616) : n < fuelN := by unfold fuelN; omega

theorem bne_ne {a b : Int} (h : a ≠ b) : (a != b) = true := by simp [h]
theorem bne_eq {a b : Int} (h : a = b) : (a != b) = false := by simp [h]
theorem beq_ne {a b : Int} (h : a ≠ b) : (a == b) = false := by simp [h]

theorem getE_some {α : Type} {l : List α} {i : Int} (h0 : 0 ≤ i) (h1 : i < l.length) : ∃ x, getE l i = some x ∧ l[i.toNat]? = some x ∧ x ∈ l := by
  have hlt : i.toNat < l.length := by omega
  refine ⟨l[i.toNat], ?_, by simp [hlt], by simp⟩
  unfold getE; rw [if_pos h0]; simp [hlt]
theorem getE_nat {α : Type} {l : List α} {i : Nat} (h1 : i < l.length) : getE l (i : Int) = some l[i] := by
  unfold getE; rw [if_pos (by omega)]; simp [h1]

theorem imax_neg {a : Int} : imax a (-a) = (a.natAbs : Int) := by unfold imax; split <;> omega

/-- the greatest common divisor, as both programs find it -/
theorem gcd_step (a b : Int) (hb : b ≠ 0) : Int.gcd b (Int.tmod a b) = Int.gcd a b := by
  unfold Int.gcd
  rw [Int.natAbs_tmod, Nat.gcd_comm b.natAbs, ← Nat.gcd_rec, Nat.gcd_comm]
  
theorem tmod_lt (a b : Int) (hb : b ≠ 0) : (Int.tmod a b).natAbs < b.natAbs := by
  rw [Int.natAbs_tmod]; exact Nat.mod_lt _ (by omega)
theorem tmod_le (a b : Int) : (Int.tmod a b).natAbs ≤ a.natAbs := by
  rw [Int.natAbs_tmod]; exact Nat.mod_le _ _

end Pl
end
section
set_option linter.unusedVariables false
set_option linter.unusedSimpArgs false
/-! plain: what the matrix functions of both programs answer -/
namespace Go.Gn
open Go Go.Eng Pl Pl.M2

def big (x : Int) : Prop := -4611686018427387904 ≤ x ∧ x ≤ 4611686018427387904
/-- a matrix of the program -/
def toM (g : Siiii) : M2 := ⟨g.c0, g.c1, g.c2, g.c3⟩
def ofM (X : M2) : Siiii := ⟨X.a, X.b, X.c, X.d⟩
def small (m x : Int) : Prop := -m ≤ x ∧ x ≤ m
def fitM (m : Int) (X : M2) : Prop := small m X.a ∧ small m X.b ∧ small m X.c ∧ small m X.d
instance (m x : Int) : Decidable (small m x) := inferInstanceAs (Decidable (_ ∧ _))
instance (m : Int) (X : M2) : Decidable (fitM m X) := inferInstanceAs (Decidable (_ ∧ _))
def isM (X : M2) : Prop := fitM 1000 X ∧ X.det ≠ 0
instance (X : M2) : Decidable (isM X) := inferInstanceAs (Decidable (_ ∧ _))

theorem impl_gcd_l : ∀ (k : Nat) (a b : Int), b.natAbs < k → big a → big b → impl_gcd.l1 k a b = some (Int.gcd a b : Int) := by
  intro k
  induction k with
  | zero => intro a b h; omega
  | succ k ih =>
    intro a b h ha hb
    simp only [impl_gcd.l1, impl_gcd.s1]
    by_cases h0 : b = 0
    · subst h0
      unfold big at ha
      rw [bne_eq rfl, ifE_f, W_id (by omega) (by omega), Int.zero_sub, imax_neg]
      simp
    · have h1 := tmod_lt a b h0
      unfold big at *
      rw [bne_ne h0, ifE_t, guardE_pos h0, ih b _ (by omega) hb (by omega), gcd_step a b h0]
theorem impl_gcd_f {a b : Int} (ha : big a) (hb : big b) : impl_gcd.f a b = some (Int.gcd a b : Int) := by
  unfold impl_gcd.f; exact impl_gcd_l _ _ _ (by unfold big at hb; exact lt_fuel (by omega)) ha hb

theorem spec_gcd_l : ∀ (k : Nat) (a b : Int), b.natAbs < k → big a → big b → spec_l01Gcd.l1 k a b = some (Int.gcd a b : Int) := by
  intro k
  induction k with
  | zero => intro a b h; omega
  | succ k ih =>
    intro a b h ha hb
    simp only [spec_l01Gcd.l1, spec_l01Gcd.s1]
    by_cases h0 : b = 0
    · subst h0
      unfold big at ha
      rw [bne_eq rfl, ifE_f, W_id (by omega) (by omega), Int.zero_sub, imax_neg]
      simp
    · have h1 := tmod_lt a b h0
      unfold big at *
      rw [bne_ne h0, ifE_t, guardE_pos h0, ih b _ (by omega) hb (by omega), gcd_step a b h0]
theorem spec_gcd_f {a b : Int} (ha : big a) (hb : big b) : spec_l01Gcd.f a b = some (Int.gcd a b : Int) := by
  unfold spec_l01Gcd.f; exact spec_gcd_l _ _ _ (by unfold big at hb; exact lt_fuel (by omega)) ha hb

theorem impl_within_l {m : Int} {l : List Int} (hm : 0 ≤ m ∧ m ≤ 1000000000000000000) (hl : l.length ≤ 1000000000000) : ∀ (k i : Nat), l.length - i < k → i ≤ l.length →
    impl_within.l2 k m l (l.length : Int) (i : Int) = some ((l.drop i).all fun x => decide (small m x)) := by
  intro k
  have hw : W (0 - m) = -m := by rw [W_id (by omega) (by omega)]; omega
  induction k with
  | zero => intro i h; omega
  | succ k ih =>
    intro i h hi
    simp only [impl_within.l2, impl_within.s2, hw]
    by_cases hlt : i < l.length
    · rw [ifE_pos (by omega), getE_nat hlt, Option.bind_some, List.drop_eq_getElem_cons hlt, List.all_cons]
      have e : W ((i : Int) + 1) = ((i + 1 : Nat) : Int) := by rw [W_id (by omega) (by omega)]; omega
      rw [e]
      by_cases h1 : l[i] < -m
      · rw [ifE_pos h1]
        have : decide (small m l[i]) = false := decide_eq_false (by unfold small; omega)
        rw [this]; rfl
      · rw [ifE_neg h1]
        by_cases h2 : l[i] > m
        · rw [ifE_pos h2]
          have : decide (small m l[i]) = false := decide_eq_false (by unfold small; omega)
          rw [this]; rfl
        · rw [ifE_neg h2, ih (i + 1) (by omega) (by omega)]
          have : decide (small m l[i]) = true := decide_eq_true (by unfold small; omega)
          rw [this]; rfl
    · rw [ifE_neg (by omega), List.drop_eq_nil_of_le (by omega)]; rfl
theorem impl_within_f {m : Int} {l : List Int} (hm : 0 ≤ m ∧ m ≤ 1000000000000000000) (hl : l.length ≤ 1000000000000) : impl_within.f m l = some (l.all fun x => decide (small m x)) := by
  unfold impl_within.f
  exact impl_within_l hm hl fuelN 0 (lt_fuel (by omega)) (by omega)

theorem small_big {x : Int} (h : small 1000 x) : -1000 ≤ x ∧ x ≤ 1000 := h
theorem mul_small {m n x y : Int} (hx : small m x) (hy : small n y) (hm : 0 ≤ m) : small (m * n) (x * y) := by
  unfold small at *
  have h1 : (x * y).natAbs = x.natAbs * y.natAbs := Int.natAbs_mul _ _
  have h2 : x.natAbs * y.natAbs ≤ m.natAbs * n.natAbs := Nat.mul_le_mul (by omega) (by omega)
  have h3 : ((m.natAbs * n.natAbs : Nat) : Int) = m * n := by
    rw [Int.natCast_mul]
    have : (m.natAbs : Int) = m := by omega
    have : (n.natAbs : Int) = n := by omega
    simp [*]
  omega

theorem det_W {g : Siiii} {m : Int} (hm : 0 ≤ m ∧ m ≤ 2000000000) (h : fitM m (toM g)) : W ((W (g.c0 * g.c3)) - (W (g.c1 * g.c2))) = (toM g).det := by
  obtain ⟨h1, h2, h3, h4⟩ := h
  have e1 := mul_small h1 h4 hm.1
  have e2 := mul_small h2 h3 hm.1
  have hmm : m * m ≤ 2000000000 * 2000000000 := Int.mul_le_mul hm.2 hm.2 hm.1 (by omega)
  unfold small at e1 e2
  simp only [toM] at e1 e2
  rw [W_id (n := g.c0 * g.c3) (by omega) (by omega), W_id (n := g.c1 * g.c2) (by omega) (by omega), W_id (by omega) (by omega)]
  rfl

theorem impl_IsMatrix_f (g : Siiii) : impl_IsMatrix.f g = some (decide (isM (toM g))) := by
  unfold impl_IsMatrix.f impl_determinant.f
  rw [impl_within_f (by omega) (by simp), Option.bind_some]
  by_cases h : fitM 1000 (toM g)
  · have e : ([g.c0, g.c1, g.c2, g.c3].all fun x => decide (small 1000 x)) = true := by
      obtain ⟨h1, h2, h3, h4⟩ := h
      simp only [toM] at h1 h2 h3 h4
      simp [h1, h2, h3, h4]
    rw [e, ifE_t, Option.bind_some, det_W (m := 1000) (by omega) h]
    by_cases h0 : (toM g).det = 0
    · rw [bne_eq h0]; congr 1; symm; rw [decide_eq_false_iff_not]; exact fun hh => hh.2 h0
    · rw [bne_ne h0]; congr 1; symm; rw [decide_eq_true_iff]; exact ⟨h, h0⟩
  · have e : ([g.c0, g.c1, g.c2, g.c3].all fun x => decide (small 1000 x)) = false := by
      rw [Bool.eq_false_iff]
      intro hh
      apply h
      simp only [List.all_cons, List.all_nil, Bool.and_true, Bool.and_eq_true, decide_eq_true_eq] at hh
      exact ⟨hh.1, hh.2.1, hh.2.2.1, hh.2.2.2⟩
    rw [e, ifE_f]; congr 1; symm; rw [decide_eq_false_iff_not]; exact fun hh => h hh.1

theorem spec_l04Is_f (g : Siiii) : spec_l04Is.f g = some (decide (isM (toM g))) := by
  obtain ⟨k, hk⟩ := fuel_succ 4 (by omega)
  have hin : ∀ x : Int, spec_l01In.f x (-1000) 1000 = some (decide (small 1000 x)) := by
    intro x
    unfold spec_l01In.f
    by_cases h : x ≥ -1000
    · rw [ifE_pos h]; congr 1; rw [decide_eq_decide]; unfold small; omega
    · rw [ifE_neg h]; congr 1; symm; exact decide_eq_false (by unfold small; omega)
  have hd : ∀ (h : fitM 1000 (toM g)), spec_l04Det.f g = some (toM g).det := fun h => by
    unfold spec_l04Det.f; rw [det_W (m := 1000) (by omega) h]
  unfold spec_l04Is.f
  simp only [hk, spec_l04Is.l2, spec_l04Is.s2, spec_l04Is.l5, spec_l04Is.s5, hin, Option.bind_some]
  by_cases h1 : small 1000 g.c0
  case neg => simp [W_id, ifE_t, ifE_f, h1, isM, fitM, toM]
  by_cases h2 : small 1000 g.c1
  case neg => simp [W_id, ifE_t, ifE_f, h1, h2, isM, fitM, toM]
  by_cases h3 : small 1000 g.c2
  case neg => simp [W_id, ifE_t, ifE_f, h1, h2, h3, isM, fitM, toM]
  by_cases h4 : small 1000 g.c3
  case neg => simp [W_id, ifE_t, ifE_f, h1, h2, h3, h4, isM, fitM, toM]
  have hf : fitM 1000 (toM g) := ⟨h1, h2, h3, h4⟩
  have hd := hd hf
  simp [W_id, ifE_t, ifE_f, h1, h2, h3, h4, hd]
  by_cases h0 : (toM g).det = 0
  · rw [bne_eq h0]; symm; rw [decide_eq_false_iff_not]; exact fun hh => hh.2 h0
  · rw [bne_ne h0]; symm; rw [decide_eq_true_iff]; exact ⟨hf, h0⟩

theorem small_mono {m n x : Int} (h : small m x) (hmn : m ≤ n) : small n x := by unfold small at *; omega
theorem fitM_mono {m n : Int} {X : M2} (h : fitM m X) (hmn : m ≤ n) : fitM n X := ⟨small_mono h.1 hmn, small_mono h.2.1 hmn, small_mono h.2.2.1 hmn, small_mono h.2.2.2 hmn⟩
theorem red_fit {X : M2} {m : Int} (h : X.det ≠ 0) (hb : fitM m X) : fitM m (red X) := red_le h hb.1 hb.2.1 hb.2.2.1 hb.2.2.2
theorem isM_red {X : M2} (h : X.det ≠ 0) : isM (red X) ↔ fitM 1000 (red X) := ⟨fun h => h.1, fun h' => ⟨h', det_red_ne h⟩⟩
theorem toM_ofM (X : M2) : toM (ofM X) = X := rfl
theorem ofM_toM (g : Siiii) : ofM (toM g) = g := rfl
theorem toM_inj {g h : Siiii} (e : toM g = toM h) : g = h := by rw [← ofM_toM g, e]; rfl

def lim : Int := 1000000000000000

theorem red_W {X : M2} (hb : fitM lim X) (h : X.det ≠ 0) {k : Int} (hk : k = X.kof) : W (Int.tdiv X.a k) = (red X).a ∧ W (Int.tdiv X.b k) = (red X).b ∧ W (Int.tdiv X.c k) = (red X).c ∧ W (Int.tdiv X.d k) = (red X).d := by
  subst hk
  have hd := kof_dvd X
  have hf := red_fit h hb
  unfold fitM small lim red at hf
  simp only at hf
  rw [tdiv_eq hd.1, tdiv_eq hd.2.1, tdiv_eq hd.2.2.1, tdiv_eq hd.2.2.2]
  exact ⟨W_id (by omega) (by omega), W_id (by omega) (by omega), W_id (by omega) (by omega), W_id (by omega) (by omega)⟩

theorem fit_big {X : M2} {m : Int} (h : fitM m X) (hm : m ≤ 4611686018427387904) : big X.a ∧ big X.b ∧ big X.c ∧ big X.d := by
  unfold fitM small big at *; omega

theorem cont_le {X : M2} {m : Int} (h : X.det ≠ 0) (hb : fitM m X) : 0 < X.cont ∧ X.cont ≤ m := by
  have h0 := cont_ne h
  have h1 : 0 ≤ X.cont := by unfold cont; omega
  have hd := (dvd_cont X.cont X).1 (Int.dvd_refl _)
  refine ⟨by omega, ?_⟩
  have key : ∀ x, x ≠ 0 → small m x → X.cont ∣ x → X.cont ≤ m := by
    intro x hx hs hdv
    have := Int.le_of_dvd (b := x.natAbs) (by omega) (Int.dvd_natAbs.2 hdv)
    unfold small at hs; omega
  rcases row_ne h with ha | hb'
  · exact key _ ha hb.1 hd.1
  · exact key _ hb' hb.2.1 hd.2.1

theorem gcd_big {a b : Int} (ha : big a) (hb : big b) : big (Int.gcd a b : Int) := by
  unfold big at *
  have h1 : a ≠ 0 → (Int.gcd a b : Int) ≤ a.natAbs := fun h => Int.le_of_dvd (by omega) (Int.dvd_natAbs.2 (Int.gcd_dvd_left ..))
  have h2 : b ≠ 0 → (Int.gcd a b : Int) ≤ b.natAbs := fun h => Int.le_of_dvd (by omega) (Int.dvd_natAbs.2 (Int.gcd_dvd_right ..))
  by_cases h3 : a = 0
  · by_cases h4 : b = 0
    · subst h3; subst h4; simp
    · have := h2 h4; omega
  · have := h1 h3; omega

theorem impl_reduced_f {g : Siiii} (h : (toM g).det ≠ 0) (hb : fitM lim (toM g)) : impl_reduced.f g = some (ofM (red (toM g)), decide (fitM 1000 (red (toM g)))) := by
  obtain ⟨b1, b2, b3, b4⟩ := fit_big hb (by unfold lim; omega)
  simp only [toM] at b1 b2 b3 b4
  have hc := cont_le h hb
  have hcont : (Int.gcd (Int.gcd g.c0 g.c1 : Int) (Int.gcd g.c2 g.c3 : Int) : Int) = (toM g).cont := rfl
  unfold impl_reduced.f
  rw [impl_gcd_f b1 b2, Option.bind_some, impl_gcd_f b3 b4, Option.bind_some, impl_gcd_f (gcd_big b1 b2) (gcd_big b3 b4), Option.bind_some, hcont]
  have hm : decide (isM (red (toM g))) = decide (fitM 1000 (red (toM g))) := decide_eq_decide.2 (isM_red h)
  have key : ∀ k : Int, k = (toM g).kof → (guardE (k ≠ 0) <| guardE (k ≠ 0) <| guardE (k ≠ 0) <| guardE (k ≠ 0) <|
      (impl_IsMatrix.f (⟨W (Int.tdiv g.c0 k), W (Int.tdiv g.c1 k), W (Int.tdiv g.c2 k), W (Int.tdiv g.c3 k)⟩ : Siiii)).bind fun r4 =>
      some ((⟨W (Int.tdiv g.c0 k), W (Int.tdiv g.c1 k), W (Int.tdiv g.c2 k), W (Int.tdiv g.c3 k)⟩ : Siiii), r4)) = some (ofM (red (toM g)), decide (fitM 1000 (red (toM g)))) := by
    intro k hk
    have h0 : k ≠ 0 := by rw [hk]; exact kof_ne h
    obtain ⟨e1, e2, e3, e4⟩ := red_W hb h hk
    simp only [toM] at e1 e2 e3 e4
    rw [guardE_pos h0, guardE_pos h0, guardE_pos h0, guardE_pos h0, e1, e2, e3, e4]
    have e5 : (⟨(red (toM g)).a, (red (toM g)).b, (red (toM g)).c, (red (toM g)).d⟩ : Siiii) = ofM (red (toM g)) := rfl
    have e6 : impl_IsMatrix.f (ofM (red (toM g))) = some (decide (fitM 1000 (red (toM g)))) := by rw [impl_IsMatrix_f, toM_ofM, hm]
    simp only [toM] at e5 e6 ⊢
    rw [e5, e6, Option.bind_some]
  have hW : W (0 - (toM g).cont) = -(toM g).cont := by unfold lim at hc; rw [W_id (by omega) (by omega)]; omega
  by_cases h1 : g.c0 < 0
  · rw [ifE_pos h1, hW]
    refine key _ ?_
    unfold kof sgn; rw [if_pos (.inl h1)]; omega
  · rw [ifE_neg h1]
    by_cases h2 : g.c0 = 0
    · rw [show (g.c0 == 0) = true from by simp [h2], ifE_t]
      by_cases h3 : g.c1 < 0
      · rw [ifE_pos h3, hW]
        refine key _ ?_
        unfold kof sgn; rw [if_pos (.inr ⟨h2, h3⟩)]; omega
      · rw [ifE_neg h3]
        refine key _ ?_
        unfold kof sgn; rw [if_neg (by rintro (hh | ⟨_, hh⟩); exact h1 hh; exact h3 hh)]; omega
    · rw [beq_ne h2, ifE_f]
      refine key _ ?_
      unfold kof sgn; rw [if_neg (by rintro (hh | ⟨hh, _⟩); exact h1 hh; exact h2 hh)]; omega

theorem list4 (a b c d : Int) : getE [a, b, c, d] 0 = some a ∧ getE [a, b, c, d] 1 = some b ∧ getE [a, b, c, d] 2 = some c ∧ getE [a, b, c, d] 3 = some d := ⟨rfl, rfl, rfl, rfl⟩

theorem tdiv_abs {e : Int} (h : e ≠ 0) : Int.tdiv e (e.natAbs : Int) = Int.sign e := by
  rcases Int.lt_or_gt_of_ne h with h1 | h1
  · have h2 : (e.natAbs : Int) = -e := by omega
    rw [h2, Int.tdiv_neg, Int.tdiv_self h, Int.sign_eq_neg_one_of_neg h1]
  · have h2 : (e.natAbs : Int) = e := by omega
    rw [h2, Int.tdiv_self h, Int.sign_eq_one_of_pos h1]

theorem l04_step {k : Nat} {v5 v6 e i i' z0 z1 z2 z3 : Int} {l : List Int} (hi : getE l i = some e) (h4 : i < 4) (hw : W (i + 1) = i') (he : big e) (hv : big v5) :
    spec_l04Reduce.l4 (k + 1) v5 v6 i z0 z1 z2 z3 l = spec_l04Reduce.l4 k (Int.gcd v5 e : Int) (if v6 = 0 then Int.sign e else v6) i' z0 z1 z2 z3 l := by
  have habs : imax e (W (0 - e)) = (e.natAbs : Int) := by unfold big at he; rw [W_id (by omega) (by omega), Int.zero_sub, imax_neg]
  have hbig : big (e.natAbs : Int) := by unfold big at *; omega
  have hg : (Int.gcd v5 (e.natAbs : Int) : Int) = (Int.gcd v5 e : Int) := by simp [Int.gcd]
  simp only [spec_l04Reduce.l4, spec_l04Reduce.s4, hi, Option.bind_some, habs, hw]
  rw [ifE_pos h4, spec_gcd_f hv hbig, Option.bind_some, hg]
  by_cases h6 : v6 = 0
  · subst h6
    rw [show ((0 : Int) == 0) = true from rfl, ifE_t, if_pos rfl]
    by_cases h0 : e = 0
    · subst h0; rfl
    · rw [bne_ne h0, ifE_t, guardE_pos (by omega), tdiv_abs h0]
      have : W (Int.sign e) = Int.sign e := by
        have := Int.sign_eq_neg_one_of_neg (a := e)
        have := Int.sign_eq_one_of_pos (a := e)
        rw [W_id (by omega) (by omega)]
      rw [this]
  · rw [beq_ne h6, ifE_f, if_neg h6]

theorem l04_out {k : Nat} {D s e i i' z0 z1 z2 z3 : Int} {ok : Bool} {l l' : List Int} (hi : getE l i = some e) (h4 : i < 4) (hw : W (i + 1) = i') (hD : D ≠ 0) {y : Int} (hy : W ((W (Int.tdiv e D)) * s) = y) (hl : l.set (Int.toNat i) y = l') (hg : getE l' i = some y) :
    spec_l04Reduce.l12 (k + 1) D s ok i z0 z1 z2 z3 l = spec_l04Reduce.l12 k D s (ok && decide (small 1000 y)) i' z0 z1 z2 z3 l' := by
  have hin : ∀ x : Int, spec_l01In.f x (-1000) 1000 = some (decide (small 1000 x)) := by
    intro x
    unfold spec_l01In.f
    by_cases h : x ≥ -1000
    · rw [ifE_pos h]; congr 1; rw [decide_eq_decide]; unfold small; omega
    · rw [ifE_neg h]; congr 1; symm; exact decide_eq_false (by unfold small; omega)
  simp only [spec_l04Reduce.l12, spec_l04Reduce.s12, hi, Option.bind_some, hw, hy, hl, hg, hin]
  rw [ifE_pos h4, guardE_pos hD]
  cases ok
  · rw [ifE_f]; simp
  · rw [ifE_t]; simp

theorem spec_l04Reduce_f {g : Siiii} (h : (toM g).det ≠ 0) (hb : fitM lim (toM g)) : spec_l04Reduce.f g = some (ofM (red (toM g)), decide (fitM 1000 (red (toM g)))) := by
  obtain ⟨b1, b2, b3, b4⟩ := fit_big hb (by unfold lim; omega)
  simp only [toM] at b1 b2 b3 b4
  have hc := cont_le h hb
  obtain ⟨g1, g2, g3, g4⟩ := list4 g.c0 g.c1 g.c2 g.c3
  obtain ⟨k, hk⟩ := fuel_succ 5 (by omega)
  have z0 : big 0 := by unfold big; omega
  have y1 := gcd_big z0 b1
  have y2 := gcd_big y1 b2
  have y3 := gcd_big y2 b3
  unfold spec_l04Reduce.f
  rw [hk, l04_step g1 (by omega) (i' := 1) (W_id (by omega) (by omega)) b1 z0, l04_step g2 (by omega) (i' := 2) (W_id (by omega) (by omega)) b2 y1,
    l04_step g3 (by omega) (i' := 3) (W_id (by omega) (by omega)) b3 y2, l04_step g4 (by omega) (i' := 4) (W_id (by omega) (by omega)) b4 y3]
  have hD : ((Int.gcd (Int.gcd (Int.gcd (Int.gcd 0 g.c0 : Int) g.c1 : Int) g.c2 : Int) g.c3 : Nat) : Int) = (toM g).cont := by
    unfold cont toM
    simp only [Int.gcd, Int.natAbs_zero, Nat.gcd_zero_left, Int.natAbs_natCast, Nat.gcd_assoc]
  have hs : (if (if (if (if (0 : Int) = 0 then Int.sign g.c0 else 0) = 0 then Int.sign g.c1 else (if (0 : Int) = 0 then Int.sign g.c0 else 0)) = 0 then Int.sign g.c2 else (if (if (0 : Int) = 0 then Int.sign g.c0 else 0) = 0 then Int.sign g.c1 else (if (0 : Int) = 0 then Int.sign g.c0 else 0))) = 0 then Int.sign g.c3 else (if (if (if (0 : Int) = 0 then Int.sign g.c0 else 0) = 0 then Int.sign g.c1 else (if (0 : Int) = 0 then Int.sign g.c0 else 0)) = 0 then Int.sign g.c2 else (if (if (0 : Int) = 0 then Int.sign g.c0 else 0) = 0 then Int.sign g.c1 else (if (0 : Int) = 0 then Int.sign g.c0 else 0)))) = (toM g).sgn := by
    have hr := row_ne h
    simp only [if_true, toM] at *
    unfold sgn
    simp only
    by_cases ha : g.c0 = 0
    · have hb' : g.c1 ≠ 0 := by rcases hr with hh | hh; exact absurd ha hh; exact hh
      have hb0 : Int.sign g.c1 ≠ 0 := by rw [Ne, Int.sign_eq_zero_iff_zero]; exact hb'
      rw [ha]
      simp [hb0]
      rcases Int.lt_or_gt_of_ne hb' with h1 | h1
      · rw [if_pos h1, Int.sign_eq_neg_one_of_neg h1]
      · rw [if_neg (by omega), Int.sign_eq_one_of_pos h1]
    · have ha0 : Int.sign g.c0 ≠ 0 := by rw [Ne, Int.sign_eq_zero_iff_zero]; exact ha
      simp [ha0, ha]
      rcases Int.lt_or_gt_of_ne ha with h1 | h1
      · rw [if_pos h1, Int.sign_eq_neg_one_of_neg h1]
      · rw [if_neg (by omega), Int.sign_eq_one_of_pos h1]
  rw [hD, hs]
  have hend : spec_l04Reduce.l4 (k + 1) (toM g).cont (toM g).sgn 4 0 0 0 0 [g.c0, g.c1, g.c2, g.c3] = spec_l04Reduce.l12 fuelN (toM g).cont (toM g).sgn true 0 0 0 0 0 [g.c0, g.c1, g.c2, g.c3] := by
    have hcc : imax (toM g).cont (W (0 - (toM g).cont)) = (toM g).cont := by
      unfold lim at hc
      rw [W_id (by omega) (by omega), Int.zero_sub, imax_neg]; omega
    simp only [spec_l04Reduce.l4, spec_l04Reduce.s4, hcc]
    rw [ifE_neg (by omega)]
  rw [hend, hk]
  have hdv := (dvd_cont (toM g).cont (toM g)).1 (Int.dvd_refl _)
  have hf := red_fit h hb
  have hkd := kof_dvd (toM g)
  have val : ∀ e : Int, (toM g).cont ∣ e → small lim (e / (toM g).kof) → W ((W (Int.tdiv e (toM g).cont)) * (toM g).sgn) = e / (toM g).kof := by
    rintro e ⟨y, rfl⟩ hsm
    have hk0 := kof_ne h
    have e1 : (toM g).cont * y / (toM g).kof = y * (toM g).sgn := by
      unfold kof
      rcases sgn_ne (toM g) with hh | hh
      · rw [hh, Int.one_mul, Int.mul_ediv_cancel_left _ (by omega)]; omega
      · rw [hh]
        have : (-1 : Int) * (toM g).cont = -(toM g).cont := by omega
        rw [this, Int.ediv_neg, Int.mul_ediv_cancel_left _ (by omega)]; omega
    have hy : small lim y := by
      rw [e1] at hsm
      unfold small at *
      rcases sgn_ne (toM g) with hh | hh <;> rw [hh] at hsm <;> omega
    have hm : small lim (y * (toM g).sgn) := by rw [← e1]; exact hsm
    rw [e1, Int.mul_tdiv_cancel_left _ (by omega)]
    unfold small lim at hy hm
    rw [W_id (n := y) (by omega) (by omega), W_id (by omega) (by omega)]
  have v1 := val g.c0 hdv.1 hf.1
  have v2 := val g.c1 hdv.2.1 hf.2.1
  have v3 := val g.c2 hdv.2.2.1 hf.2.2.1
  have v4 := val g.c3 hdv.2.2.2 hf.2.2.2
  have hc0 : (toM g).cont ≠ 0 := by omega
  rw [l04_out g1 (by omega) (i' := 1) (W_id (by omega) (by omega)) hc0 v1 (l' := [g.c0 / (toM g).kof, g.c1, g.c2, g.c3]) rfl rfl,
    l04_out (e := g.c1) rfl (by omega) (i' := 2) (W_id (by omega) (by omega)) hc0 v2 (l' := [g.c0 / (toM g).kof, g.c1 / (toM g).kof, g.c2, g.c3]) rfl rfl,
    l04_out (e := g.c2) rfl (by omega) (i' := 3) (W_id (by omega) (by omega)) hc0 v3 (l' := [g.c0 / (toM g).kof, g.c1 / (toM g).kof, g.c2 / (toM g).kof, g.c3]) rfl rfl,
    l04_out (e := g.c3) rfl (by omega) (i' := 4) (W_id (by omega) (by omega)) hc0 v4 (l' := [g.c0 / (toM g).kof, g.c1 / (toM g).kof, g.c2 / (toM g).kof, g.c3 / (toM g).kof]) rfl rfl]
  have e : ∀ ok : Bool, spec_l04Reduce.l12 (k + 1) (toM g).cont (toM g).sgn ok 4 0 0 0 0 [g.c0 / (toM g).kof, g.c1 / (toM g).kof, g.c2 / (toM g).kof, g.c3 / (toM g).kof] = some (ofM (red (toM g)), ok) := by
    intro ok
    simp only [spec_l04Reduce.l12, spec_l04Reduce.s12]
    rw [ifE_neg (by omega)]
    rfl
  rw [e]
  congr 2
  rw [Bool.true_and, Bool.and_assoc, Bool.and_assoc, ← Bool.decide_and, ← Bool.decide_and, ← Bool.decide_and]
  rfl

/-! products, inverses -/
theorem mul_fit {X Y : M2} {m n : Int} (hm : 0 ≤ m) (hX : fitM m X) (hY : fitM n Y) : fitM (2 * (m * n)) (X.mul Y) := by
  obtain ⟨x1, x2, x3, x4⟩ := hX
  obtain ⟨y1, y2, y3, y4⟩ := hY
  have a := mul_small x1 y1 hm
  have b := mul_small x2 y3 hm
  have c := mul_small x1 y2 hm
  have d := mul_small x2 y4 hm
  have e := mul_small x3 y1 hm
  have f := mul_small x4 y3 hm
  have g := mul_small x3 y2 hm
  have h := mul_small x4 y4 hm
  unfold fitM small M2.mul at *
  refine ⟨?_, ?_, ?_, ?_⟩ <;> simp only <;> omega

theorem mul_W {g h : Siiii} (hg : fitM 20000000 (toM g)) (hh : fitM 20000000 (toM h)) :
    (⟨W ((W (g.c0 * h.c0)) + (W (g.c1 * h.c2))), W ((W (g.c0 * h.c1)) + (W (g.c1 * h.c3))), W ((W (g.c2 * h.c0)) + (W (g.c3 * h.c2))), W ((W (g.c2 * h.c1)) + (W (g.c3 * h.c3)))⟩ : Siiii) = ofM ((toM g).mul (toM h)) := by
  obtain ⟨x1, x2, x3, x4⟩ := hg
  obtain ⟨y1, y2, y3, y4⟩ := hh
  have hm : (0 : Int) ≤ 20000000 := by omega
  have a := mul_small x1 y1 hm
  have b := mul_small x2 y3 hm
  have c := mul_small x1 y2 hm
  have d := mul_small x2 y4 hm
  have e := mul_small x3 y1 hm
  have f := mul_small x4 y3 hm
  have i := mul_small x3 y2 hm
  have j := mul_small x4 y4 hm
  unfold small at *
  simp only [toM] at *
  unfold ofM M2.mul
  simp only
  rw [W_id (n := g.c0 * h.c0) (by omega) (by omega), W_id (n := g.c1 * h.c2) (by omega) (by omega), W_id (n := g.c0 * h.c1) (by omega) (by omega), W_id (n := g.c1 * h.c3) (by omega) (by omega),
    W_id (n := g.c2 * h.c0) (by omega) (by omega), W_id (n := g.c3 * h.c2) (by omega) (by omega), W_id (n := g.c2 * h.c1) (by omega) (by omega), W_id (n := g.c3 * h.c3) (by omega) (by omega),
    W_id (by omega) (by omega), W_id (by omega) (by omega), W_id (by omega) (by omega), W_id (by omega) (by omega)]

theorem fit_lim {X : M2} {m : Int} (h : fitM m X) (hm : m ≤ lim) : fitM lim X := fitM_mono h hm

theorem impl_product_f {g h : Siiii} (hg : fitM 20000000 (toM g)) (hh : fitM 20000000 (toM h)) (dg : (toM g).det ≠ 0) (dh : (toM h).det ≠ 0) :
    impl_product.f g h = some (ofM (red ((toM g).mul (toM h))), decide (fitM 1000 (red ((toM g).mul (toM h))))) := by
  unfold impl_product.f
  rw [mul_W hg hh, impl_reduced_f (g := ofM ((toM g).mul (toM h))) (det_ne_mul dg dh) (fit_lim (mul_fit (by omega) hg hh) (by unfold lim; omega))]
  rfl

theorem isM_det {g : Siiii} (h : isM (toM g)) : (toM g).det ≠ 0 := h.2
theorem isM_fit {g : Siiii} (h : isM (toM g)) : fitM 20000000 (toM g) := fitM_mono h.1 (by omega)
theorem isM_lim {g : Siiii} (h : isM (toM g)) : fitM lim (toM g) := fitM_mono h.1 (by unfold lim; omega)

theorem neg_W {x : Int} (h : small 20000000 x) : W (0 - x) = -x := by unfold small at h; rw [W_id (by omega) (by omega)]; omega

theorem adj_fit {X : M2} {m : Int} (h : fitM m X) : fitM m X.adj := by
  unfold fitM small M2.adj at *; simp only; omega

theorem impl_reduce_f {g : Siiii} (h : (toM g).det ≠ 0) (hb : fitM lim (toM g)) : impl_reduce.f g = some (ofM (red (toM g))) := by
  unfold impl_reduce.f; rw [impl_reduced_f h hb]; rfl

theorem impl_inverted_f {g : Siiii} (h : (toM g).det ≠ 0) (hb : fitM 20000000 (toM g)) : impl_inverted.f g = some (ofM (red (toM g).adj)) := by
  unfold impl_inverted.f
  have e : (⟨g.c3, W (0 - g.c1), W (0 - g.c2), g.c0⟩ : Siiii) = ofM (toM g).adj := by rw [neg_W (x := g.c1) hb.2.1, neg_W (x := g.c2) hb.2.2.1]; rfl
  rw [e, impl_reduce_f (g := ofM (toM g).adj) (by rw [toM_ofM, det_adj]; exact h) (fit_lim (adj_fit hb) (by unfold lim; omega))]
  rfl

theorem spec_l04Inverse_f {g : Siiii} (h : (toM g).det ≠ 0) (hb : fitM 20000000 (toM g)) : spec_l04Inverse.f g = some (ofM (red (toM g).adj)) := by
  unfold spec_l04Inverse.f
  have e : (⟨g.c3, W (0 - g.c1), W (0 - g.c2), g.c0⟩ : Siiii) = ofM (toM g).adj := by rw [neg_W (x := g.c1) hb.2.1, neg_W (x := g.c2) hb.2.2.1]; rfl
  rw [e, spec_l04Reduce_f (g := ofM (toM g).adj) (by rw [toM_ofM, det_adj]; exact h) (fit_lim (adj_fit hb) (by unfold lim; omega))]
  rfl

theorem spec_l04Times_f {g h : Siiii} (hg : fitM 20000000 (toM g)) (hh : fitM 20000000 (toM h)) (dg : (toM g).det ≠ 0) (dh : (toM h).det ≠ 0) :
    spec_l04Times.f g h = some (ofM (red ((toM g).mul (toM h))), decide (fitM 1000 (red ((toM g).mul (toM h))))) := by
  obtain ⟨k, hk⟩ := fuel_succ 4 (by omega)
  have hr := spec_l04Reduce_f (g := ofM ((toM g).mul (toM h))) (det_ne_mul dg dh) (fit_lim (mul_fit (by omega) hg hh) (by unfold lim; omega))
  rw [toM_ofM] at hr
  have hm := mul_W hg hh
  unfold spec_l04Times.f
  rw [hk]
  simp only [spec_l04Times.l3, spec_l04Times.s3, hk, spec_l04Times.l6, spec_l04Times.s6]
  simp [W_id, ifE_t, ifE_f]
  rw [hm, hr]
  rfl


/-! the exported functions -/
def zM : Siiii := ⟨0, 0, 0, 0⟩
def fitE (X : M2) : Siiii × Int := if fitM 1000 (red X) then (ofM (red X), 0) else (zM, 3)

theorem impl_areMatrices_l {l : List Siiii} (hl : l.length ≤ 1000000000000) : ∀ (k i : Nat), l.length - i < k → i ≤ l.length →
    impl_areMatrices.l2 k l (l.length : Int) (i : Int) = some ((l.drop i).all fun x => decide (isM (toM x))) := by
  intro k
  induction k with
  | zero => intro i h; omega
  | succ k ih =>
    intro i h hi
    simp only [impl_areMatrices.l2, impl_areMatrices.s2]
    by_cases hlt : i < l.length
    · rw [ifE_pos (by omega), getE_nat hlt, Option.bind_some, List.drop_eq_getElem_cons hlt, List.all_cons, impl_IsMatrix_f, Option.bind_some]
      have e : W ((i : Int) + 1) = ((i + 1 : Nat) : Int) := by rw [W_id (by omega) (by omega)]; omega
      rw [e]
      by_cases h1 : isM (toM l[i])
      · rw [decide_eq_true h1, Bool.not_true, ifE_f, ih (i + 1) (by omega) (by omega), Bool.true_and]
      · rw [decide_eq_false h1]; rfl
    · rw [ifE_neg (by omega), List.drop_eq_nil_of_le (by omega)]; rfl
theorem impl_areMatrices_f {l : List Siiii} (hl : l.length ≤ 1000000000000) : impl_areMatrices.f l = some (l.all fun x => decide (isM (toM x))) := by
  unfold impl_areMatrices.f
  exact impl_areMatrices_l hl fuelN 0 (lt_fuel (by omega)) (by omega)

def mulE (g h : Siiii) : Siiii × Int := if isM (toM g) ∧ isM (toM h) then fitE ((toM g).mul (toM h)) else (zM, 1)
def redE (g : Siiii) : Siiii × Int := if isM (toM g) then (ofM (red (toM g)), 0) else (zM, 1)
def invE (g : Siiii) : Siiii × Int := if isM (toM g) then (ofM (red (toM g).adj), 0) else (zM, 1)
def sameE (g h : Siiii) : Bool × Int := if isM (toM g) ∧ isM (toM h) then (decide (red (toM g) = red (toM h)), 0) else (false, 1)

theorem impl_MultiplyMatrices_f (g h : Siiii) : impl_MultiplyMatrices.f g h = some (mulE g h) := by
  unfold impl_MultiplyMatrices.f mulE
  rw [impl_areMatrices_f (by simp), Option.bind_some]
  simp only [List.all_cons, List.all_nil, Bool.and_true]
  by_cases h1 : isM (toM g)
  · by_cases h2 : isM (toM h)
    · rw [decide_eq_true h1, decide_eq_true h2, Bool.and_true, Bool.not_true, ifE_f, impl_product_f (isM_fit h1) (isM_fit h2) h1.2 h2.2, Option.bind_some, if_pos ⟨h1, h2⟩]
      unfold impl_fittedMatrix.f fitE
      by_cases hf : fitM 1000 (red ((toM g).mul (toM h)))
      · simp only [decide_eq_true hf, if_pos hf]; rfl
      · simp only [decide_eq_false hf, if_neg hf]; rfl
    · rw [decide_eq_false h2, if_neg (fun hh => h2 hh.2), Bool.and_false]; rfl
  · rw [decide_eq_false h1, if_neg (fun hh => h1 hh.1)]; rfl

theorem spec_MultiplyMatrices_f (g h : Siiii) : spec_MultiplyMatrices.f g h = some (mulE g h) := by
  unfold spec_MultiplyMatrices.f mulE
  rw [spec_l04Is_f, Option.bind_some]
  by_cases h1 : isM (toM g)
  · rw [decide_eq_true h1, Bool.not_true, ifE_f, spec_l04Is_f, Option.bind_some]
    by_cases h2 : isM (toM h)
    · rw [decide_eq_true h2, Bool.not_true, ifE_f, spec_l04Times_f (isM_fit h1) (isM_fit h2) h1.2 h2.2, Option.bind_some, if_pos ⟨h1, h2⟩]
      unfold fitE
      by_cases hf : fitM 1000 (red ((toM g).mul (toM h)))
      · simp only [decide_eq_true hf, if_pos hf]; rfl
      · simp only [decide_eq_false hf, if_neg hf]; rfl
    · rw [decide_eq_false h2, if_neg (fun hh => h2 hh.2)]; rfl
  · rw [decide_eq_false h1, if_neg (fun hh => h1 hh.1)]; rfl

theorem impl_ReduceMatrix_f (g : Siiii) : impl_ReduceMatrix.f g = some (redE g) := by
  unfold impl_ReduceMatrix.f redE
  rw [impl_IsMatrix_f, Option.bind_some]
  by_cases h1 : isM (toM g)
  · rw [decide_eq_true h1, Bool.not_true, ifE_f, impl_reduce_f h1.2 (isM_lim h1), Option.bind_some, if_pos h1]
  · rw [decide_eq_false h1, if_neg h1]; rfl
theorem spec_ReduceMatrix_f (g : Siiii) : spec_ReduceMatrix.f g = some (redE g) := by
  unfold spec_ReduceMatrix.f redE
  rw [spec_l04Is_f, Option.bind_some]
  by_cases h1 : isM (toM g)
  · rw [decide_eq_true h1, Bool.not_true, ifE_f, spec_l04Reduce_f h1.2 (isM_lim h1), Option.bind_some, if_pos h1]
  · rw [decide_eq_false h1, if_neg h1]; rfl
theorem impl_InverseMatrix_f (g : Siiii) : impl_InverseMatrix.f g = some (invE g) := by
  unfold impl_InverseMatrix.f invE
  rw [impl_IsMatrix_f, Option.bind_some]
  by_cases h1 : isM (toM g)
  · rw [decide_eq_true h1, Bool.not_true, ifE_f, impl_inverted_f h1.2 (isM_fit h1), Option.bind_some, if_pos h1]
  · rw [decide_eq_false h1, if_neg h1]; rfl
theorem spec_InverseMatrix_f (g : Siiii) : spec_InverseMatrix.f g = some (invE g) := by
  unfold spec_InverseMatrix.f invE
  rw [spec_l04Is_f, Option.bind_some]
  by_cases h1 : isM (toM g)
  · rw [decide_eq_true h1, Bool.not_true, ifE_f, spec_l04Inverse_f h1.2 (isM_fit h1), Option.bind_some, if_pos h1]
  · rw [decide_eq_false h1, if_neg h1]; rfl

theorem eqM (X Y : M2) : (((X.a == Y.a) && ((X.b == Y.b) && true)) && (((X.c == Y.c) && ((X.d == Y.d) && true)) && true)) = decide (X = Y) := by
  by_cases h : X = Y
  · subst h; simp
  · rw [decide_eq_false h, Bool.eq_false_iff]
    intro hh
    simp only [Bool.and_true, Bool.and_eq_true, beq_iff_eq] at hh
    exact h (by ext; exact hh.1.1; exact hh.1.2; exact hh.2.1; exact hh.2.2)
theorem eqS (g h : Siiii) : (((g.c0 == h.c0) && ((g.c1 == h.c1) && true)) && (((g.c2 == h.c2) && ((g.c3 == h.c3) && true)) && true)) = decide (g = h) := by
  refine (eqM (toM g) (toM h)).trans ?_
  by_cases e : g = h
  · subst e; simp
  · rw [decide_eq_false e, decide_eq_false fun h => e (toM_inj h)]

theorem impl_AreSameMatrices_f (g h : Siiii) : impl_AreSameMatrices.f g h = some (sameE g h) := by
  unfold impl_AreSameMatrices.f sameE
  rw [impl_areMatrices_f (by simp), Option.bind_some]
  have ea : ([g, h].all fun x => decide (isM (toM x))) = (decide (isM (toM g)) && decide (isM (toM h))) := by simp
  rw [ea]
  by_cases h1 : isM (toM g)
  · by_cases h2 : isM (toM h)
    · rw [decide_eq_true h1, decide_eq_true h2, Bool.and_true, Bool.not_true, ifE_f, impl_reduce_f h1.2 (isM_lim h1), Option.bind_some, impl_reduce_f h2.2 (isM_lim h2), Option.bind_some, if_pos ⟨h1, h2⟩]
      exact congrArg (fun b => some (b, (0 : Int))) (eqM (red (toM g)) (red (toM h)))
    · rw [decide_eq_false h2, if_neg (fun hh => h2 hh.2), Bool.and_false]; rfl
  · rw [decide_eq_false h1, if_neg (fun hh => h1 hh.1)]; rfl
theorem spec_AreSameMatrices_f (g h : Siiii) : spec_AreSameMatrices.f g h = some (sameE g h) := by
  unfold spec_AreSameMatrices.f sameE
  rw [spec_l04Is_f, Option.bind_some]
  by_cases h1 : isM (toM g)
  · rw [decide_eq_true h1, Bool.not_true, ifE_f, spec_l04Is_f, Option.bind_some]
    by_cases h2 : isM (toM h)
    · rw [decide_eq_true h2, Bool.not_true, ifE_f, spec_l04Reduce_f h1.2 (isM_lim h1), Option.bind_some, spec_l04Reduce_f h2.2 (isM_lim h2), Option.bind_some, if_pos ⟨h1, h2⟩]
      exact congrArg (fun b => some (b, (0 : Int))) (eqM (red (toM g)) (red (toM h)))
    · rw [decide_eq_false h2, if_neg (fun hh => h2 hh.2)]; rfl
  · rw [decide_eq_false h1, if_neg (fun hh => h1 hh.1)]; rfl

/-- n more products by X, each one reduced -/
def powR (X : M2) : Nat → M2 → Option M2
  | 0, A => some A
  | n + 1, A => if fitM 1000 (red (A.mul X)) then powR X n (red (A.mul X)) else none
def powE (X : M2) (n : Nat) : Siiii × Int := match powR X n one with
  | some A => (ofM A, 0)
  | none => (zM, 3)

theorem impl_PowerMatrix_l {X : M2} (hX : fitM 20000000 X) (dX : X.det ≠ 0) (z0 z1 z2 z3 : Int) : ∀ (n k : Nat) (i : Int) (A : M2), n < k → 0 ≤ i → i + n ≤ 1000 → fitM 1000 A → A.det ≠ 0 →
    impl_PowerMatrix.l10 k (i + n) i X.a X.b X.c X.d z0 z1 z2 z3 A.a A.b A.c A.d = some (match powR X n A with | some A => (ofM A, 0) | none => (zM, 3)) := by
  intro n
  induction n with
  | zero =>
    intro k i A hk h0 h1 hA dA
    obtain ⟨k, rfl⟩ : ∃ m, k = m + 1 := ⟨k - 1, by omega⟩
    simp only [impl_PowerMatrix.l10, impl_PowerMatrix.s10]
    rw [ifE_neg (by omega)]
    rfl
  | succ n ih =>
    intro k i A hk h0 h1 hA dA
    obtain ⟨k, rfl⟩ : ∃ m, k = m + 1 := ⟨k - 1, by omega⟩
    simp only [impl_PowerMatrix.l10, impl_PowerMatrix.s10]
    have hp := impl_product_f (g := ⟨A.a, A.b, A.c, A.d⟩) (h := ⟨X.a, X.b, X.c, X.d⟩) (fitM_mono hA (by omega)) hX dA dX
    have e1 : toM (⟨A.a, A.b, A.c, A.d⟩ : Siiii) = A := rfl
    have e2 : toM (⟨X.a, X.b, X.c, X.d⟩ : Siiii) = X := rfl
    rw [e1, e2] at hp
    rw [ifE_pos (by omega), hp, Option.bind_some]
    have ew : W (i + 1) = i + 1 := W_id (by omega) (by omega)
    rw [ew]
    unfold powR
    by_cases hf : fitM 1000 (red (A.mul X))
    · rw [if_pos hf]
      simp only [decide_eq_true hf, Bool.not_true, ifE_f]
      have := ih k (i + 1) (red (A.mul X)) (by omega) (by omega) (by omega) hf (det_red_ne (det_ne_mul dA dX))
      rw [show i + 1 + (n : Int) = i + ((n + 1 : Nat) : Int) from by omega] at this
      exact this
    · rw [if_neg hf]
      simp only [decide_eq_false hf, Bool.not_false, ifE_t]
      rfl

theorem spec_PowerMatrix_l {X : M2} (hX : fitM 20000000 X) (dX : X.det ≠ 0) (z0 z1 z2 z3 : Int) : ∀ (n k : Nat) (A : M2), n < k → n ≤ 1000 → fitM 1000 A → A.det ≠ 0 →
    spec_PowerMatrix.l9 k n X.a X.b X.c X.d z0 z1 z2 z3 A.a A.b A.c A.d = some (match powR X n A with | some A => (ofM A, 0) | none => (zM, 3)) := by
  intro n
  induction n with
  | zero =>
    intro k A hk h1 hA dA
    obtain ⟨k, rfl⟩ : ∃ m, k = m + 1 := ⟨k - 1, by omega⟩
    simp only [spec_PowerMatrix.l9, spec_PowerMatrix.s9]
    rw [ifE_neg (by omega)]
    rfl
  | succ n ih =>
    intro k A hk h1 hA dA
    obtain ⟨k, rfl⟩ : ∃ m, k = m + 1 := ⟨k - 1, by omega⟩
    simp only [spec_PowerMatrix.l9, spec_PowerMatrix.s9]
    have hp := spec_l04Times_f (g := ⟨A.a, A.b, A.c, A.d⟩) (h := ⟨X.a, X.b, X.c, X.d⟩) (fitM_mono hA (by omega)) hX dA dX
    have e1 : toM (⟨A.a, A.b, A.c, A.d⟩ : Siiii) = A := rfl
    have e2 : toM (⟨X.a, X.b, X.c, X.d⟩ : Siiii) = X := rfl
    rw [e1, e2] at hp
    rw [ifE_pos (by omega), hp, Option.bind_some]
    have ew : W (((n + 1 : Nat) : Int) - 1) = (n : Int) := by rw [W_id (by omega) (by omega)]; omega
    rw [ew]
    unfold powR
    by_cases hf : fitM 1000 (red (A.mul X))
    · rw [if_pos hf]
      simp only [decide_eq_true hf, Bool.not_true, ifE_f]
      exact ih k (red (A.mul X)) (by omega) (by omega) hf (det_red_ne (det_ne_mul dA dX))
    · rw [if_neg hf]
      simp only [decide_eq_false hf, Bool.not_false, ifE_t]
      rfl

/-- powers by a matrix or its reduced one are the same -/
theorem powR_red {X Y : M2} (dX : X.det ≠ 0) (dY : Y.det ≠ 0) (h : red X = red Y) : ∀ (n : Nat) (A : M2), A.det ≠ 0 → powR X n A = powR Y n A := by
  intro n
  induction n with
  | zero => intro A _; rfl
  | succ n ih =>
    intro A dA
    unfold powR
    have e : red (A.mul X) = red (A.mul Y) := by rw [← red_mul_right dA dX, h, red_mul_right dA dY]
    rw [e, ih _ (det_red_ne (det_ne_mul dA dY))]

def pwE (g : Siiii) (k : Int) : Siiii × Int := if isM (toM g) then (if -20 ≤ k ∧ k ≤ 20 then (if k < 0 then powE (red (toM g).adj) (-k).toNat else powE (toM g) k.toNat) else (zM, 2)) else (zM, 1)

theorem isM_one : fitM 1000 one := by decide

theorem impl_PowerMatrix_f (g : Siiii) (k : Int) : impl_PowerMatrix.f g k = some (pwE g k) := by
  unfold impl_PowerMatrix.f pwE
  rw [impl_IsMatrix_f, Option.bind_some]
  by_cases h1 : isM (toM g)
  · rw [decide_eq_true h1, Bool.not_true, ifE_f, if_pos h1]
    by_cases h2 : k < -20
    · rw [ifE_pos h2, if_neg (by omega)]; rfl
    · rw [ifE_neg h2]
      by_cases h3 : k > 20
      · rw [ifE_pos h3, if_neg (by omega)]; rfl
      · rw [ifE_neg h3, impl_reduce_f h1.2 (isM_lim h1), Option.bind_some, if_pos (by omega)]
        have hr := red_fit h1.2 h1.1
        have dr := det_red_ne h1.2
        by_cases h4 : k < 0
        · rw [ifE_pos h4, if_pos h4, impl_inverted_f (g := ofM (red (toM g))) dr (fitM_mono hr (by omega)), Option.bind_some]
          have e : W (0 - k) = 0 + ((-k).toNat : Int) := by rw [W_id (by omega) (by omega)]; omega
          have er : red (red (toM g)).adj = red (toM g).adj := red_adj h1.2
          rw [toM_ofM, er, e]
          have da : (toM g).adj.det ≠ 0 := by rw [det_adj]; exact h1.2
          have := impl_PowerMatrix_l (X := red (toM g).adj) (fitM_mono (red_fit da (adj_fit h1.1)) (by omega)) (det_red_ne da) 0 0 0 0 (-k).toNat fuelN 0 one (lt_fuel (by omega)) (by omega) (by omega) isM_one (by decide)
          exact this
        · rw [ifE_neg h4, if_neg h4]
          have := impl_PowerMatrix_l (X := red (toM g)) (fitM_mono hr (by omega)) dr 0 0 0 0 k.toNat fuelN 0 one (lt_fuel (by omega)) (by omega) (by omega) isM_one (by decide)
          rw [powR_red dr h1.2 (red_red h1.2) _ _ (by decide)] at this
          rw [show (0 : Int) + (k.toNat : Int) = k from by omega] at this
          exact this
  · rw [decide_eq_false h1, if_neg h1]; rfl

theorem spec_PowerMatrix_f (g : Siiii) (k : Int) : spec_PowerMatrix.f g k = some (pwE g k) := by
  unfold spec_PowerMatrix.f pwE
  rw [spec_l04Is_f, Option.bind_some]
  by_cases h1 : isM (toM g)
  · rw [decide_eq_true h1, Bool.not_true, ifE_f, if_pos h1]
    have hin : spec_l01In.f k (-20) 20 = some (decide (-20 ≤ k ∧ k ≤ 20)) := by
      unfold spec_l01In.f
      by_cases h : k ≥ -20
      · rw [ifE_pos h]; congr 1; rw [decide_eq_decide]; omega
      · rw [ifE_neg h]; congr 1; symm; exact decide_eq_false (by omega)
    rw [hin, Option.bind_some]
    by_cases h2 : -20 ≤ k ∧ k ≤ 20
    · rw [decide_eq_true h2, if_pos h2, Bool.not_true, ifE_f]
      by_cases h4 : k < 0
      · rw [ifE_pos h4, if_pos h4, spec_l04Inverse_f h1.2 (isM_fit h1), Option.bind_some]
        have e : W (0 - k) = ((-k).toNat : Int) := by rw [W_id (by omega) (by omega)]; omega
        rw [e]
        have da : (toM g).adj.det ≠ 0 := by rw [det_adj]; exact h1.2
        exact spec_PowerMatrix_l (X := red (toM g).adj) (fitM_mono (red_fit da (adj_fit h1.1)) (by omega)) (det_red_ne da) 0 0 0 0 (-k).toNat fuelN one (lt_fuel (by omega)) (by omega) isM_one (by decide)
      · rw [ifE_neg h4, if_neg h4]
        have := spec_PowerMatrix_l (X := toM g) (isM_fit h1) h1.2 0 0 0 0 k.toNat fuelN one (lt_fuel (by omega)) (by omega) isM_one (by decide)
        rw [show (k.toNat : Int) = k from by omega] at this
        exact this
    · rw [decide_eq_false h2, if_neg h2]; rfl
  · rw [decide_eq_false h1, if_neg h1]; rfl

end Go.Gn
end
section
set_option linter.unusedVariables false
set_option linter.unusedSimpArgs false
/-! plain: what is drawn is there -/
namespace Go.Gn
open Go Go.Eng Pl

abbrev Src := SLu8eiu64
/-- a source at work: bytes, its place not below 0 -/
def SrcOk (s : Src) : Prop := (∀ x ∈ s.c0, 0 ≤ x ∧ x < 256) ∧ 0 ≤ s.c1 ∧ s.c0.length ≤ 5000 ∧ s.c1 ≤ 5000

theorem and_small (n : Nat) (x : BitVec 64) (y : BitVec 64) (h : y.toNat ≤ n) : ((x &&& y).toNat : Int) ≤ n := by
  have := Nat.and_le_right (n := x.toNat) (m := y.toNat)
  rw [BitVec.toNat_and]; omega

theorem wrap_u64 {n : Int} (h0 : 0 ≤ n) (h1 : n < 18446744073709551616) : IntKind.wrap .u64 n = n := by
  simp [IntKind.wrap, IntKind.bits, IntKind.signed]; omega

theorem next_some {s : Src} (hs : SrcOk s) {n : Int} (hn : 1 ≤ n) : ∃ r s', spec_l01Next.f s n = some (r, s') ∧ 0 ≤ r ∧ r < n ∧ SrcOk s' := by
  obtain ⟨h1, h2, h3, h4⟩ := hs
  unfold spec_l01Next.f
  rw [ifE_neg (by omega)]
  generalize hx : (BitVec.ofInt 64 (Int.fdiv (IntKind.wrap .u64 ((IntKind.wrap .u64 (s.c2 * 6364136223846793005)) + 1442695040888963407)) (2 ^ 23))) = x
  have ha := and_small 17179869183 x (BitVec.ofInt 64 17179869183) (by decide)
  generalize hz : (((x &&& (BitVec.ofInt 64 17179869183)).toNat : Nat) : Int) = z at *
  have hz0 : 0 ≤ z := by omega
  rw [wrap_u64 hz0 (by omega), W_id (n := z) (by omega) (by omega)]
  by_cases hlt : s.c1 < (s.c0.length : Int)
  · rw [ifE_pos hlt]
    obtain ⟨e, he, -, hm⟩ := getE_some h2 hlt
    have hb := h1 e hm
    rw [he, Option.bind_some, guardE_pos (by omega), W_id (n := e) (by omega) (by omega), W_id (n := z + e) (by omega) (by omega), W_id (n := s.c1 + 1) (by omega) (by omega)]
    refine ⟨_, _, rfl, Int.tmod_nonneg _ (by omega), ?_, h1, by simp only; omega, h3, by simp only; omega⟩
    exact Int.tmod_lt_of_pos _ (by omega)
  · rw [ifE_neg hlt, guardE_pos (by omega)]
    exact ⟨_, _, rfl, Int.tmod_nonneg _ (by omega), Int.tmod_lt_of_pos _ (by omega), h1, h2, h3, h4⟩

theorem pick_some {s : Src} (hs : SrcOk s) {l : List Int} (hl : l ≠ []) : ∃ r s', spec_l01Pick.f s l = some (r, s') ∧ r ∈ l ∧ SrcOk s' := by
  have hn : 1 ≤ (l.length : Int) := by have := List.length_pos_iff.2 hl; omega
  obtain ⟨i, s', h1, h2, h3, h4⟩ := next_some hs hn
  obtain ⟨e, h5, -, h6⟩ := getE_some h2 h3
  unfold spec_l01Pick.f
  rw [h1, Option.bind_some]
  simp only
  rw [h5, Option.bind_some]
  exact ⟨e, s', rfl, h6, h4⟩

theorem from_l (v0 : List Int) (hb : ∀ x ∈ v0, 0 ≤ x ∧ x < 256) (hl : v0.length ≤ 5000) (c1 : Int) (hc : 0 ≤ c1 ∧ c1 ≤ 5000) : ∀ (k i : Nat) (h : Int), v0.length - i < k → ∃ s, spec_l01From.l3 k v0 (i : Int) v0 c1 h = some s ∧ SrcOk s := by
  intro k
  induction k with
  | zero => intro i h hk; omega
  | succ k ih =>
    intro i h hk
    simp only [spec_l01From.l3, spec_l01From.s3]
    by_cases h1 : (i : Int) < (v0.length : Int)
    · rw [ifE_pos h1]
      by_cases h2 : (i : Int) < 4096
      · rw [ifE_pos h2, getE_nat (by omega), Option.bind_some]
        have e : W ((i : Int) + 1) = ((i + 1 : Nat) : Int) := by rw [W_id (by omega) (by omega)]; omega
        rw [e]
        exact ih (i + 1) _ (by omega)
      · rw [ifE_neg h2]
        exact ⟨_, rfl, hb, hc.1, hl, hc.2⟩
    · rw [ifE_neg h1]
      exact ⟨_, rfl, hb, hc.1, hl, hc.2⟩

theorem from_some {code : List Int} (hb : ∀ x ∈ code, 0 ≤ x ∧ x < 256) (hl : code.length ≤ 5000) : ∃ s, spec_l01From.f code = some s ∧ SrcOk s := by
  unfold spec_l01From.f
  exact from_l code hb hl 0 (by omega) fuelN 0 _ (lt_fuel (by omega))


/-- there is an answer, and it is as told -/
def Ex {α : Type} (P : α → Prop) (o : Option α) : Prop := ∃ x, o = some x ∧ P x
section
variable {α β : Type} {P : α → Prop} {Q : β → Prop}
theorem Ex.ret {x : α} (h : P x) : Ex P (some x) := ⟨x, rfl, h⟩
theorem Ex.ite {c : Bool} {a b : Option α} (ha : c = true → Ex P a) (hb : c = false → Ex P b) : Ex P (ifE c a b) := by
  cases c
  · exact hb rfl
  · exact ha rfl
theorem Ex.bind {o : Option β} {f : β → Option α} (h : Ex Q o) (k : ∀ x, Q x → Ex P (f x)) : Ex P (o.bind f) := by
  obtain ⟨x, rfl, hx⟩ := h; exact k x hx
theorem Ex.mono {R : α → Prop} {o : Option α} (h : Ex P o) (k : ∀ x, P x → R x) : Ex R o := by
  obtain ⟨x, e, hx⟩ := h; exact ⟨x, e, k x hx⟩
theorem Ex.guard {p : Prop} [Decidable p] {a : Option α} (hp : p) (h : Ex P a) : Ex P (guardE p a) := by rw [guardE_pos hp]; exact h
end
theorem ex_next {s : Src} (hs : SrcOk s) {n : Int} (hn : 1 ≤ n) : Ex (fun r : Int × Src => (0 ≤ r.1 ∧ r.1 < n) ∧ SrcOk r.2) (spec_l01Next.f s n) := by
  obtain ⟨r, s', h1, h2, h3, h4⟩ := next_some hs hn; exact ⟨_, h1, ⟨h2, h3⟩, h4⟩
theorem ex_pick {s : Src} (hs : SrcOk s) {l : List Int} (hl : l ≠ []) : Ex (fun r : Int × Src => r.1 ∈ l ∧ SrcOk r.2) (spec_l01Pick.f s l) := by
  obtain ⟨r, s', h1, h2, h3⟩ := pick_some hs hl; exact ⟨_, h1, h2, h3⟩
theorem ex_from {code : List Int} (hb : ∀ x ∈ code, 0 ≤ x ∧ x < 256) (hl : code.length ≤ 5000) : Ex SrcOk (spec_l01From.f code) := by
  obtain ⟨s, h1, h2⟩ := from_some hb hl; exact ⟨_, h1, h2⟩

abbrev GS := fun r : Siiii × Src => SrcOk r.2
theorem l04Draw_tail {s : Src} (hs : SrcOk s) (o3_0 o3_1 o3_2 o3_3 : Int) : Ex GS (
    (spec_l01Next.f s 9).bind fun r1 =>
    ifE (r1.1 == 0) (
      (spec_l01Pick.f r1.2 [2, 3, 4, 5, 9]).bind fun r2 =>
      (spec_l01Next.f r2.2 5).bind fun r3 =>
      (spec_l01Next.f r3.2 40).bind fun r4 =>
      ifE (r4.1 == 0) (
        some ((⟨1001, W (r3.1 - 2), 0, 1⟩ : Siiii), r4.2)) (
        ifE (r4.1 == 1) (
          some ((⟨r2.1, W (r3.1 - 2), r2.1, W (r3.1 - 2)⟩ : Siiii), r4.2)) (
          some ((⟨r2.1, W (r3.1 - 2), 0, 1⟩ : Siiii), r4.2)))) (
      ifE (r1.1 == 1) (
        (spec_l01Pick.f r1.2 [2, 3, 4, 7, 1]).bind fun r5 =>
        (spec_l01Next.f r5.2 40).bind fun r6 =>
        ifE (r6.1 == 0) (
          some ((⟨1001, 0, 0, r5.1⟩ : Siiii), r6.2)) (
          ifE (r6.1 == 1) (
            some ((⟨1, 0, 1, 0⟩ : Siiii), r6.2)) (
            some ((⟨1, 0, 0, r5.1⟩ : Siiii), r6.2)))) (
        ifE (r1.1 == 2) (
          (spec_l01Pick.f r1.2 [1, (-1), 2, 3]).bind fun r7 =>
          (spec_l01Next.f r7.2 40).bind fun r8 =>
          ifE (r8.1 == 0) (
            some ((⟨1001, r7.1, 1, 0⟩ : Siiii), r8.2)) (
            ifE (r8.1 == 1) (
              some ((⟨0, r7.1, 0, r7.1⟩ : Siiii), r8.2)) (
              some ((⟨0, r7.1, 1, 0⟩ : Siiii), r8.2)))) (
          ifE (r1.1 == 3) (
            (spec_l01Next.f r1.2 2001).bind fun r9 =>
            (spec_l01Next.f r9.2 9).bind fun r10 =>
            (spec_l01Next.f r10.2 9).bind fun r11 =>
            (spec_l01Next.f r11.2 2001).bind fun r12 =>
            (spec_l01Next.f r12.2 40).bind fun r13 =>
            ifE (r13.1 == 0) (
              some ((⟨1001, r10.1, r11.1, W (r12.1 - 1000)⟩ : Siiii), r13.2)) (
              ifE (r13.1 == 1) (
                some ((⟨W (r9.1 - 1000), r10.1, W (r9.1 - 1000), r10.1⟩ : Siiii), r13.2)) (
                some ((⟨W (r9.1 - 1000), r10.1, r11.1, W (r12.1 - 1000)⟩ : Siiii), r13.2)))) (
            ifE (r1.1 == 4) (
              (spec_l01Next.f r1.2 7).bind fun r14 =>
              (spec_l01Next.f r14.2 40).bind fun r15 =>
              ifE (r15.1 == 0) (
                some ((⟨1001, W (r14.1 - 3), 0, 1⟩ : Siiii), r15.2)) (
                ifE (r15.1 == 1) (
                  some ((⟨1, W (r14.1 - 3), 1, W (r14.1 - 3)⟩ : Siiii), r15.2)) (
                  some ((⟨1, W (r14.1 - 3), 0, 1⟩ : Siiii), r15.2)))) (
              (spec_l01Next.f r1.2 40).bind fun r16 =>
              ifE (r16.1 == 0) (
                some ((⟨1001, o3_1, o3_2, o3_3⟩ : Siiii), r16.2)) (
                ifE (r16.1 == 1) (
                  some ((⟨o3_0, o3_1, o3_0, o3_1⟩ : Siiii), r16.2)) (
                  some ((⟨o3_0, o3_1, o3_2, o3_3⟩ : Siiii), r16.2))))))))) := by
  repeat' first
    | exact Ex.ret (by assumption)
    | (refine Ex.ite (fun _ => ?_) (fun _ => ?_))
    | (refine Ex.bind (ex_next (by assumption) (by omega)) fun r h => ?_; obtain ⟨h1, h2⟩ := h)
    | (refine Ex.bind (ex_pick (by assumption) (by simp)) fun r h => ?_; obtain ⟨h1, h2⟩ := h)

theorem l04Draw_l6 {rec3 : Int → (List Int) → Int → Int → Int → Int → Int → Int → Int → Int → Int → Int → Option (Siiii × SLu8eiu64)} {v4 : Int}
    (hrec : ∀ (s : Src) (a b c d e f g h : Int), SrcOk s → Ex GS (rec3 (W (v4 + 1)) s.c0 s.c1 s.c2 a b c d e f g h)) : ∀ (k : Nat) (i : Int) (s : Src) (a b c d e f g h : Int), 0 ≤ i → i ≤ 4 → (4 - i).toNat < k → SrcOk s →
    Ex GS (spec_l04Draw.l6 rec3 k v4 i s.c0 s.c1 s.c2 a b c d e f g h) := by
  intro k
  induction k with
  | zero => intro i s a b c d e f g h h0 h1 hk; omega
  | succ k ih =>
    intro i s a b c d e f g h h0 h1 hk hs
    simp only [spec_l04Draw.l6, spec_l04Draw.s6]
    refine Ex.ite (fun hlt => ?_) (fun hge => ?_)
    · have hlt : i < 4 := by simpa using hlt
      refine Ex.bind (ex_next (s := ⟨s.c0, s.c1, s.c2⟩) hs (by omega)) fun r hr => ?_
      obtain ⟨-, hr⟩ := hr
      have ew : W (i + 1) = i + 1 := W_id (by omega) (by omega)
      rw [ew]
      have hgo : ∀ a b c d e f g h, Ex GS (spec_l04Draw.l6 rec3 k v4 (i + 1) r.2.c0 r.2.c1 r.2.c2 a b c d e f g h) := fun a b c d e f g h => ih (i + 1) r.2 a b c d e f g h (by omega) (by omega) (by omega) hr
      have hi : i = 0 ∨ i = 1 ∨ i = 2 ∨ i = 3 := by omega
      rcases hi with rfl | rfl | rfl | rfl
      · exact hgo ..
      · exact hgo ..
      · exact hgo ..
      · exact hgo ..
    · refine Ex.bind (Q := fun _ => True) (Ex.ret trivial) fun r _ => ?_
      refine Ex.ite (fun _ => ?_) (fun _ => ?_)
      · exact l04Draw_tail (s := ⟨s.c0, s.c1, s.c2⟩) hs _ _ _ _
      · exact hrec s _ _ _ _ _ _ _ _ hs

theorem l04Draw_l3 : ∀ (k : Nat) (i : Int) (s : Src) (a b c d e f g h : Int), 0 ≤ i → i ≤ 5 → (5 - i).toNat < k → SrcOk s →
    Ex GS (spec_l04Draw.l3 k i s.c0 s.c1 s.c2 a b c d e f g h) := by
  intro k
  induction k with
  | zero => intro i s a b c d e f g h h0 h1 hk; omega
  | succ k ih =>
    intro i s a b c d e f g h h0 h1 hk hs
    simp only [spec_l04Draw.l3, spec_l04Draw.s3]
    refine Ex.ite (fun hlt => ?_) (fun hge => ?_)
    · have hlt : i < 5 := by simpa using hlt
      have ew : W (i + 1) = i + 1 := W_id (by omega) (by omega)
      exact l04Draw_l6 (fun s a b c d e f g h hs => by rw [ew]; exact ih (i + 1) s a b c d e f g h (by omega) (by omega) (by omega) hs) fuelN 0 s _ _ _ _ _ _ _ _ (by omega) (by omega) (lt_fuel (by omega)) hs
    · exact l04Draw_tail (s := ⟨s.c0, s.c1, s.c2⟩) hs _ _ _ _

theorem ex_l04Draw {s : Src} (hs : SrcOk s) : Ex GS (spec_l04Draw.f s) := by
  unfold spec_l04Draw.f
  exact l04Draw_l3 fuelN 0 s _ _ _ _ _ _ _ _ (by omega) (by omega) (lt_fuel (by omega)) hs

abbrev TT {α : Type} : α → Prop := fun _ => True

end Go.Gn
end
section
set_option linter.unusedVariables false
set_option linter.unusedSimpArgs false
/-! plain: numbers of the ball functions -/
namespace Go.Gn
open Go Go.Eng Pl Pl.M2

theorem pow22 {p : Int} (hp : IsP p) {k : Nat} (h : k ≤ 22) : 1 ≤ p ^ k ∧ p ^ k ≤ 3909821048582988049 := by
  have h1 := pow_pos hp.two k
  have h2 := pow_mono hp.two h
  have h3 : p ^ 22 ≤ 3909821048582988049 := by rcases hp with rfl | rfl | rfl | rfl <;> decide
  omega
theorem pow12 {p : Int} (hp : IsP p) {k : Nat} (h : k ≤ 12) : 1 ≤ p ^ k ∧ p ^ k ≤ 13841287201 := by
  have h1 := pow_pos hp.two k
  have h2 := pow_mono hp.two h
  have h3 : p ^ 12 ≤ 13841287201 := by rcases hp with rfl | rfl | rfl | rfl <;> decide
  omega

theorem pow_mul_p {p : Int} (k : Nat) : p ^ k * p = p ^ (k + 1) := (Int.pow_succ p k).symm

theorem impl_power_l {p : Int} (hp : IsP p) : ∀ (n k i : Nat), n < k → i + n ≤ 100 → p ^ (i + n) ≤ 9223372036854775807 → impl_power.l3 k p (p ^ i) ((i + n : Nat) : Int) (i : Int) = some (p ^ (i + n)) := by
  intro n
  induction n with
  | zero =>
    intro k i hk h h2
    obtain ⟨k, rfl⟩ : ∃ m, k = m + 1 := ⟨k - 1, by omega⟩
    simp only [impl_power.l3, impl_power.s3]
    rw [ifE_neg (by omega)]; rfl
  | succ n ih =>
    intro k i hk h h2
    obtain ⟨k, rfl⟩ : ∃ m, k = m + 1 := ⟨k - 1, by omega⟩
    simp only [impl_power.l3, impl_power.s3]
    have hb := pow_mono hp.two (a := i + 1) (b := i + (n + 1)) (by omega)
    have hb0 := pow_pos hp.two (i + 1)
    rw [ifE_pos (by omega), pow_mul_p, W_id (n := p ^ (i + 1)) (by omega) (by omega), W_id (n := (i : Int) + 1) (by omega) (by omega)]
    have := ih k (i + 1) (by omega) (by omega) (by rw [show i + 1 + n = i + (n + 1) from by omega]; exact h2)
    rw [show i + 1 + n = i + (n + 1) from by omega] at this
    exact this
theorem impl_power_g {p : Int} (hp : IsP p) {k : Nat} (h : k ≤ 100) (h2 : p ^ k ≤ 9223372036854775807) : impl_power.f p k = some (p ^ k) := by
  have := impl_power_l hp k fuelN 0 (lt_fuel (by omega)) (by omega) (by rw [Nat.zero_add]; exact h2)
  rw [Int.pow_zero, Nat.zero_add] at this
  unfold impl_power.f
  exact this
theorem impl_power_f {p : Int} (hp : IsP p) {k : Int} (h0 : 0 ≤ k) (h : k ≤ 22) : impl_power.f p k = some (p ^ k.toNat) := by
  have := impl_power_g hp (k := k.toNat) (by omega) (by have := pow22 hp (k := k.toNat) (by omega); omega)
  rw [show ((k.toNat : Nat) : Int) = k from by omega] at this
  exact this

theorem spec_power_l {p : Int} (hp : IsP p) : ∀ (n k i : Nat), n < k → i + n ≤ 100 → p ^ (i + n) ≤ 9223372036854775807 → spec_l01Power.l2 k p (n : Int) (p ^ i) = some (p ^ (i + n)) := by
  intro n
  induction n with
  | zero =>
    intro k i hk h h2
    obtain ⟨k, rfl⟩ : ∃ m, k = m + 1 := ⟨k - 1, by omega⟩
    simp only [spec_l01Power.l2, spec_l01Power.s2]
    rw [ifE_neg (by omega)]; rfl
  | succ n ih =>
    intro k i hk h h2
    obtain ⟨k, rfl⟩ : ∃ m, k = m + 1 := ⟨k - 1, by omega⟩
    simp only [spec_l01Power.l2, spec_l01Power.s2]
    have hb := pow_mono hp.two (a := i + 1) (b := i + (n + 1)) (by omega)
    have hb0 := pow_pos hp.two (i + 1)
    rw [ifE_pos (by omega), pow_mul_p, W_id (n := p ^ (i + 1)) (by omega) (by omega), W_id (n := ((n + 1 : Nat) : Int) - 1) (by omega) (by omega)]
    have := ih k (i + 1) (by omega) (by omega) (by rw [show i + 1 + n = i + (n + 1) from by omega]; exact h2)
    rw [show i + 1 + n = i + (n + 1) from by omega] at this
    rw [show ((n + 1 : Nat) : Int) - 1 = (n : Int) from by omega]
    exact this
theorem spec_power_g {p : Int} (hp : IsP p) {k : Nat} (h : k ≤ 100) (h2 : p ^ k ≤ 9223372036854775807) : spec_l01Power.f p k = some (p ^ k) := by
  have := spec_power_l hp k fuelN 0 (lt_fuel (by omega)) (by omega) (by rw [Nat.zero_add]; exact h2)
  rw [Int.pow_zero, Nat.zero_add] at this
  unfold spec_l01Power.f
  exact this
theorem spec_power_f {p : Int} (hp : IsP p) {k : Int} (h0 : 0 ≤ k) (h : k ≤ 22) : spec_l01Power.f p k = some (p ^ k.toNat) := by
  have := spec_power_g hp (k := k.toNat) (by omega) (by have := pow22 hp (k := k.toNat) (by omega); omega)
  rw [show ((k.toNat : Nat) : Int) = k from by omega] at this
  exact this

def big63 (n : Int) : Prop := -9223372036854775807 ≤ n ∧ n ≤ 9223372036854775807

theorem vl_lt {p n : Int} (hp : IsP p) (h0 : n ≠ 0) (hn : big63 n) : vl p n < 63 := by
  rcases Nat.lt_or_ge (vl p n) 63 with h | h
  · exact h
  · exfalso
    have hd := (dvd_iff_le_vl hp.two h0 63).2 h
    have h1 : p ^ 63 ≤ n.natAbs := Int.le_of_dvd (by omega) (Int.dvd_natAbs.2 hd)
    have h2 : (9223372036854775808 : Int) ≤ p ^ 63 := by rcases hp with rfl | rfl | rfl | rfl <;> decide
    unfold big63 at hn; omega

theorem vl_step {p n : Int} (hp : IsP p) (h0 : n ≠ 0) (hd : Int.tmod n p = 0) : ∃ q, n = p * q ∧ q ≠ 0 ∧ Int.tdiv n p = q ∧ vl p n = vl p q + 1 := by
  have h2 := hp.two
  have hdv : p ∣ n := Int.dvd_of_tmod_eq_zero hd
  obtain ⟨q, rfl⟩ := hdv
  have hq : q ≠ 0 := by rintro rfl; simp at h0
  refine ⟨q, rfl, hq, Int.mul_tdiv_cancel_left _ (by omega), ?_⟩
  have := vl_pow_mul h2 1 hq
  have e : p ^ 1 = p := by grind
  rw [e] at this; omega
theorem vl_stop {p n : Int} (hp : IsP p) (h0 : n ≠ 0) (hd : Int.tmod n p ≠ 0) : vl p n = 0 := by
  refine vl_unique (m := n) hp.two h0 (by simp) fun h => hd ?_
  obtain ⟨q, rfl⟩ := h
  exact Int.mul_tmod_right _ _

theorem impl_valuation_l {p : Int} (hp : IsP p) : ∀ (v k : Nat) (n : Int) (c : Nat), n ≠ 0 → big63 n → vl p n = v → v < k → c + v ≤ 100 → impl_valuation.l4 k p n (c : Int) = some ((c + v : Nat) : Int) := by
  have h2 := hp.two
  intro v
  induction v with
  | zero =>
    intro k n c h0 hn hv hk hc
    obtain ⟨k, rfl⟩ : ∃ m, k = m + 1 := ⟨k - 1, by omega⟩
    simp only [impl_valuation.l4, impl_valuation.s4]
    rw [guardE_pos (by omega)]
    by_cases hd : Int.tmod n p = 0
    · obtain ⟨q, -, -, -, h⟩ := vl_step hp h0 hd
      omega
    · rw [beq_ne hd, ifE_f]; rfl
  | succ v ih =>
    intro k n c h0 hn hv hk hc
    obtain ⟨k, rfl⟩ : ∃ m, k = m + 1 := ⟨k - 1, by omega⟩
    simp only [impl_valuation.l4, impl_valuation.s4]
    rw [guardE_pos (by omega)]
    by_cases hd : Int.tmod n p = 0
    · obtain ⟨q, rfl, hq, ht, h⟩ := vl_step hp h0 hd
      have hqb : big63 q := by
        have h1 : (p * q).natAbs = p.natAbs * q.natAbs := Int.natAbs_mul _ _
        have h3 : 1 * q.natAbs ≤ p.natAbs * q.natAbs := Nat.mul_le_mul_right _ (by omega)
        unfold big63 at *; omega
      rw [show (Int.tmod (p * q) p == 0) = true from by simp [hd], ifE_t, guardE_pos (by omega), ht, W_id (n := q) (by unfold big63 at hqb; omega) (by unfold big63 at hqb; omega), W_id (n := (c : Int) + 1) (by omega) (by omega)]
      have := ih k q (c + 1) hq hqb (by omega) (by omega) (by omega)
      rw [show c + 1 + v = c + (v + 1) from by omega] at this
      exact this
    · exact absurd (vl_stop hp h0 hd) (by omega)
theorem impl_valuation_f {p n : Int} (hp : IsP p) (h0 : n ≠ 0) (hn : big63 n) : impl_valuation.f p n = some (vl p n : Int) := by
  have h := vl_lt hp h0 hn
  have := impl_valuation_l hp (vl p n) fuelN n 0 h0 hn rfl (lt_fuel (by omega)) (by omega)
  unfold impl_valuation.f
  rw [beq_ne h0, ifE_f]
  rw [Nat.zero_add] at this
  exact this
theorem impl_valuation_0 (p : Int) : impl_valuation.f p 0 = some 1000 := rfl

theorem spec_val_l {p : Int} (hp : IsP p) : ∀ (v k : Nat) (n : Int) (c : Nat), n ≠ 0 → big63 n → vl p n = v → v < k → c + v ≤ 100 → spec_l01Val.l2 k p n (c : Int) = some ((c + v : Nat) : Int) := by
  have h2 := hp.two
  intro v
  induction v with
  | zero =>
    intro k n c h0 hn hv hk hc
    obtain ⟨k, rfl⟩ : ∃ m, k = m + 1 := ⟨k - 1, by omega⟩
    simp only [spec_l01Val.l2, spec_l01Val.s2]
    rw [guardE_pos (by omega)]
    by_cases hd : Int.tmod n p = 0
    · obtain ⟨q, -, -, -, h⟩ := vl_step hp h0 hd
      omega
    · rw [beq_ne hd, ifE_f]; rfl
  | succ v ih =>
    intro k n c h0 hn hv hk hc
    obtain ⟨k, rfl⟩ : ∃ m, k = m + 1 := ⟨k - 1, by omega⟩
    simp only [spec_l01Val.l2, spec_l01Val.s2]
    rw [guardE_pos (by omega)]
    by_cases hd : Int.tmod n p = 0
    · obtain ⟨q, rfl, hq, ht, h⟩ := vl_step hp h0 hd
      have hqb : big63 q := by
        have h1 : (p * q).natAbs = p.natAbs * q.natAbs := Int.natAbs_mul _ _
        have h3 : 1 * q.natAbs ≤ p.natAbs * q.natAbs := Nat.mul_le_mul_right _ (by omega)
        unfold big63 at *; omega
      rw [show (Int.tmod (p * q) p == 0) = true from by simp [hd], ifE_t, guardE_pos (by omega), ht, W_id (n := q) (by unfold big63 at hqb; omega) (by unfold big63 at hqb; omega), W_id (n := (c : Int) + 1) (by omega) (by omega)]
      have := ih k q (c + 1) hq hqb (by omega) (by omega) (by omega)
      rw [show c + 1 + v = c + (v + 1) from by omega] at this
      exact this
    · exact absurd (vl_stop hp h0 hd) (by omega)
theorem spec_val_f {p n : Int} (hp : IsP p) (h0 : n ≠ 0) (hn : big63 n) : spec_l01Val.f p n = some (vl p n : Int) := by
  have h := vl_lt hp h0 hn
  have := spec_val_l hp (vl p n) fuelN n 0 h0 hn rfl (lt_fuel (by omega)) (by omega)
  unfold spec_l01Val.f
  rw [Nat.zero_add] at this
  exact this

theorem isP_dec (p : Int) : (if p = 2 then true else if p = 3 then true else if p = 5 then true else p == 7) = true ↔ IsP p := by
  unfold IsP
  by_cases h2 : p = 2
  · simp [h2]
  · by_cases h3 : p = 3
    · simp [h3]
    · by_cases h5 : p = 5
      · simp [h5]
      · simp [h2, h3, h5]
instance (p : Int) : Decidable (IsP p) := inferInstanceAs (Decidable (_ ∨ _))
theorem impl_isPrime_f (p : Int) : impl_isPrime.f p = some (decide (IsP p)) := by
  unfold impl_isPrime.f
  by_cases h2 : p = 2
  · subst h2; rfl
  · by_cases h3 : p = 3
    · subst h3; rfl
    · by_cases h5 : p = 5
      · subst h5; rfl
      · rw [beq_ne h2, ifE_f, beq_ne h3, ifE_f, beq_ne h5, ifE_f]
        congr 1
        by_cases h7 : p = 7
        · subst h7; rfl
        · rw [beq_ne h7, decide_eq_false]; unfold IsP; omega
theorem spec_l01Prime_f (p : Int) : spec_l01Prime.f p = some (decide (IsP p)) := impl_isPrime_f p

def isL (n : Int) : Prop := -6 ≤ n ∧ n ≤ 6
instance (n : Int) : Decidable (isL n) := inferInstanceAs (Decidable (_ ∧ _))
theorem impl_isLevel_f (n : Int) : impl_isLevel.f n = some (decide (isL n)) := by
  unfold impl_isLevel.f
  by_cases h : n ≥ -6
  · rw [ifE_pos h]; congr 1; rw [decide_eq_decide]; unfold isL; omega
  · rw [ifE_neg h]; congr 1; symm; exact decide_eq_false (by unfold isL; omega)
theorem spec_l01In_f (x a b : Int) : spec_l01In.f x a b = some (decide (a ≤ x ∧ x ≤ b)) := by
  unfold spec_l01In.f
  by_cases h : x ≥ a
  · rw [ifE_pos h]; congr 1; rw [decide_eq_decide]; omega
  · rw [ifE_neg h]; congr 1; symm; exact decide_eq_false (by omega)

/-! remainders -/
theorem tmod_emod {a m : Int} (hm : 0 < m) (hm2 : m ≤ 4611686018427387904) : Int.tmod (W (Int.tmod a m + m)) m = a % m := by
  have h1 := Int.tmod_lt_of_pos a hm
  have h2 : -m < Int.tmod a m := by
    have h3 : (Int.tmod a m).natAbs < m.natAbs := tmod_lt a m (by omega)
    omega
  rw [W_id (by omega) (by omega), Int.tmod_eq_emod_of_nonneg (by omega), Int.add_emod_right]
  have e : Int.tmod a m = a - m * Int.tdiv a m := by have := Int.tmod_add_mul_tdiv a m; omega
  rw [e, Int.sub_mul_emod_self_left]
theorem impl_mod_f {a m : Int} (hm : 0 < m) (hm2 : m ≤ 4611686018427387904) : impl_mod.f a m = some (a % m) := by
  unfold impl_mod.f
  rw [guardE_pos (by omega), guardE_pos (by omega), tmod_emod hm hm2]

theorem emod_range {a m : Int} (hm : 0 < m) : 0 ≤ a % m ∧ a % m < m := ⟨Int.emod_nonneg _ (by omega), Int.emod_lt_of_pos _ hm⟩

theorem spec_l01MulMod_f {a b m : Int} (hm : 0 < m) (hm2 : m ≤ 100000000000) : spec_l01MulMod.f a b m = some (a * b % m) := by
  unfold spec_l01MulMod.f
  have h0 : m ≠ 0 := by omega
  simp only [guardE_pos h0]
  rw [tmod_emod hm (by omega), tmod_emod hm (by omega)]
  have hA := emod_range (a := a) hm
  have hB := emod_range (a := b) hm
  have ec : a * b % m = (a % m) * (b % m) % m := Int.mul_emod a b m
  rw [ec]
  generalize a % m = A at *
  generalize b % m = B at *
  have e1 : Int.tdiv B 1000000 = B / 1000000 := Int.tdiv_eq_ediv_of_nonneg hB.1
  have e2 : Int.tmod B 1000000 = B % 1000000 := Int.tmod_eq_emod_of_nonneg hB.1
  have hh : 0 ≤ B / 1000000 ∧ B / 1000000 ≤ 100000 := by omega
  have hl : 0 ≤ B % 1000000 ∧ B % 1000000 < 1000000 := by omega
  have hBe : B = B / 1000000 * 1000000 + B % 1000000 := by omega
  rw [e1, e2]
  generalize B / 1000000 = H at *
  generalize B % 1000000 = Lw at *
  have p1 : 0 ≤ A * H ∧ A * H ≤ 100000000000 * 100000 := ⟨Int.mul_nonneg hA.1 hh.1, Int.mul_le_mul (by omega) hh.2 hh.1 (by omega)⟩
  have p2 : 0 ≤ A * Lw ∧ A * Lw ≤ 100000000000 * 1000000 := ⟨Int.mul_nonneg hA.1 hl.1, Int.mul_le_mul (by omega) (by omega) hl.1 (by omega)⟩
  rw [W_id (n := H) (by omega) (by omega), W_id (n := A * H) (by omega) (by omega), Int.tmod_eq_emod_of_nonneg p1.1]
  have p3 := emod_range (a := A * H) hm
  rw [W_id (n := A * H % m * 1000000) (by omega) (by omega), Int.tmod_eq_emod_of_nonneg (a := A * H % m * 1000000) (by omega)]
  have p4 := emod_range (a := A * H % m * 1000000) hm
  rw [W_id (n := A * Lw) (by omega) (by omega), Int.tmod_eq_emod_of_nonneg p2.1]
  have p5 := emod_range (a := A * Lw) hm
  rw [W_id (by omega) (by omega), Int.tmod_eq_emod_of_nonneg (by omega)]
  congr 1
  rw [hBe, Int.mul_add, ← Int.mul_assoc, Int.add_emod, Int.emod_emod, Int.emod_emod, Int.mul_emod (A * H % m), Int.emod_emod, ← Int.mul_emod, ← Int.add_emod]

/-! the inverse -/
theorem quo_facts {a b : Int} (ha : 0 ≤ a) (hb : 0 < b) : 0 ≤ Int.tdiv a b ∧ Int.tdiv a b * b ≤ a ∧ a - Int.tdiv a b * b < b ∧ Int.tdiv a b ≤ a ∧ a - Int.tdiv a b * b = Int.tmod a b := by
  have h1 := Int.tmod_add_mul_tdiv a b
  have h2 : 0 ≤ Int.tdiv a b := Int.tdiv_nonneg ha (by omega)
  have h3 := Int.tmod_nonneg b ha
  have h4 := Int.tmod_lt_of_pos a hb
  have h5 : Int.tdiv a b * b = b * Int.tdiv a b := Int.mul_comm _ _
  have h6 : Int.tdiv a b * 1 ≤ Int.tdiv a b * b := Int.mul_le_mul_of_nonneg_left (by omega) h2
  omega

/-- what holds while the inverse is sought -/
structure EInv (n m a b x y : Int) : Prop where
  a0 : 0 ≤ a
  b0 : 0 ≤ b
  am : a ≤ m
  bm : b ≤ m
  g : Int.gcd a b = 1
  xn : m ∣ x * n - a
  yn : m ∣ y * n - b
  xm : (x.natAbs : Int) ≤ m
  ym : (y.natAbs : Int) ≤ m
  s : (x.natAbs : Int) * b + (y.natAbs : Int) * a ≤ m

theorem EInv.next {n m a b x y : Int} (h : EInv n m a b x y) (hm : m ≤ 4000000000000000000) (hb : b ≠ 0) :
    EInv n m b (a - Int.tdiv a b * b) y (x - Int.tdiv a b * y) ∧ W (Int.tdiv a b) = Int.tdiv a b ∧ W (Int.tdiv a b * b) = Int.tdiv a b * b ∧ W (a - Int.tdiv a b * b) = a - Int.tdiv a b * b ∧
      W (Int.tdiv a b * y) = Int.tdiv a b * y ∧ W (x - Int.tdiv a b * y) = x - Int.tdiv a b * y := by
  obtain ⟨h1, h2, h3, h4, h5, h6, h7, h8, h9, h10⟩ := h
  have hb' : 0 < b := by omega
  obtain ⟨q1, q2, q3, q4, q5⟩ := quo_facts h1 hb'
  generalize hq : Int.tdiv a b = q at *
  have qy : ((q * y).natAbs : Int) = q * (y.natAbs : Int) := by rw [Int.natAbs_mul, Int.natCast_mul]; congr 1; omega
  have s1 : q * (y.natAbs : Int) * b ≤ (y.natAbs : Int) * a := by
    have : q * (y.natAbs : Int) * b = (y.natAbs : Int) * (q * b) := by grind
    rw [this]
    exact Int.mul_le_mul_of_nonneg_left q2 (by omega)
  have s2 : ((x.natAbs : Int) + q * (y.natAbs : Int)) * b ≤ m := by rw [Int.add_mul]; omega
  have s3 : 0 ≤ q * (y.natAbs : Int) := Int.mul_nonneg q1 (by omega)
  have s4 : ((x.natAbs : Int) + q * (y.natAbs : Int)) * 1 ≤ ((x.natAbs : Int) + q * (y.natAbs : Int)) * b := Int.mul_le_mul_of_nonneg_left (by omega) (by omega)
  have s5 : ((x - q * y).natAbs : Int) ≤ (x.natAbs : Int) + q * (y.natAbs : Int) := by omega
  refine ⟨⟨h2, by omega, h4, by omega, ?_, h7, ?_, h9, by omega, ?_⟩, W_id (by omega) (by omega), W_id (by omega) (by omega), W_id (by omega) (by omega), W_id (by omega) (by omega), W_id (by omega) (by omega)⟩
  · rw [q5, gcd_step a b hb, h5]
  · have e : (x - q * y) * n - (a - q * b) = (x * n - a) - q * (y * n - b) := by grind
    rw [e]; exact Int.dvd_sub h6 (Int.dvd_trans h7 (Int.dvd_mul_left _ _))
  · have t1 : ((x - q * y).natAbs : Int) * b ≤ ((x.natAbs : Int) + q * (y.natAbs : Int)) * b := Int.mul_le_mul_of_nonneg_right s5 h2
    have t2 : (y.natAbs : Int) * (a - q * b) = (y.natAbs : Int) * a - q * (y.natAbs : Int) * b := by grind
    rw [t2]
    rw [Int.add_mul] at t1
    omega

def IsInv (n m r : Int) : Prop := (0 ≤ r ∧ r < m) ∧ m ∣ r * n - 1

theorem inv_end {n m a x y : Int} (h : EInv n m a 0 x y) (hm : 0 < m) : IsInv n m (x % m) := by
  refine ⟨emod_range hm, ?_⟩
  have ha : a = 1 := by
    have := h.g
    rw [Int.gcd_zero_right] at this
    have := h.a0
    omega
  have h6 := h.xn
  rw [ha] at h6
  have e : x % m * n - 1 = (x * n - 1) - m * (x / m * n) := by
    have := Int.emod_add_mul_ediv x m
    have e2 : x % m = x - m * (x / m) := by omega
    rw [e2]; grind
  rw [e]; exact Int.dvd_sub h6 ⟨_, rfl⟩

theorem impl_inverse_l {n m : Int} (hm : 0 < m) (hm2 : m ≤ 4000000000000000000) : ∀ (k : Nat) (a b x y : Int), b.natAbs < k → EInv n m a b x y → ∃ r, impl_inverse.l2 k m a b x y = some r ∧ IsInv n m r := by
  intro k
  induction k with
  | zero => intro a b x y h; omega
  | succ k ih =>
    intro a b x y hk h
    simp only [impl_inverse.l2, impl_inverse.s2]
    by_cases hb : b = 0
    · subst hb
      rw [bne_eq rfl, ifE_f, impl_mod_f hm (by omega), Option.bind_some]
      exact ⟨_, rfl, inv_end h hm⟩
    · obtain ⟨h1, w1, w2, w3, w4, w5⟩ := h.next hm2 hb
      rw [bne_ne hb, ifE_t, guardE_pos hb, w1, w2, w3, w4, w5]
      have hlt := (quo_facts h.a0 (b := b) (by have := h.b0; omega)).2.2.1
      have hge := h1.b0
      have := h.b0
      exact ih _ _ _ _ (by omega) h1

theorem spec_inv_l {n m : Int} (hm : 0 < m) (hm2 : m ≤ 4000000000000000000) : ∀ (k : Nat) (a b x y : Int), b.natAbs < k → EInv n m a b x y → ∃ r, spec_l01InvMod.l2 k m a b x y = some r ∧ IsInv n m r := by
  intro k
  induction k with
  | zero => intro a b x y h; omega
  | succ k ih =>
    intro a b x y hk h
    simp only [spec_l01InvMod.l2, spec_l01InvMod.s2]
    by_cases hb : b = 0
    · subst hb
      rw [bne_eq rfl, ifE_f, guardE_pos (by omega), guardE_pos (by omega), tmod_emod hm (by omega)]
      exact ⟨_, rfl, inv_end h hm⟩
    · obtain ⟨h1, w1, w2, w3, w4, w5⟩ := h.next hm2 hb
      rw [bne_ne hb, ifE_t, guardE_pos hb, w1, w2, w3, w4, w5]
      have hlt := (quo_facts h.a0 (b := b) (by have := h.b0; omega)).2.2.1
      have hge := h1.b0
      have := h.b0
      exact ih _ _ _ _ (by omega) h1

theorem einv_start {n m : Int} (hm : 0 < m) (hg : Int.gcd n m = 1) : EInv n m (n % m) m 1 0 := by
  have h := emod_range (a := n) hm
  refine ⟨h.1, by omega, by omega, Int.le_refl _, ?_, ?_, ?_, by simp; omega, by simp; omega, by simp⟩
  · rw [← hg]
    have e2 : n % m = n - m * (n / m) := by have := Int.emod_add_mul_ediv n m; omega
    rw [e2, Int.gcd_sub_mul_left_left]
  · have := Int.emod_add_mul_ediv n m
    exact ⟨n / m, by omega⟩
  · exact ⟨-1, by omega⟩

theorem impl_inverse_f {n m : Int} (hm : 0 < m) (hm2 : m ≤ 4000000000000000000) (hg : Int.gcd n m = 1) : ∃ r, impl_inverse.f n m = some r ∧ IsInv n m r := by
  unfold impl_inverse.f
  rw [impl_mod_f hm (by omega), Option.bind_some]
  exact impl_inverse_l hm hm2 fuelN _ _ _ _ (lt_fuel (by omega)) (einv_start hm hg)
theorem spec_l01InvMod_f {n m : Int} (hm : 0 < m) (hm2 : m ≤ 4000000000000000000) (hg : Int.gcd n m = 1) : ∃ r, spec_l01InvMod.f n m = some r ∧ IsInv n m r := by
  unfold spec_l01InvMod.f
  rw [guardE_pos (by omega), guardE_pos (by omega), tmod_emod hm (by omega)]
  exact spec_inv_l hm hm2 fuelN _ _ _ _ (lt_fuel (by omega)) (einv_start hm hg)

end Go.Gn
end
section
set_option linter.unusedVariables false
set_option linter.unusedSimpArgs false
/-! plain: products and quotients of 64 bits -/
namespace Go.Gn
open Go Go.Eng Pl Pl.M2

theorem U64 (n : Int) : IntKind.wrap .u64 n = n % 18446744073709551616 := by
  simp [IntKind.wrap, IntKind.bits, IntKind.signed]
theorem u64_id {n : Int} (h0 : 0 ≤ n) (h1 : n < 18446744073709551616) : IntKind.wrap .u64 n = n := by rw [U64]; omega

theorem and32 {x : Int} (h0 : 0 ≤ x) (h1 : x < 18446744073709551616) : (((BitVec.ofInt 64 x) &&& (BitVec.ofInt 64 4294967295)).toNat : Int) = x % 4294967296 := by
  rw [BitVec.toNat_and]
  have e1 : (BitVec.ofInt 64 x).toNat = x.toNat := by simp [BitVec.toNat_ofInt]; omega
  have e2 : (BitVec.ofInt 64 4294967295).toNat = 2 ^ 32 - 1 := by decide
  rw [e1, e2, Nat.and_two_pow_sub_one_eq_mod]
  omega
theorem fd32 {x : Int} (h0 : 0 ≤ x) : Int.fdiv x (2 ^ 32) = x / 4294967296 := by
  rw [Int.fdiv_eq_ediv_of_nonneg _ (by decide)]; rfl

theorem Mul64_f {a b : Int} (ha : 0 ≤ a ∧ a < 18446744073709551616) (hb : 0 ≤ b ∧ b < 18446744073709551616) : math_bits_Mul64.f a b = some (a * b / 18446744073709551616, a * b % 18446744073709551616) := by
  unfold math_bits_Mul64.f
  have ha0 : 0 ≤ a % 4294967296 ∧ a % 4294967296 < 4294967296 := by omega
  have ha1 : 0 ≤ a / 4294967296 ∧ a / 4294967296 < 4294967296 := by omega
  have hb0 : 0 ≤ b % 4294967296 ∧ b % 4294967296 < 4294967296 := by omega
  have hb1 : 0 ≤ b / 4294967296 ∧ b / 4294967296 < 4294967296 := by omega
  have eab : a * b = (a / 4294967296) * (b / 4294967296) * 18446744073709551616 + ((a / 4294967296) * (b % 4294967296) + (a % 4294967296) * (b / 4294967296)) * 4294967296 + (a % 4294967296) * (b % 4294967296) := by
    have e1 : a = a / 4294967296 * 4294967296 + a % 4294967296 := by omega
    have e2 : b = b / 4294967296 * 4294967296 + b % 4294967296 := by omega
    generalize a / 4294967296 = x1 at *
    generalize a % 4294967296 = x0 at *
    generalize b / 4294967296 = y1 at *
    generalize b % 4294967296 = y0 at *
    rw [e1, e2]; grind
  rw [and32 ha.1 ha.2, and32 hb.1 hb.2, fd32 ha.1, fd32 hb.1]
  generalize a / 4294967296 = x1 at *
  generalize a % 4294967296 = x0 at *
  generalize b / 4294967296 = y1 at *
  generalize b % 4294967296 = y0 at *
  have mb : ∀ {x y : Int}, 0 ≤ x ∧ x < 4294967296 → 0 ≤ y ∧ y < 4294967296 → 0 ≤ x * y ∧ x * y ≤ 18446744065119617025 := fun {x y} hx hy =>
    ⟨Int.mul_nonneg hx.1 hy.1, by have := Int.mul_le_mul (a := x) (b := y) (c := 4294967295) (d := 4294967295) (by omega) (by omega) hy.1 (by omega); omega⟩
  have p11 := mb ha1 hb1
  have p10 := mb ha1 hb0
  have p01 := mb ha0 hb1
  have p00 := mb ha0 hb0
  generalize x1 * y1 = P11 at *
  rw [u64_id (n := x0) (by omega) (by omega), u64_id (n := y0) (by omega) (by omega)]
  generalize x1 * y0 = P10 at *
  generalize x0 * y1 = P01 at *
  generalize x0 * y0 = P00 at *
  rw [u64_id (n := P11) (by omega) (by omega), u64_id (n := P10) (by omega) (by omega), u64_id (n := P01) (by omega) (by omega), u64_id (n := P00) (by omega) (by omega), fd32 (x := P00) (by omega)]
  rw [u64_id (n := P10 + P00 / 4294967296) (by omega) (by omega)]
  rw [and32 (x := P10 + P00 / 4294967296) (by omega) (by omega), fd32 (x := P10 + P00 / 4294967296) (by omega)]
  rw [u64_id (n := (P10 + P00 / 4294967296) % 4294967296) (by omega) (by omega), u64_id (n := (P10 + P00 / 4294967296) % 4294967296 + P01) (by omega) (by omega), fd32 (x := (P10 + P00 / 4294967296) % 4294967296 + P01) (by omega)]
  rw [u64_id (n := P11 + (P10 + P00 / 4294967296) / 4294967296) (by omega) (by omega), u64_id (by omega) (by omega), U64]
  congr 2
  rw [eab]; omega

def lenTab : List UInt8 := [0, 1, 2, 2, 3, 3, 3, 3, 4, 4, 4, 4, 4, 4, 4, 4, 5, 5, 5, 5, 5, 5, 5, 5, 5, 5, 5, 5, 5, 5, 5, 5, 6, 6, 6, 6, 6, 6, 6, 6, 6, 6, 6, 6, 6, 6, 6, 6, 6, 6, 6, 6, 6, 6, 6, 6, 6, 6, 6, 6, 6, 6, 6, 6, 7, 7, 7, 7, 7, 7, 7, 7, 7, 7, 7, 7, 7, 7, 7, 7, 7, 7, 7, 7, 7, 7, 7, 7, 7, 7, 7, 7, 7, 7, 7, 7, 7, 7, 7, 7, 7, 7, 7, 7, 7, 7, 7, 7, 7, 7, 7, 7, 7, 7, 7, 7, 7, 7, 7, 7, 7, 7, 7, 7, 7, 7, 7, 7, 8, 8, 8, 8, 8, 8, 8, 8, 8, 8, 8, 8, 8, 8, 8, 8, 8, 8, 8, 8, 8, 8, 8, 8, 8, 8, 8, 8, 8, 8, 8, 8, 8, 8, 8, 8, 8, 8, 8, 8, 8, 8, 8, 8, 8, 8, 8, 8, 8, 8, 8, 8, 8, 8, 8, 8, 8, 8, 8, 8, 8, 8, 8, 8, 8, 8, 8, 8, 8, 8, 8, 8, 8, 8, 8, 8, 8, 8, 8, 8, 8, 8, 8, 8, 8, 8, 8, 8, 8, 8, 8, 8, 8, 8, 8, 8, 8, 8, 8, 8, 8, 8, 8, 8, 8, 8, 8, 8, 8, 8, 8, 8, 8, 8, 8, 8, 8, 8, 8, 8, 8, 8, 8, 8, 8, 8, 8, 8]
theorem lenTab_all : ∀ i : Fin 256, (lenTab[i.1]?.getD 0).toNat ≤ 8 ∧ i.1 < 2 ^ (lenTab[i.1]?.getD 0).toNat ∧ (i.1 = 0 ∨ 2 ^ ((lenTab[i.1]?.getD 0).toNat - 1) ≤ i.1) := by decide +kernel
theorem lenTab_get {x : Int} (h0 : 0 ≤ x) (h1 : x < 256) : ∃ t : UInt8, getB (bs [0, 1, 2, 2, 3, 3, 3, 3, 4, 4, 4, 4, 4, 4, 4, 4, 5, 5, 5, 5, 5, 5, 5, 5, 5, 5, 5, 5, 5, 5, 5, 5, 6, 6, 6, 6, 6, 6, 6, 6, 6, 6, 6, 6, 6, 6, 6, 6, 6, 6, 6, 6, 6, 6, 6, 6, 6, 6, 6, 6, 6, 6, 6, 6, 7, 7, 7, 7, 7, 7, 7, 7, 7, 7, 7, 7, 7, 7, 7, 7, 7, 7, 7, 7, 7, 7, 7, 7, 7, 7, 7, 7, 7, 7, 7, 7, 7, 7, 7, 7, 7, 7, 7, 7, 7, 7, 7, 7, 7, 7, 7, 7, 7, 7, 7, 7, 7, 7, 7, 7, 7, 7, 7, 7, 7, 7, 7, 7, 8, 8, 8, 8, 8, 8, 8, 8, 8, 8, 8, 8, 8, 8, 8, 8, 8, 8, 8, 8, 8, 8, 8, 8, 8, 8, 8, 8, 8, 8, 8, 8, 8, 8, 8, 8, 8, 8, 8, 8, 8, 8, 8, 8, 8, 8, 8, 8, 8, 8, 8, 8, 8, 8, 8, 8, 8, 8, 8, 8, 8, 8, 8, 8, 8, 8, 8, 8, 8, 8, 8, 8, 8, 8, 8, 8, 8, 8, 8, 8, 8, 8, 8, 8, 8, 8, 8, 8, 8, 8, 8, 8, 8, 8, 8, 8, 8, 8, 8, 8, 8, 8, 8, 8, 8, 8, 8, 8, 8, 8, 8, 8, 8, 8, 8, 8, 8, 8, 8, 8, 8, 8, 8, 8, 8, 8, 8, 8]) x = some t ∧ t.toNat ≤ 8 ∧ x < 2 ^ t.toNat ∧ (x = 0 ∨ 2 ^ (t.toNat - 1) ≤ x) := by
  have h := lenTab_all ⟨x.toNat, by omega⟩
  simp only at h
  have hl : lenTab.length = 256 := by decide +kernel
  have hlt : x.toNat < lenTab.length := by omega
  have e : lenTab[x.toNat]? = some lenTab[x.toNat] := by simp [hlt]
  rw [e, Option.getD_some] at h
  refine ⟨lenTab[x.toNat], ?_, h.1, ?_, ?_⟩
  · unfold getB bs
    rw [if_pos h0]
    show (⟨lenTab.toArray⟩ : ByteArray)[x.toNat]? = _
    have hs : x.toNat < (⟨lenTab.toArray⟩ : ByteArray).size := by show _ < lenTab.toArray.size; rw [List.size_toArray]; exact hlt
    rw [getElem?_pos (⟨lenTab.toArray⟩ : ByteArray) x.toNat hs]
    rfl
  · have := h.2.1
    have e2 : ((2 ^ (lenTab[x.toNat]).toNat : Nat) : Int) = (2 : Int) ^ (lenTab[x.toNat]).toNat := by simp
    omega
  · have := h.2.2
    have e2 : ((2 ^ ((lenTab[x.toNat]).toNat - 1) : Nat) : Int) = (2 : Int) ^ ((lenTab[x.toNat]).toNat - 1) := by simp
    omega


theorem pow2_succ (n : Nat) : (2 : Int) ^ (n + 1) = 2 ^ n * 2 := Int.pow_succ 2 n
theorem p2pos (n : Nat) : (0 : Int) < 2 ^ n := Int.pow_pos (by omega)

/-- the length in bits -/
theorem Len64_j7 {x : Int} (h0 : 1 ≤ x) (h1 : x < 65536) {c : Int} (hc : 0 ≤ c ∧ c ≤ 100) : ∃ n : Nat, math_bits_Len64.j7 x c = some (c + n) ∧ 1 ≤ n ∧ n ≤ 16 ∧ x < 2 ^ n ∧ 2 ^ (n - 1) ≤ x := by
  unfold math_bits_Len64.j7
  by_cases h : x ≥ 256
  · rw [ifE_pos h]
    have e1 : Int.fdiv x (2 ^ 8) = x / 256 := by rw [Int.fdiv_eq_ediv_of_nonneg _ (by decide)]; rfl
    have e2 : IntKind.wrap .u8 (x / 256) = x / 256 := by simp [IntKind.wrap, IntKind.bits, IntKind.signed]; omega
    obtain ⟨t, g1, g2, g3, g4⟩ := lenTab_get (x := x / 256) (by omega) (by omega)
    rw [e1, e2]
    rw [g1, Option.bind_some]
    have ht : t.toNat ≠ 0 := by intro h; rw [h] at g3; simp at g3; omega
    refine ⟨8 + t.toNat, ?_, by omega, by omega, ?_, ?_⟩
    · rw [W_id (n := c + 8) (by omega) (by omega), W_id (n := (t.toNat : Int)) (by omega) (by omega), W_id (by omega) (by omega)]; congr 1; omega
    · rw [Int.pow_add]; have : (2 : Int) ^ 8 = 256 := by decide
      rw [this]; omega
    · have : (2 : Int) ^ (8 + t.toNat - 1) = 256 * 2 ^ (t.toNat - 1) := by rw [show 8 + t.toNat - 1 = 8 + (t.toNat - 1) from by omega, Int.pow_add]; rfl
      rw [this]; omega
  · rw [ifE_neg h]
    have e2 : IntKind.wrap .u8 x = x := by simp [IntKind.wrap, IntKind.bits, IntKind.signed]; omega
    obtain ⟨t, g1, g2, g3, g4⟩ := lenTab_get (x := x) (by omega) (by omega)
    rw [e2, g1, Option.bind_some]
    have ht : t.toNat ≠ 0 := by intro h; rw [h] at g3; simp at g3; omega
    refine ⟨t.toNat, ?_, by omega, by omega, g3, by omega⟩
    rw [W_id (n := (t.toNat : Int)) (by omega) (by omega), W_id (by omega) (by omega)]

theorem shr_len {x : Int} {k n : Nat} (h0 : 1 ≤ n) (h1 : x / 2 ^ k < 2 ^ n) (h2 : 2 ^ (n - 1) ≤ x / 2 ^ k) : x < 2 ^ (k + n) ∧ 2 ^ (k + n - 1) ≤ x := by
  have hk := p2pos k
  have e1 := Int.mul_ediv_add_emod x (2 ^ k)
  have e2 := Int.emod_nonneg x (b := 2 ^ k) (by omega)
  have e3 := Int.emod_lt_of_pos x hk
  rw [show k + n - 1 = k + (n - 1) from by omega, Int.pow_add, Int.pow_add]
  have a1 : 2 ^ k * (x / 2 ^ k + 1) ≤ 2 ^ k * 2 ^ n := Int.mul_le_mul_of_nonneg_left (by omega) (by omega)
  have a2 : (2 : Int) ^ k * 2 ^ (n - 1) ≤ 2 ^ k * (x / 2 ^ k) := Int.mul_le_mul_of_nonneg_left h2 (by omega)
  rw [Int.mul_add] at a1
  omega

theorem Len64_f {x : Int} (h0 : 1 ≤ x) (h1 : x < 18446744073709551616) : ∃ n : Nat, math_bits_Len64.f x = some (n : Int) ∧ 1 ≤ n ∧ n ≤ 64 ∧ x < 2 ^ n ∧ 2 ^ (n - 1) ≤ x := by
  have f32 : ∀ y : Int, Int.fdiv y (2 ^ 32) = y / 2 ^ 32 := fun y => Int.fdiv_eq_ediv_of_nonneg _ (by decide)
  have f16 : ∀ y : Int, Int.fdiv y (2 ^ 16) = y / 2 ^ 16 := fun y => Int.fdiv_eq_ediv_of_nonneg _ (by decide)
  have e32 : (2 : Int) ^ 32 = 4294967296 := by decide
  have e16 : (2 : Int) ^ 16 = 65536 := by decide
  have j4 : ∀ (y c : Int), 1 ≤ y → y < 4294967296 → 0 ≤ c → c ≤ 32 → ∃ n : Nat, math_bits_Len64.j4 y c = some (c + n) ∧ 1 ≤ n ∧ n ≤ 32 ∧ y < 2 ^ n ∧ 2 ^ (n - 1) ≤ y := by
    intro y c hy0 hy1 hc0 hc1
    unfold math_bits_Len64.j4
    by_cases h : y ≥ 65536
    · rw [ifE_pos h, f16, W_id (n := c + 16) (by omega) (by omega)]
      obtain ⟨n, g1, g2, g3, g4, g5⟩ := Len64_j7 (x := y / 2 ^ 16) (by omega) (by omega) (c := c + 16) (by omega)
      obtain ⟨k1, k2⟩ := shr_len g2 g4 g5
      refine ⟨16 + n, ?_, by omega, by omega, k1, k2⟩
      rw [g1]; congr 1; omega
    · rw [ifE_neg h]
      obtain ⟨n, g1, g2, g3, g4, g5⟩ := Len64_j7 (x := y) hy0 (by omega) (c := c) (by omega)
      exact ⟨n, g1, g2, by omega, g4, g5⟩
  unfold math_bits_Len64.f
  by_cases h : x ≥ 4294967296
  · rw [ifE_pos h, f32]
    obtain ⟨n, g1, g2, g3, g4, g5⟩ := j4 (x / 2 ^ 32) 32 (by omega) (by omega) (by omega) (by omega)
    obtain ⟨k1, k2⟩ := shr_len g2 g4 g5
    refine ⟨32 + n, ?_, by omega, by omega, k1, k2⟩
    rw [g1]; congr 1
  · rw [ifE_neg h]
    obtain ⟨n, g1, g2, g3, g4, g5⟩ := j4 x 0 h0 (by omega) (by omega) (by omega)
    refine ⟨n, ?_, g2, by omega, g4, g5⟩
    rw [g1]; congr 1; omega

/-- one digit of the quotient -/
structure Knuth (U d Y y1 y0 : Int) : Prop where
  ku0 : 0 ≤ U
  kuY : U < Y
  kd0 : 0 ≤ d
  kd1 : d < 4294967296
  k00 : 0 ≤ y0
  k01 : y0 < 4294967296
  k10 : 2147483648 ≤ y1
  k11 : y1 < 4294967296
  kY : Y = y1 * 4294967296 + y0

section
variable {U d Y y1 y0 : Int} (h : Knuth U d Y y1 y0) {q r : Int}
include h
/-- the digit that is sought -/
theorem Knuth.star : 0 ≤ (U * 4294967296 + d) / Y ∧ (U * 4294967296 + d) / Y < 4294967296 := by
  obtain ⟨a1, a2, a3, a4, a5, a6, a7, a8, a9⟩ := h
  have hY : 0 < Y := by omega
  refine ⟨Int.ediv_nonneg (by omega) (by omega), Int.ediv_lt_of_lt_mul hY ?_⟩
  have : 4294967296 * (U + 1) ≤ 4294967296 * Y := by omega
  omega
theorem Knuth.keep (hr : r = U - q * y1) (hq : (U * 4294967296 + d) / Y ≤ q) (hc : q ≥ 4294967296 ∨ q * y0 > 4294967296 * r + d) : (U * 4294967296 + d) / Y ≤ q - 1 := by
  have hs := h.star
  obtain ⟨a1, a2, a3, a4, a5, a6, a7, a8, a9⟩ := h
  have hY : 0 < Y := by omega
  rcases hc with hc | hc
  · omega
  · have e : q * Y = (U - r) * 4294967296 + q * y0 := by rw [a9, hr]; grind
    have hgt : q * Y > U * 4294967296 + d := by omega
    have : (U * 4294967296 + d) / Y < q := Int.ediv_lt_of_lt_mul hY (by omega)
    omega
theorem Knuth.stop (hr : r = U - q * y1) (hq : (U * 4294967296 + d) / Y ≤ q) (hc : ¬ q * y0 > 4294967296 * r + d) : q = (U * 4294967296 + d) / Y := by
  obtain ⟨a1, a2, a3, a4, a5, a6, a7, a8, a9⟩ := h
  have hY : 0 < Y := by omega
  have e : q * Y = (U - r) * 4294967296 + q * y0 := by rw [a9, hr]; grind
  have : q ≤ (U * 4294967296 + d) / Y := Int.le_ediv_of_mul_le hY (by omega)
  omega
theorem Knuth.brk (hr : r = U - q * y1) (hq : (U * 4294967296 + d) / Y ≤ q) (hc : r ≥ 4294967296) : q = (U * 4294967296 + d) / Y := by
  have hs := h.star
  obtain ⟨a1, a2, a3, a4, a5, a6, a7, a8, a9⟩ := h
  have hY : 0 < Y := by omega
  have hq2 : q < 4294967296 := by
    rcases Int.lt_or_le q 4294967296 with h | h
    · exact h
    · exfalso
      have : 4294967296 * y1 ≤ q * y1 := Int.mul_le_mul_of_nonneg_right h (by omega)
      omega
  have e : q * Y = (U - r) * 4294967296 + q * y0 := by rw [a9, hr]; grind
  have h2 : q * y0 ≤ 4294967296 * y0 := Int.mul_le_mul_of_nonneg_right (by omega) a5
  have : q ≤ (U * 4294967296 + d) / Y := Int.le_ediv_of_mul_le hY (by omega)
  omega
theorem Knuth.first : (U * 4294967296 + d) / Y ≤ Int.tdiv U y1 ∧ Int.tdiv U y1 < 8589934592 ∧ 0 ≤ U - Int.tdiv U y1 * y1 ∧ U - Int.tdiv U y1 * y1 < 4294967296 := by
  have hs := h.star
  obtain ⟨a1, a2, a3, a4, a5, a6, a7, a8, a9⟩ := h
  obtain ⟨q1, q2, q3, q4, q5⟩ := quo_facts (b := y1) a1 (by omega)
  have hY : 0 < Y := by omega
  refine ⟨?_, ?_, by omega, by omega⟩
  · have h1 : (U * 4294967296 + d) / Y < Int.tdiv U y1 + 1 := by
      refine Int.ediv_lt_of_lt_mul hY ?_
      have e : (Int.tdiv U y1 + 1) * Y = (Int.tdiv U y1 + 1) * y1 * 4294967296 + (Int.tdiv U y1 + 1) * y0 := by rw [a9]; grind
      have h2 : 0 ≤ (Int.tdiv U y1 + 1) * y0 := Int.mul_nonneg (by omega) a5
      have h3 : (Int.tdiv U y1 + 1) * y1 = Int.tdiv U y1 * y1 + y1 := by grind
      omega
    omega
  · rcases Int.lt_or_le (Int.tdiv U y1) 8589934592 with h | h
    · exact h
    · exfalso
      have : 8589934592 * y1 ≤ Int.tdiv U y1 * y1 := Int.mul_le_mul_of_nonneg_right h (by omega)
      omega
end

theorem u64_sub {a b c : Int} : IntKind.wrap .u64 ((IntKind.wrap .u64 ((IntKind.wrap .u64 a) + b)) - (IntKind.wrap .u64 c)) = (a + b - c) % 18446744073709551616 := by
  simp only [U64]; omega

/-- the rest behind a digit -/
theorem Knuth.rest {U d Y y1 y0 : Int} (h : Knuth U d Y y1 y0) (hY : Y < 18446744073709551616) {q : Int} (hq : q = (U * 4294967296 + d) / Y) :
    (U * 4294967296 + d - q * Y) % 18446744073709551616 = (U * 4294967296 + d) % Y := by
  obtain ⟨a1, a2, a3, a4, a5, a6, a7, a8, a9⟩ := h
  have h1 := Int.emod_add_mul_ediv (U * 4294967296 + d) Y
  have h2 := emod_range (a := U * 4294967296 + d) (m := Y) (by omega)
  have h3 : q * Y = Y * q := Int.mul_comm _ _
  rw [hq] at *
  omega

theorem Div64_l24 {U d Y y1 y0 s Q1 : Int} (h : Knuth U d Y y1 y0) (hY : Y < 18446744073709551616) (hs : 0 ≤ s ∧ s < ((64 : Nat) : Int)) : ∀ (k : Nat) (q r : Int), (q - (U * 4294967296 + d) / Y).toNat < k → (U * 4294967296 + d) / Y ≤ q → q < 8589934592 → r = U - q * y1 → 0 ≤ r → r < 4294967296 →
    ∃ z, math_bits_Div64.l24 k Y s y1 y0 d Q1 r U q = some (z, Int.fdiv ((U * 4294967296 + d) % Y) (2 ^ (Int.toNat s))) := by
  have hst := h.star
  have h0 := h
  obtain ⟨a1, a2, a3, a4, a5, a6, a7, a8, a9⟩ := h0
  intro k
  induction k with
  | zero => intro q r hk; omega
  | succ k ih =>
    intro q r hk hq hq2 hr hr0 hr1
    have key : (q ≥ 4294967296 ∨ q * y0 > 4294967296 * r + d) → ∃ z, math_bits_Div64.j25 (math_bits_Div64.l24 k) Y s y1 y0 d Q1 r U q = some (z, Int.fdiv ((U * 4294967296 + d) % Y) (2 ^ (Int.toNat s))) := by
      intro hc
      have hk' := h.keep hr hq hc
      have hr2 : r + y1 = U - (q - 1) * y1 := by rw [hr]; grind
      unfold math_bits_Div64.j25
      rw [u64_id (n := r + y1) (by omega) (by omega), u64_id (n := q - 1) (by omega) (by omega)]
      by_cases hb : r + y1 ≥ 4294967296
      · rw [ifE_pos hb, guardE_pos hs, u64_sub, h.rest hY (h.brk hr2 hk' hb)]
        exact ⟨_, rfl⟩
      · rw [ifE_neg hb]
        exact ih (q - 1) (r + y1) (by omega) hk' (by omega) hr2 (by omega) (by omega)
    simp only [math_bits_Div64.l24, math_bits_Div64.s24]
    by_cases hc : q ≥ 4294967296
    · rw [ifE_pos hc]; exact key (.inl hc)
    · rw [ifE_neg hc]
      have hqy : 0 ≤ q * y0 ∧ q * y0 ≤ 4294967296 * 4294967295 := ⟨Int.mul_nonneg (by omega) a5, Int.mul_le_mul (by omega) (by omega) a5 (by omega)⟩
      rw [u64_id (n := q * y0) (by omega) (by omega), u64_id (n := 4294967296 * r) (by omega) (by omega), u64_id (n := 4294967296 * r + d) (by omega) (by omega)]
      by_cases hc2 : q * y0 > 4294967296 * r + d
      · rw [ifE_pos hc2]; exact key (.inr hc2)
      · rw [ifE_neg hc2, guardE_pos hs, u64_sub, h.rest hY (h.stop hr hq hc2)]
        exact ⟨_, rfl⟩

theorem Div64_l17 {U d d' Y y1 y0 s : Int} (h : Knuth U d Y y1 y0) (hd' : 0 ≤ d' ∧ d' < 4294967296) (hY : Y < 18446744073709551616) (hs : 0 ≤ s ∧ s < ((64 : Nat) : Int)) : ∀ (k : Nat) (q r : Int), (q - (U * 4294967296 + d) / Y).toNat < k → (U * 4294967296 + d) / Y ≤ q → q < 8589934592 → r = U - q * y1 → 0 ≤ r → r < 4294967296 →
    ∃ z, math_bits_Div64.l17 k Y s y1 y0 U d d' q r = some (z, Int.fdiv (((U * 4294967296 + d) % Y * 4294967296 + d') % Y) (2 ^ (Int.toNat s))) := by
  have hst := h.star
  have h0 := h
  obtain ⟨a1, a2, a3, a4, a5, a6, a7, a8, a9⟩ := h0
  have hYp : 0 < Y := by omega
  have hR := emod_range (a := U * 4294967296 + d) hYp
  have h2 : Knuth ((U * 4294967296 + d) % Y) d' Y y1 y0 := ⟨hR.1, hR.2, hd'.1, hd'.2, a5, a6, a7, a8, a9⟩
  -- the second digit
  have second : ∀ q1 : Int, ∃ z, math_bits_Div64.l24 fuelN Y s y1 y0 d' q1 (IntKind.wrap .u64 ((U * 4294967296 + d) % Y - (IntKind.wrap .u64 ((IntKind.wrap .u64 (Int.tdiv ((U * 4294967296 + d) % Y) y1)) * y1)))) ((U * 4294967296 + d) % Y) (IntKind.wrap .u64 (Int.tdiv ((U * 4294967296 + d) % Y) y1)) =
      some (z, Int.fdiv (((U * 4294967296 + d) % Y * 4294967296 + d') % Y) (2 ^ (Int.toNat s))) := by
    intro q1
    obtain ⟨f1, f2, f3, f4⟩ := h2.first
    have hst2 := h2.star
    obtain ⟨g1, g2, -⟩ := quo_facts (b := y1) hR.1 (by omega)
    have g3 : 0 ≤ Int.tdiv ((U * 4294967296 + d) % Y) y1 * y1 := Int.mul_nonneg g1 (by omega)
    rw [u64_id (n := Int.tdiv ((U * 4294967296 + d) % Y) y1) (by omega) (by omega), u64_id (n := Int.tdiv ((U * 4294967296 + d) % Y) y1 * y1) (by omega) (by omega), u64_id (by omega) (by omega)]
    exact Div64_l24 h2 hY hs fuelN _ _ (lt_fuel (by omega)) f1 f2 rfl f3 f4
  intro k
  induction k with
  | zero => intro q r hk; omega
  | succ k ih =>
    intro q r hk hq hq2 hr hr0 hr1
    have key : (q ≥ 4294967296 ∨ q * y0 > 4294967296 * r + d) → ∃ z, math_bits_Div64.j18 (math_bits_Div64.l17 k) Y s y1 y0 U d d' q r = some (z, Int.fdiv (((U * 4294967296 + d) % Y * 4294967296 + d') % Y) (2 ^ (Int.toNat s))) := by
      intro hc
      have hk' := h.keep hr hq hc
      have hr2 : r + y1 = U - (q - 1) * y1 := by rw [hr]; grind
      unfold math_bits_Div64.j18
      rw [u64_id (n := r + y1) (by omega) (by omega), u64_id (n := q - 1) (by omega) (by omega)]
      by_cases hb : r + y1 ≥ 4294967296
      · rw [ifE_pos hb, guardE_pos (by omega), u64_sub, h.rest hY (h.brk hr2 hk' hb)]
        exact second _
      · rw [ifE_neg hb]
        exact ih (q - 1) (r + y1) (by omega) hk' (by omega) hr2 (by omega) (by omega)
    simp only [math_bits_Div64.l17, math_bits_Div64.s17]
    by_cases hc : q ≥ 4294967296
    · rw [ifE_pos hc]; exact key (.inl hc)
    · rw [ifE_neg hc]
      have hqy : 0 ≤ q * y0 ∧ q * y0 ≤ 4294967296 * 4294967295 := ⟨Int.mul_nonneg (by omega) a5, Int.mul_le_mul (by omega) (by omega) a5 (by omega)⟩
      rw [u64_id (n := q * y0) (by omega) (by omega), u64_id (n := 4294967296 * r) (by omega) (by omega), u64_id (n := 4294967296 * r + d) (by omega) (by omega)]
      by_cases hc2 : q * y0 > 4294967296 * r + d
      · rw [ifE_pos hc2]; exact key (.inr hc2)
      · rw [ifE_neg hc2, guardE_pos (by omega), u64_sub, h.rest hY (h.stop hr hq hc2)]
        exact second _


theorem or_add {a z : Int} {s : Nat} (ha : 0 ≤ a) (hx : a * 2 ^ s < 18446744073709551616) (hz : 0 ≤ z) (hz2 : z < 2 ^ s) (hsum : a * 2 ^ s + z < 18446744073709551616) :
    (((BitVec.ofInt 64 (a * 2 ^ s)) ||| (BitVec.ofInt 64 z)).toNat : Int) = a * 2 ^ s + z := by
  have hp := p2pos s
  have hx0 : 0 ≤ a * 2 ^ s := Int.mul_nonneg ha (by omega)
  rw [BitVec.toNat_or]
  have e1 : (BitVec.ofInt 64 (a * 2 ^ s)).toNat = 2 ^ s * a.toNat := by
    have h1 : (BitVec.ofInt 64 (a * 2 ^ s)).toNat = (a * 2 ^ s).toNat := by simp [BitVec.toNat_ofInt]; omega
    have h2 : (((2 ^ s * a.toNat : Nat)) : Int) = a * 2 ^ s := by
      rw [Int.natCast_mul, Int.natCast_pow]
      have : ((a.toNat : Nat) : Int) = a := by omega
      rw [this, Int.mul_comm]; rfl
    omega
  have e2 : (BitVec.ofInt 64 z).toNat = z.toNat := by simp [BitVec.toNat_ofInt]; omega
  rw [e1, e2]
  have hlt : z.toNat < 2 ^ s := by
    have : (((2 ^ s : Nat)) : Int) = (2 : Int) ^ s := by simp
    omega
  rw [← Nat.two_pow_add_eq_or_of_lt hlt]
  have h2 : (((2 ^ s * a.toNat : Nat)) : Int) = a * 2 ^ s := by
    rw [Int.natCast_mul, Int.natCast_pow]
    have : ((a.toNat : Nat) : Int) = a := by omega
    rw [this, Int.mul_comm]; rfl
  omega

theorem Div64_f {hi lo y : Int} (hy : 1 ≤ y) (hy2 : y < 9223372036854775808) (hh : 0 ≤ hi ∧ hi < y) (hl : 0 ≤ lo ∧ lo < 18446744073709551616) :
    ∃ z, math_bits_Div64.f hi lo y = some (z, (hi * 18446744073709551616 + lo) % y) := by
  unfold math_bits_Div64.f
  rw [beq_ne (by omega), ifE_f, ifE_neg (by omega)]
  by_cases h0 : hi = 0
  · subst h0
    rw [show ((0 : Int) == 0) = true from rfl, ifE_t, guardE_pos (by omega), guardE_pos (by omega), Int.zero_mul, Int.zero_add, Int.tmod_eq_emod_of_nonneg hl.1]
    exact ⟨_, rfl⟩
  · rw [beq_ne h0, ifE_f]
    obtain ⟨n, l1, l2, l3, l4, l5⟩ := Len64_f hy (by omega)
    have hn : n ≤ 63 := by
      rcases Nat.lt_or_ge n 64 with h | h
      · omega
      · exfalso
        have : n = 64 := by omega
        subst this
        have : (2 : Int) ^ (64 - 1) = 9223372036854775808 := by decide
        omega
    have hlz : math_bits_LeadingZeros64.f y = some ((64 - n : Nat) : Int) := by
      unfold math_bits_LeadingZeros64.f
      rw [l1, Option.bind_some, W_id (by omega) (by omega)]; congr 1; omega
    rw [hlz, Option.bind_some]
    obtain ⟨s, hs⟩ : ∃ s, s = 64 - n := ⟨_, rfl⟩
    rw [← hs]
    have hs1 : 1 ≤ s ∧ s ≤ 63 := by omega
    have hw : IntKind.wrap .u64 (s : Int) = (s : Int) := u64_id (by omega) (by omega)
    have hw2 : IntKind.wrap .u64 (64 - (s : Int)) = ((64 - s : Nat) : Int) := by rw [u64_id (by omega) (by omega)]; omega
    rw [hw, hw2]
    have g1 : 0 ≤ (s : Int) ∧ (s : Int) < ((64 : Nat) : Int) := by omega
    have g2 : 0 ≤ ((64 - s : Nat) : Int) ∧ ((64 - s : Nat) : Int) < ((64 : Nat) : Int) := by omega
    have t1 : Int.toNat (s : Int) = s := by omega
    have t2 : Int.toNat ((64 - s : Nat) : Int) = 64 - s := by omega
    rw [guardE_pos g1, guardE_pos g1, guardE_pos g2, guardE_pos g1, t1, t2]
    have hp := p2pos s
    have hps := p2pos (64 - s)
    have e64 : (2 : Int) ^ n * 2 ^ s = 18446744073709551616 := by
      rw [← Int.pow_add, show n + s = 64 from by omega]; decide
    have e64' : (2 : Int) ^ (64 - s) * 2 ^ s = 18446744073709551616 := by
      rw [← Int.pow_add, show 64 - s + s = 64 from by omega]; decide
    have e63 : (2 : Int) ^ (n - 1) * 2 ^ s = 9223372036854775808 := by
      rw [← Int.pow_add, show n - 1 + s = 63 from by omega]; decide
    have hYlt : y * 2 ^ s < 18446744073709551616 := by rw [← e64]; exact Int.mul_lt_mul_of_pos_right l4 hp
    have hYge : 9223372036854775808 ≤ y * 2 ^ s := by rw [← e63]; exact Int.mul_le_mul_of_nonneg_right l5 (by omega)
    have hhy : hi * 2 ^ s + 2 ^ s ≤ y * 2 ^ s := by
      have : (hi + 1) * 2 ^ s ≤ y * 2 ^ s := Int.mul_le_mul_of_nonneg_right (by omega) (by omega)
      rw [Int.add_mul] at this; omega
    have hh0 : 0 ≤ hi * 2 ^ s := Int.mul_nonneg hh.1 (by omega)
    -- the low part, parted
    have hfd : Int.fdiv lo (2 ^ (64 - s)) = lo / 2 ^ (64 - s) := Int.fdiv_eq_ediv_of_nonneg _ (by omega)
    have hlz0 : 0 ≤ lo / 2 ^ (64 - s) := Int.ediv_nonneg hl.1 (by omega)
    have hlz1 : lo / 2 ^ (64 - s) < 2 ^ s := Int.ediv_lt_of_lt_mul hps (by rw [Int.mul_comm, e64']; omega)
    have hlo := Int.mul_ediv_add_emod lo (2 ^ (64 - s))
    have hlm0 := Int.emod_nonneg lo (b := 2 ^ (64 - s)) (by omega)
    have hlm1 := Int.emod_lt_of_pos lo hps
    have hlo2 : lo * 2 ^ s = (lo / 2 ^ (64 - s)) * 18446744073709551616 + (lo % 2 ^ (64 - s)) * 2 ^ s := by
      conv => lhs; rw [← hlo]
      rw [← e64']; grind
    have hlm2 : 0 ≤ lo % 2 ^ (64 - s) * 2 ^ s := Int.mul_nonneg hlm0 (by omega)
    have hlm3 : lo % 2 ^ (64 - s) * 2 ^ s < 18446744073709551616 := by rw [← e64']; exact Int.mul_lt_mul_of_pos_right hlm1 hp
    rw [u64_id (n := y * 2 ^ s) (by omega) hYlt, u64_id (n := hi * 2 ^ s) hh0 (by omega), hfd, or_add hh.1 (by omega) hlz0 hlz1 (by omega), U64 (lo * 2 ^ s)]
    have hun10 : lo * 2 ^ s % 18446744073709551616 = lo % 2 ^ (64 - s) * 2 ^ s := by omega
    rw [hun10]
    generalize hY : y * 2 ^ s = Y at *
    generalize hU : hi * 2 ^ s + lo / 2 ^ (64 - s) = U at *
    generalize hT : lo % 2 ^ (64 - s) * 2 ^ s = T at *
    rw [and32 (x := Y) (by omega) (by omega), and32 (x := T) (by omega) (by omega), fd32 (x := Y) (by omega), fd32 (x := T) (by omega)]
    have K : Knuth U (T / 4294967296) Y (Y / 4294967296) (Y % 4294967296) := ⟨by omega, by omega, by omega, by omega, by omega, by omega, by omega, by omega, by omega⟩
    obtain ⟨f1, f2, f3, f4⟩ := K.first
    have hst := K.star
    obtain ⟨q1, q2, -⟩ := quo_facts (a := U) (b := Y / 4294967296) (by omega) (by omega)
    have q3 : 0 ≤ Int.tdiv U (Y / 4294967296) * (Y / 4294967296) := Int.mul_nonneg q1 (by omega)
    rw [guardE_pos (by omega), u64_id (n := Y % 4294967296) (by omega) (by omega), u64_id (n := T % 4294967296) (by omega) (by omega), u64_id (n := U) (by omega) (by omega),
      u64_id (n := Int.tdiv U (Y / 4294967296)) (by omega) (by omega), u64_id (n := Int.tdiv U (Y / 4294967296) * (Y / 4294967296)) (by omega) (by omega), u64_id (by omega) (by omega)]
    obtain ⟨z, hz⟩ := Div64_l17 (d' := T % 4294967296) (s := (s : Int)) K (by omega) (by omega) g1 fuelN _ _ (lt_fuel (by omega)) f1 f2 rfl f3 f4
    refine ⟨z, ?_⟩
    rw [hz, t1]
    congr 2
    have e1 : ((U * 4294967296 + T / 4294967296) % Y * 4294967296 + T % 4294967296) % Y = ((hi * 18446744073709551616 + lo) * 2 ^ s) % Y := by
      have e2 : (hi * 18446744073709551616 + lo) * 2 ^ s = (U * 4294967296 + T / 4294967296) * 4294967296 + T % 4294967296 := by
        have : (hi * 18446744073709551616 + lo) * 2 ^ s = hi * 2 ^ s * 18446744073709551616 + lo * 2 ^ s := by grind
        rw [this, hlo2]; omega
      rw [e2, Int.add_emod, Int.mul_emod, Int.emod_emod, ← Int.mul_emod, ← Int.add_emod]
    rw [e1, ← hY, Int.mul_comm (_ + _) (2 ^ s), Int.mul_comm y, Int.mul_emod_mul_of_pos _ _ hp, Int.fdiv_eq_ediv_of_nonneg _ (by omega), Int.mul_ediv_cancel_left _ (by omega)]

theorem impl_times_f {a b m : Int} (hm : 0 < m) (hm2 : m ≤ 4611686018427387904) : impl_times.f a b m = some (a * b % m) := by
  unfold impl_times.f
  have hA := emod_range (a := a) hm
  have hB := emod_range (a := b) hm
  rw [impl_mod_f hm hm2, Option.bind_some, impl_mod_f hm hm2, Option.bind_some, u64_id (n := a % m) (by omega) (by omega), u64_id (n := b % m) (by omega) (by omega), Mul64_f (by omega) (by omega), Option.bind_some,
    u64_id (n := m) (by omega) (by omega), guardE_pos (by omega)]
  have hP : 0 ≤ a % m * (b % m) := Int.mul_nonneg hA.1 hB.1
  simp only
  have h1 : Int.tmod (a % m * (b % m) / 18446744073709551616) m = a % m * (b % m) / 18446744073709551616 % m := Int.tmod_eq_emod_of_nonneg (by omega)
  rw [h1]
  have h2 := emod_range (a := a % m * (b % m) / 18446744073709551616) hm
  obtain ⟨z, hz⟩ := Div64_f (hi := a % m * (b % m) / 18446744073709551616 % m) (lo := a % m * (b % m) % 18446744073709551616) (y := m) (by omega) (by omega) h2 (by omega)
  rw [hz, Option.bind_some]
  have e : (a % m * (b % m) / 18446744073709551616 % m * 18446744073709551616 + a % m * (b % m) % 18446744073709551616) % m = a * b % m := by
    have e1 : a % m * (b % m) = a % m * (b % m) / 18446744073709551616 * 18446744073709551616 + a % m * (b % m) % 18446744073709551616 := by omega
    conv => rhs; rw [Int.mul_emod, e1]
    rw [Int.add_emod, Int.mul_emod, Int.emod_emod, ← Int.mul_emod, ← Int.add_emod]
  simp only
  rw [e, W_id]
  · have := emod_range (a := a * b) hm; omega
  · have := emod_range (a := a * b) hm; omega

end Go.Gn
end
section
set_option linter.unusedVariables false
set_option linter.unusedSimpArgs false
/-! plain: balls of both programs -/
namespace Go.Gn
open Go Go.Eng Pl Pl.M2

theorem isP_pow_pos {p : Int} (hp : IsP p) (k : Nat) : 0 < p ^ k := pow_pos hp.two k

abbrev isB (p : Int) (b : Siii) : Prop := IsB p b.c0 b.c1 b.c2
def mkB (p : Int) (b : Siii) : Int := Pl.mk p b.c1 b.c2
def lvB (b : Siii) : Nat := nL b.c0
instance (p L T D : Int) : Decidable (IsB p L T D) := inferInstanceAs (Decidable (_ ∧ _))

theorem isB_of {p L T D : Int} (h : IsB p L T D) : L + D ≤ 12 := by have := h.lv; have := h.dn; omega

theorem mod_ne {p T : Int} (hp : IsP p) : (Int.tmod T p != 0) = decide (¬ p ∣ T) := by
  by_cases h : p ∣ T
  · obtain ⟨q, rfl⟩ := h
    rw [Int.mul_tmod_right]; simp
  · have : Int.tmod T p ≠ 0 := fun e => h (Int.dvd_of_tmod_eq_zero e)
    rw [bne_ne this, decide_eq_true h]

theorem impl_IsBall_f (p : Int) (b : Siii) : impl_IsBall.f p b = some (decide (isB p b)) := by
  unfold impl_IsBall.f
  rw [impl_isPrime_f, Option.bind_some]
  by_cases hp : IsP p
  case neg => rw [decide_eq_false hp, Bool.not_false, ifE_t, decide_eq_false fun h => hp h.1]
  rw [decide_eq_true hp, Bool.not_true, ifE_f, impl_isLevel_f, Option.bind_some]
  by_cases hl : isL b.c0
  case neg => rw [decide_eq_false hl, Bool.not_false, ifE_t, decide_eq_false fun h => hl h.2.1]
  rw [decide_eq_true hl, Bool.not_true, ifE_f]
  by_cases h1 : b.c2 < 0
  · rw [ifE_pos h1, decide_eq_false fun h => by have := h.dn; omega]
  rw [ifE_neg h1]
  by_cases h2 : b.c2 > 6
  · rw [ifE_pos h2, decide_eq_false fun h => by have := h.dn; omega]
  unfold isL at hl
  rw [ifE_neg h2, W_id (n := b.c0 + b.c2) (by omega) (by omega)]
  by_cases h3 : b.c0 + b.c2 ≤ 0
  · rw [ifE_pos h3]
    by_cases h4 : b.c1 = 0
    · rw [show (b.c1 == 0) = true from by simp [h4], ifE_t]
      congr 1
      by_cases h5 : b.c2 = 0
      · rw [show (b.c2 == 0) = true from by simp [h5], decide_eq_true]; exact ⟨hp, hl, by omega, .inl ⟨h3, h4, h5⟩⟩
      · rw [beq_ne h5, decide_eq_false]; rintro ⟨-, -, -, ⟨-, -, h⟩ | ⟨h, -⟩⟩ <;> omega
    · rw [beq_ne h4, ifE_f, decide_eq_false]; rintro ⟨-, -, -, ⟨-, h, -⟩ | ⟨h, -⟩⟩ <;> omega
  · rw [ifE_neg h3]
    by_cases h4 : b.c1 ≥ 0
    · rw [ifE_pos h4, impl_power_f hp (by omega) (by omega), Option.bind_some]
      by_cases h5 : b.c1 < p ^ (b.c0 + b.c2).toNat
      · rw [ifE_pos h5]
        by_cases h6 : b.c2 = 0
        · rw [show (b.c2 == 0) = true from by simp [h6], ifE_t, decide_eq_true]; exact ⟨hp, hl, by omega, .inr ⟨by omega, h4, h5, .inl h6⟩⟩
        · rw [beq_ne h6, ifE_f, guardE_pos (by have := hp.two; omega), mod_ne hp]
          congr 1; rw [decide_eq_decide]
          constructor
          · intro h; exact ⟨hp, hl, by omega, .inr ⟨by omega, h4, h5, .inr h⟩⟩
          · rintro ⟨-, -, -, ⟨h, -⟩ | ⟨-, -, -, h | h⟩⟩
            · omega
            · omega
            · exact h
      · rw [ifE_neg h5, decide_eq_false]; rintro ⟨-, -, -, ⟨h, -⟩ | ⟨-, -, h, -⟩⟩
        · omega
        · exact h5 h
    · rw [ifE_neg h4, decide_eq_false]; rintro ⟨-, -, -, ⟨h, -⟩ | ⟨-, h, -⟩⟩ <;> omega

theorem spec_l01Is_f (p : Int) (b : Siii) : spec_l01Is.f p b = some (decide (isB p b)) := by
  unfold spec_l01Is.f
  rw [spec_l01Prime_f, Option.bind_some]
  by_cases hp : IsP p
  case neg => rw [decide_eq_false hp, Bool.not_false, ifE_t, decide_eq_false fun h => hp h.1]
  rw [decide_eq_true hp, Bool.not_true, ifE_f, spec_l01In_f, Option.bind_some]
  by_cases hl : -6 ≤ b.c0 ∧ b.c0 ≤ 6
  case neg => rw [decide_eq_false hl, Bool.not_false, ifE_t, decide_eq_false fun h => hl h.2.1]
  rw [decide_eq_true hl, Bool.not_true, ifE_f, spec_l01In_f, Option.bind_some]
  by_cases h1 : 0 ≤ b.c2 ∧ b.c2 ≤ 6
  case neg => rw [decide_eq_false h1, Bool.not_false, ifE_t, decide_eq_false fun h => h1 h.dn]
  rw [decide_eq_true h1, Bool.not_true, ifE_f, W_id (n := b.c0 + b.c2) (by omega) (by omega)]
  by_cases h3 : b.c0 + b.c2 ≤ 0
  · rw [ifE_pos h3]
    by_cases h4 : b.c1 = 0
    · rw [show (b.c1 == 0) = true from by simp [h4], ifE_t]
      congr 1
      by_cases h5 : b.c2 = 0
      · rw [show (b.c2 == 0) = true from by simp [h5], decide_eq_true]; exact ⟨hp, hl, by omega, .inl ⟨h3, h4, h5⟩⟩
      · rw [beq_ne h5, decide_eq_false]; rintro ⟨-, -, -, ⟨-, -, h⟩ | ⟨h, -⟩⟩ <;> omega
    · rw [beq_ne h4, ifE_f, decide_eq_false]; rintro ⟨-, -, -, ⟨-, h, -⟩ | ⟨h, -⟩⟩ <;> omega
  · rw [ifE_neg h3, spec_power_f hp (by omega) (by omega), Option.bind_some, spec_l01In_f, Option.bind_some]
    have hb := pow22 hp (k := (b.c0 + b.c2).toNat) (by omega)
    rw [W_id (by omega) (by omega)]
    by_cases h5 : 0 ≤ b.c1 ∧ b.c1 ≤ p ^ (b.c0 + b.c2).toNat - 1
    · rw [decide_eq_true h5, ifE_t]
      by_cases h6 : b.c2 = 0
      · rw [show (b.c2 == 0) = true from by simp [h6], ifE_t, decide_eq_true]; exact ⟨hp, hl, h1, .inr ⟨by omega, h5.1, by omega, .inl h6⟩⟩
      · rw [beq_ne h6, ifE_f, guardE_pos (by have := hp.two; omega), mod_ne hp]
        congr 1; rw [decide_eq_decide]
        constructor
        · intro h; exact ⟨hp, hl, h1, .inr ⟨by omega, h5.1, by omega, .inr h⟩⟩
        · rintro ⟨-, -, -, ⟨h, -⟩ | ⟨-, -, -, h | h⟩⟩
          · omega
          · omega
          · exact h
    · rw [decide_eq_false h5, ifE_f, decide_eq_false]; rintro ⟨-, -, -, ⟨h, -⟩ | ⟨-, ha, hb, -⟩⟩
      · omega
      · exact h5 ⟨ha, by omega⟩

theorem impl_areBalls_l {p : Int} {l : List Siii} (hl : l.length ≤ 1000000000000) : ∀ (k i : Nat), l.length - i < k → i ≤ l.length →
    impl_areBalls.l2 k p l (l.length : Int) (i : Int) = some ((l.drop i).all (fun b => decide (isB p b)) && decide (IsP p)) := by
  intro k
  induction k with
  | zero => intro i h; omega
  | succ k ih =>
    intro i h hi
    simp only [impl_areBalls.l2, impl_areBalls.s2]
    by_cases hlt : i < l.length
    · rw [ifE_pos (by omega), getE_nat hlt, Option.bind_some, List.drop_eq_getElem_cons hlt, List.all_cons, impl_IsBall_f, Option.bind_some]
      have e : W ((i : Int) + 1) = ((i + 1 : Nat) : Int) := by rw [W_id (by omega) (by omega)]; omega
      rw [e]
      by_cases h1 : isB p l[i]
      · rw [decide_eq_true h1, Bool.not_true, ifE_f, ih (i + 1) (by omega) (by omega), Bool.true_and]
      · rw [decide_eq_false h1]; rfl
    · rw [ifE_neg (by omega), List.drop_eq_nil_of_le (by omega), impl_isPrime_f]; rfl
theorem impl_areBalls_f {p : Int} {l : List Siii} (hl : l.length ≤ 1000000000000) : impl_areBalls.f p l = some (l.all (fun b => decide (isB p b)) && decide (IsP p)) := by
  unfold impl_areBalls.f
  exact impl_areBalls_l hl fuelN 0 (lt_fuel (by omega)) (by omega)

theorem spec_l01Code_l {p : Int} {l : List Siii} (hl : l.length ≤ 1000000000000) : ∀ (k i : Nat), l.length - i < k → i ≤ l.length →
    spec_l01Code.l4 k p l (i : Int) = some (if (l.drop i).all (fun b => decide (isB p b)) then 0 else 1) := by
  intro k
  induction k with
  | zero => intro i h; omega
  | succ k ih =>
    intro i h hi
    simp only [spec_l01Code.l4, spec_l01Code.s4]
    by_cases hlt : i < l.length
    · rw [ifE_pos (by omega), getE_nat hlt, Option.bind_some, List.drop_eq_getElem_cons hlt, List.all_cons, spec_l01Is_f, Option.bind_some]
      have e : W ((i : Int) + 1) = ((i + 1 : Nat) : Int) := by rw [W_id (by omega) (by omega)]; omega
      rw [e]
      by_cases h1 : isB p l[i]
      · rw [decide_eq_true h1, Bool.not_true, ifE_f, ih (i + 1) (by omega) (by omega), Bool.true_and]
      · rw [decide_eq_false h1]; rfl
    · rw [ifE_neg (by omega), List.drop_eq_nil_of_le (by omega)]; rfl
theorem spec_l01Code_f {p : Int} {l : List Siii} (hl : l.length ≤ 1000000000000) : spec_l01Code.f p l = some (if IsP p ∧ (l.all (fun b => decide (isB p b))) = true then 0 else 1) := by
  unfold spec_l01Code.f
  rw [spec_l01Prime_f, Option.bind_some]
  by_cases hp : IsP p
  · rw [decide_eq_true hp, Bool.not_true, ifE_f]
    have := spec_l01Code_l (p := p) hl fuelN 0 (lt_fuel (by omega)) (by omega)
    rw [List.drop_zero] at this
    simp only [hp, true_and]
    exact this
  · rw [decide_eq_false hp, Bool.not_false, ifE_t, if_neg fun h => hp h.1]

theorem impl_mark_f {p : Int} {b : Siii} (h : isB p b) : impl_mark.f p b = some (mkB p b) := by
  unfold impl_mark.f
  have hd := h.dn
  rw [W_id (n := 6 - b.c2) (by omega) (by omega), impl_power_f h.1 (by omega) (by omega), Option.bind_some]
  have h1 := h.mk_nonneg
  have h2 := h.mk_lt
  have h3 := pow12 h.1 (k := nL b.c0) (by have := h.lv; unfold nL; omega)
  unfold Pl.mk at h1 h2
  rw [W_id (by omega) (by omega)]; rfl

theorem mkB_range {p : Int} {b : Siii} (h : isB p b) : 0 ≤ mkB p b ∧ mkB p b < p ^ lvB b := ⟨h.mk_nonneg, h.mk_lt⟩
theorem mkB_le {p : Int} {b : Siii} (h : isB p b) : mkB p b ≤ 13841287201 := by
  have := (mkB_range h).2
  have := pow12 h.1 (k := lvB b) (by have := h.lv; unfold lvB nL; omega)
  omega
theorem lvB_le {p : Int} {b : Siii} (h : isB p b) : lvB b ≤ 12 := by have := h.lv; unfold lvB nL; omega

/-- b holds c -/
def Hold (p : Int) (b c : Siii) : Prop := b.c0 ≤ c.c0 ∧ p ^ lvB b ∣ mkB p c - mkB p b
instance (p : Int) (b c : Siii) : Decidable (Hold p b c) := inferInstanceAs (Decidable (_ ∧ _))

theorem tmod0 {a m : Int} : (Int.tmod a m == 0) = decide (m ∣ a) := by
  by_cases h : m ∣ a
  · obtain ⟨q, rfl⟩ := h
    rw [Int.mul_tmod_right]; simp
  · have : Int.tmod a m ≠ 0 := fun e => h (Int.dvd_of_tmod_eq_zero e)
    rw [beq_ne this, decide_eq_false h]

theorem impl_holds_f {p : Int} {b c : Siii} (hb : isB p b) (hc : isB p c) : impl_holds.f p b c = some (decide (Hold p b c)) := by
  unfold impl_holds.f
  have l1 := hb.lv
  by_cases h : b.c0 ≤ c.c0
  · rw [ifE_pos h, impl_mark_f hc, Option.bind_some, impl_mark_f hb, Option.bind_some, W_id (n := b.c0 + 6) (by omega) (by omega), impl_power_f hb.1 (by omega) (by omega), Option.bind_some,
      guardE_pos (by have := isP_pow_pos hb.1 (b.c0 + 6).toNat; omega)]
    have r1 := mkB_range hb
    have r2 := mkB_range hc
    have r3 := mkB_le hb
    have r4 := mkB_le hc
    rw [W_id (by omega) (by omega), tmod0]
    congr 1; rw [decide_eq_decide]
    unfold Hold lvB nL
    exact ⟨fun hh => ⟨h, hh⟩, fun hh => hh.2⟩
  · rw [ifE_neg h, decide_eq_false fun hh => h hh.1]

theorem impl_apart_f {p : Int} {b c : Siii} (hb : isB p b) (hc : isB p c) : impl_apart.f p b c = some (decide (¬ Hold p b c ∧ ¬ Hold p c b)) := by
  unfold impl_apart.f
  rw [impl_holds_f hb hc, Option.bind_some]
  by_cases h : Hold p b c
  · rw [decide_eq_true h, Bool.not_true, ifE_f, decide_eq_false fun hh => hh.1 h]
  · rw [decide_eq_false h, Bool.not_false, ifE_t, impl_holds_f hc hb, Option.bind_some]
    congr 1
    by_cases h2 : Hold p c b
    · rw [decide_eq_true h2, decide_eq_false fun hh => hh.2 h2]; rfl
    · rw [decide_eq_false h2, decide_eq_true ⟨h, h2⟩]; rfl

/-- the ball of a mark -/
def ofX (p L x : Int) : Siii := ⟨L, tOf p x, dOf p x⟩
theorem ofX_isB {p L x : Int} (hp : IsP p) (hL : isL L) (hx : 0 ≤ x ∧ x < p ^ nL L) : isB p (ofX p L x) := ofMk_isB hp hL hx
theorem ofX_mk {p L x : Int} (hp : IsP p) : mkB p (ofX p L x) = x := tOf_mul hp.two x
theorem ofX_of {p : Int} {b : Siii} (h : isB p b) : ofX p b.c0 (mkB p b) = b := by
  obtain ⟨h1, h2⟩ := ofMk_mk h
  cases b; simp only [ofX, mkB] at *; rw [h1, h2]
theorem isB_inj {p : Int} {b c : Siii} (hb : isB p b) (hc : isB p c) (h0 : b.c0 = c.c0) (hm : mkB p b = mkB p c) : b = c := by
  rw [← ofX_of hb, ← ofX_of hc, h0, hm]

theorem impl_ofMark_f {p L x : Int} (hp : IsP p) : impl_ofMark.f p L x = some (if isL L then (ofX p L (x % p ^ nL L), true) else (⟨0, 0, 0⟩, false)) := by
  unfold impl_ofMark.f
  rw [impl_isLevel_f, Option.bind_some]
  by_cases hL : isL L
  case neg => rw [decide_eq_false hL, if_neg hL]; rfl
  have hL0 := hL
  unfold isL at hL
  rw [decide_eq_true hL0, Bool.not_true, ifE_f, if_pos hL0, W_id (n := L + 6) (by omega) (by omega), impl_power_f hp (by omega) (by omega), Option.bind_some]
  have hm := pow12 hp (k := (L + 6).toNat) (by omega)
  rw [impl_mod_f (by omega) (by omega), Option.bind_some]
  have hr := emod_range (a := x) (m := p ^ (L + 6).toNat) (by omega)
  show _ = some (ofX p L (x % p ^ (L + 6).toNat), true)
  generalize x % p ^ (L + 6).toNat = y at *
  have hv : ∃ v, impl_valuation.f p y = some v ∧ imax (W (6 - v)) 0 = dOf p y := by
    by_cases h0 : y = 0
    · subst h0
      refine ⟨1000, rfl, ?_⟩
      rw [W_id (by omega) (by omega)]; simp [dOf, imax]
    · refine ⟨_, impl_valuation_f hp h0 (by unfold big63; omega), ?_⟩
      have := vl_lt hp h0 (by unfold big63; omega)
      rw [W_id (by omega) (by omega)]
      unfold dOf imax; rw [if_neg h0]; split <;> omega
  obtain ⟨v, hv1, hv2⟩ := hv
  rw [hv1, Option.bind_some, hv2]
  have hd : 0 ≤ dOf p y ∧ dOf p y ≤ 6 := by
    have := ofX_isB (L := L) hp hL0 (x := y) (by unfold nL; omega)
    exact this.dn
  rw [W_id (n := 6 - dOf p y) (by omega) (by omega), impl_power_f hp (by omega) (by omega), Option.bind_some, guardE_pos (by have := isP_pow_pos hp (6 - dOf p y).toNat; omega)]
  have ht : Int.tdiv y (p ^ (6 - dOf p y).toNat) = tOf p y := Int.tdiv_eq_ediv_of_nonneg hr.1
  have htr : 0 ≤ tOf p y ∧ tOf p y ≤ y := by
    have hpp := isP_pow_pos hp (6 - dOf p y).toNat
    unfold tOf
    exact ⟨Int.ediv_nonneg hr.1 (by omega), Int.ediv_le_self _ hr.1⟩
  rw [ht, W_id (n := tOf p y) (by omega) (by omega)]
  rfl

theorem gcd_p {p n : Int} (hp : IsP p) (hn : ¬ p ∣ n) : Int.gcd n p = 1 := by
  have h1 : (Int.gcd n p : Int) ∣ p := Int.gcd_dvd_right ..
  have h2 : (Int.gcd n p : Int) ∣ n := Int.gcd_dvd_left ..
  generalize Int.gcd n p = g at *
  have hle := Int.le_of_dvd (by have := hp.two; omega) h1
  obtain ⟨c, hc⟩ := h1
  have h7 := hp.seven
  have key : g = 1 ∨ (g : Int) = p := by
    have hg : g = 0 ∨ g = 1 ∨ g = 2 ∨ g = 3 ∨ g = 4 ∨ g = 5 ∨ g = 6 ∨ g = 7 := by omega
    rcases hp with rfl | rfl | rfl | rfl <;> rcases hg with rfl | rfl | rfl | rfl | rfl | rfl | rfl | rfl <;> simp <;> omega
  rcases key with h | h
  · exact h
  · rw [h] at h2; exact absurd h2 hn
theorem gcd_pow {p n : Int} (hp : IsP p) (hn : ¬ p ∣ n) (k : Nat) : Int.gcd n (p ^ k) = 1 := by
  induction k with
  | zero => simp
  | succ k ih =>
    have h1 : Nat.Coprime n.natAbs (p ^ k).natAbs := ih
    have h2 : Nat.Coprime n.natAbs p.natAbs := gcd_p hp hn
    have := Nat.Coprime.mul_right h1 h2
    rw [← Int.natAbs_mul, ← Int.pow_succ] at this
    exact this

/-- what both programs answer to the ball of a level with a fraction -/
def AtB (p num den L : Int) (b : Siii) (ok : Bool) : Prop := (Fits p num den L ∧ ok = true ∧ b.c0 = L ∧ IsAt p num den L b.c1 b.c2) ∨ (¬ Fits p num den L ∧ ok = false ∧ b = ⟨0, 0, 0⟩)

theorem AtB.unique {p num den L : Int} {b b' : Siii} {ok ok' : Bool} (hd : den ≠ 0) (h : AtB p num den L b ok) (h' : AtB p num den L b' ok') : b = b' ∧ ok = ok' := by
  rcases h with ⟨h1, rfl, h2, h3⟩ | ⟨h1, rfl, h2⟩ <;> rcases h' with ⟨k1, rfl, k2, k3⟩ | ⟨k1, rfl, k2⟩
  · obtain ⟨e1, e2⟩ := h3.unique hd k3
    refine ⟨?_, rfl⟩
    cases b; cases b'; simp only at *; rw [h2, k2, e1, e2]
  · exact absurd h1 k1
  · exact absurd k1 h1
  · exact ⟨by rw [h2, k2], rfl⟩

theorem AtB.isB {p num den L : Int} {b : Siii} (h : AtB p num den L b true) : isB p b ∧ b.c0 = L := by
  rcases h with ⟨-, -, h2, h3⟩ | ⟨-, h, -⟩
  · have := h3.1; rw [← h2] at this; exact ⟨this, h2⟩
  · cases h

theorem isB_zero {p L : Int} (hp : IsP p) (hL : isL L) : IsB p L 0 0 := by
  refine ⟨hp, hL, by omega, ?_⟩
  by_cases h : L ≤ 0
  · exact .inl ⟨by omega, rfl, rfl⟩
  · exact .inr ⟨by omega, by omega, isP_pow_pos hp _, .inl rfl⟩

theorem isAt_zero {p num den L : Int} (hp : IsP p) (hL : isL L) (h : num = 0 ∨ L ≤ (vl p num : Int) - vl p den) : IsAt p num den L 0 0 := by
  refine ⟨isB_zero hp hL, ?_⟩
  have e : Pl.mk p 0 0 = 0 := by simp [Pl.mk]
  rw [e, Int.zero_mul, Int.sub_zero]
  unfold isL at hL
  rcases h with rfl | h
  · simp
  · by_cases h0 : num = 0
    · subst h0; simp
    · rw [dvd_iff_le_vl hp.two (Int.mul_ne_zero (pow_ne hp.two _) h0), vl_pow_mul hp.two _ h0]
      unfold nL; omega

theorem emod_congr {a m : Int} : m ∣ a - a % m := ⟨a / m, by have := Int.emod_add_mul_ediv a m; omega⟩

theorem vl_le_pow {p n : Int} (hp : IsP p) (h0 : n ≠ 0) (hn : big63 n) : p ^ vl p n ≤ 9223372036854775807 ∧ vl p n ≤ 100 := by
  have h1 := (dvd_iff_le_vl hp.two h0 (vl p n)).2 (Nat.le_refl _)
  have h2 : p ^ vl p n ≤ n.natAbs := Int.le_of_dvd (by omega) (Int.dvd_natAbs.2 h1)
  have := vl_lt hp h0 hn
  unfold big63 at hn; omega

theorem big63_of_mul {p n m : Int} {v : Nat} (hp : IsP p) (h : n = p ^ v * m) (hn : big63 n) : big63 m := by
  have h1 : n.natAbs = (p ^ v).natAbs * m.natAbs := by rw [h, Int.natAbs_mul]
  have h2 := isP_pow_pos hp v
  have h3 : 1 * m.natAbs ≤ (p ^ v).natAbs * m.natAbs := Nat.mul_le_mul_right _ (by omega)
  unfold big63 at *; omega

theorem impl_unit_f {p n m : Int} (hp : IsP p) (h0 : n ≠ 0) (hn : big63 n) (hm : n = p ^ vl p n * m) : impl_unit.f p n = some m := by
  unfold impl_unit.f
  obtain ⟨h1, h2⟩ := vl_le_pow hp h0 hn
  rw [impl_valuation_f hp h0 hn, Option.bind_some, impl_power_g hp h2 h1, Option.bind_some, guardE_pos (pow_ne hp.two _)]
  have e : Int.tdiv n (p ^ vl p n) = m := by conv => lhs; lhs; rw [hm]
                                             exact Int.mul_tdiv_cancel_left _ (pow_ne hp.two _)
  have hb := big63_of_mul hp hm hn
  unfold big63 at hb
  rw [e, W_id (by omega) (by omega)]

/-- the residue that both find -/
theorem res_ok {p u w r x m : Int} {e : Nat} (hr : m ∣ r * w - 1) (hx : m ∣ u * r % m * p ^ e - x) : m ∣ u * p ^ e - x * w := by
  have h1 : m ∣ u * r - u * r % m := emod_congr
  have h2 : m ∣ u * r * p ^ e - x := by
    have := Int.dvd_add (Int.dvd_trans h1 (Int.dvd_mul_right _ (p ^ e))) hx
    have e2 : (u * r - u * r % m) * p ^ e + (u * r % m * p ^ e - x) = u * r * p ^ e - x := by grind
    rwa [e2] at this
  have h3 := Int.dvd_sub (Int.dvd_trans h2 (Int.dvd_mul_right _ w)) (Int.dvd_trans hr (Int.dvd_mul_right _ (u * p ^ e)))
  have e3 : (u * r * p ^ e - x) * w - (r * w - 1) * (u * p ^ e) = u * p ^ e - x * w := by grind
  rwa [e3] at h3

theorem impl_ballAt_f {p num den L : Int} (hp : IsP p) (hd : den ≠ 0) (hn : big63 num) (hdn : big63 den) : ∃ b ok, impl_ballAt.f p num den L = some (b, ok) ∧ AtB p num den L b ok := by
  unfold impl_ballAt.f
  rw [impl_isLevel_f, Option.bind_some]
  by_cases hL : isL L
  case neg => rw [decide_eq_false hL, Bool.not_false, ifE_t]; exact ⟨_, _, rfl, .inr ⟨fun h => hL h.1, rfl, rfl⟩⟩
  rw [decide_eq_true hL, Bool.not_true, ifE_f, impl_valuation_f hp hd hdn]
  have hbv := vl_lt hp hd hdn
  by_cases h0 : num = 0
  · subst h0
    rw [impl_valuation_0, Option.bind_some, Option.bind_some, show ((0 : Int) == 0) = true from rfl, ifE_t]
    exact ⟨_, _, rfl, .inl ⟨⟨hL, .inl rfl⟩, rfl, rfl, isAt_zero hp hL (.inl rfl)⟩⟩
  · have hav := vl_lt hp h0 hn
    rw [impl_valuation_f hp h0 hn, Option.bind_some, Option.bind_some, beq_ne h0, ifE_f, W_id (n := (vl p num : Int) - vl p den) (by omega) (by omega)]
    by_cases h1 : (vl p num : Int) - vl p den ≥ L
    · rw [ifE_pos h1]
      exact ⟨_, _, rfl, .inl ⟨⟨hL, .inr (.inl h1)⟩, rfl, rfl, isAt_zero hp hL (.inr h1)⟩⟩
    · rw [ifE_neg h1]
      by_cases h2 : (vl p num : Int) - vl p den < -6
      · rw [ifE_pos h2]
        exact ⟨_, _, rfl, .inr ⟨fun h => by rcases h.2 with h | h | h <;> omega, rfl, rfl⟩⟩
      · unfold isL at hL
        rw [ifE_neg h2, W_id (n := L + 6) (by omega) (by omega), impl_power_f hp (by omega) (by omega), Option.bind_some]
        obtain ⟨u, hu, hpu⟩ := vl_spec hp.two h0
        obtain ⟨w, hw, hpw⟩ := vl_spec hp.two hd
        have hm := pow12 hp (k := (L + 6).toNat) (by omega)
        obtain ⟨r, hr1, hr2, hr3⟩ := impl_inverse_f (n := w) (m := p ^ (L + 6).toNat) (by omega) (by omega) (gcd_pow hp hpw _)
        rw [impl_unit_f hp h0 hn hu, Option.bind_some, impl_unit_f hp hd hdn hw, Option.bind_some, hr1, Option.bind_some, impl_times_f (by omega) (by omega), Option.bind_some,
          W_id (n := (vl p num : Int) - vl p den + 6) (by omega) (by omega), impl_power_f hp (by omega) (by omega), Option.bind_some, impl_times_f (by omega) (by omega), Option.bind_some]
        have hx := emod_range (a := u * r % p ^ (L + 6).toNat * p ^ ((vl p num : Int) - vl p den + 6).toNat) (m := p ^ (L + 6).toNat) (by omega)
        have hxc : p ^ (L + 6).toNat ∣ u * r % p ^ (L + 6).toNat * p ^ ((vl p num : Int) - vl p den + 6).toNat - u * r % p ^ (L + 6).toNat * p ^ ((vl p num : Int) - vl p den + 6).toNat % p ^ (L + 6).toNat := emod_congr
        generalize u * r % p ^ (L + 6).toNat * p ^ ((vl p num : Int) - vl p den + 6).toNat % p ^ (L + 6).toNat = x at *
        rw [impl_ofMark_f hp, Option.bind_some, if_pos (show isL L from hL)]
        have hxm : x % p ^ nL L = x := Int.emod_eq_of_lt hx.1 hx.2
        simp only [hxm]
        refine ⟨_, _, rfl, .inl ⟨⟨hL, .inr (.inr (by omega))⟩, rfl, rfl, ?_⟩⟩
        refine ⟨ofX_isB (L := L) hp hL hx, ?_⟩
        have e1 : Pl.mk p (ofX p L x).c1 (ofX p L x).c2 = x := ofX_mk hp
        rw [e1]
        have hres := res_ok (p := p) hr3 hxc
        have e2 : p ^ 6 * num - x * den = p ^ vl p den * (u * p ^ ((vl p num : Int) - vl p den + 6).toNat - x * w) := by
          have e3 : p ^ 6 * p ^ vl p num = p ^ vl p den * p ^ ((vl p num : Int) - vl p den + 6).toNat := by
            rw [← Int.pow_add, ← Int.pow_add]; congr 1; omega
          calc p ^ 6 * num - x * den = p ^ 6 * (p ^ vl p num * u) - x * (p ^ vl p den * w) := by rw [← hu, ← hw]
            _ = p ^ 6 * p ^ vl p num * u - x * (p ^ vl p den * w) := by rw [Int.mul_assoc (p ^ 6)]
            _ = _ := by rw [e3]; grind
        rw [e2, Nat.add_comm, Int.pow_add]
        exact Int.mul_dvd_mul (Int.dvd_refl _) hres

theorem spec_l01Of_f {p num den L : Int} (hp : IsP p) (hd : den ≠ 0) (hn : big63 num) (hdn : big63 den) : ∃ b ok, spec_l01Of.f p num den L = some (b, ok) ∧ AtB p num den L b ok := by
  unfold spec_l01Of.f
  rw [spec_l01In_f, Option.bind_some]
  by_cases hL : -6 ≤ L ∧ L ≤ 6
  case neg => rw [decide_eq_false hL, Bool.not_false, ifE_t]; exact ⟨_, _, rfl, .inr ⟨fun h => hL h.1, rfl, rfl⟩⟩
  rw [decide_eq_true hL, Bool.not_true, ifE_f]
  have hbv := vl_lt hp hd hdn
  by_cases h0 : num = 0
  · subst h0
    rw [show ((0 : Int) == 0) = true from rfl, ifE_t]
    exact ⟨_, _, rfl, .inl ⟨⟨hL, .inl rfl⟩, rfl, rfl, isAt_zero hp hL (.inl rfl)⟩⟩
  · have hav := vl_lt hp h0 hn
    rw [beq_ne h0, ifE_f, spec_val_f hp h0 hn, Option.bind_some, spec_val_f hp hd hdn, Option.bind_some, W_id (n := (vl p num : Int) - vl p den) (by omega) (by omega), W_id (n := (vl p den : Int) - vl p num) (by omega) (by omega)]
    by_cases h1 : L ≤ (vl p num : Int) - vl p den
    · rw [ifE_pos h1]
      exact ⟨_, _, rfl, .inl ⟨⟨hL, .inr (.inl h1)⟩, rfl, rfl, isAt_zero hp hL (.inr h1)⟩⟩
    · rw [ifE_neg h1]
      have him : imax ((vl p den : Int) - vl p num) 0 = max ((vl p den : Int) - vl p num) 0 := by unfold imax; split <;> omega
      have him2 : imax ((vl p num : Int) - vl p den) 0 = max ((vl p num : Int) - vl p den) 0 := by unfold imax; split <;> omega
      rw [him, him2]
      by_cases h2 : max ((vl p den : Int) - vl p num) 0 > 6
      · rw [ifE_pos h2]
        exact ⟨_, _, rfl, .inr ⟨fun h => by rcases h.2 with h | h | h <;> omega, rfl, rfl⟩⟩
      · obtain ⟨dn, hdn1⟩ : ∃ dn, dn = max ((vl p den : Int) - vl p num) 0 := ⟨_, rfl⟩
        obtain ⟨up, hup⟩ : ∃ up, up = max ((vl p num : Int) - vl p den) 0 := ⟨_, rfl⟩
        rw [← hdn1, ← hup]
        rw [ifE_neg (by omega), W_id (n := L + dn) (by omega) (by omega), spec_power_f hp (by omega) (by omega), Option.bind_some]
        obtain ⟨u, hu, hpu⟩ := vl_spec hp.two h0
        obtain ⟨w, hw, hpw⟩ := vl_spec hp.two hd
        obtain ⟨a1, a2⟩ := vl_le_pow hp h0 hn
        obtain ⟨c1, c2⟩ := vl_le_pow hp hd hdn
        have hm := pow12 hp (k := (L + dn).toNat) (by omega)
        obtain ⟨r, hr1, hr2, hr3⟩ := spec_l01InvMod_f (n := w) (m := p ^ (L + dn).toNat) (by omega) (by omega) (gcd_pow hp hpw _)
        have t1 : Int.tdiv num (p ^ vl p num) = u := by
          conv => lhs; lhs; rw [hu]
          exact Int.mul_tdiv_cancel_left _ (pow_ne hp.two _)
        have t2 : Int.tdiv den (p ^ vl p den) = w := by
          conv => lhs; lhs; rw [hw]
          exact Int.mul_tdiv_cancel_left _ (pow_ne hp.two _)
        have bu := big63_of_mul hp hu hn
        have bw := big63_of_mul hp hw hdn
        unfold big63 at bu bw
        rw [spec_power_g hp a2 a1, Option.bind_some, guardE_pos (pow_ne hp.two _), spec_power_g hp c2 c1, Option.bind_some, guardE_pos (pow_ne hp.two _), t1, t2, W_id (n := u) (by omega) (by omega), W_id (n := w) (by omega) (by omega), hr1, Option.bind_some,
          spec_l01MulMod_f (by omega) (by omega), Option.bind_some, spec_power_f hp (k := up) (by omega) (by omega), Option.bind_some, spec_l01MulMod_f (by omega) (by omega), Option.bind_some]
        have hx := emod_range (a := u * r % p ^ (L + dn).toNat * p ^ up.toNat) (m := p ^ (L + dn).toNat) (by omega)
        have hxc : p ^ (L + dn).toNat ∣ u * r % p ^ (L + dn).toNat * p ^ up.toNat - u * r % p ^ (L + dn).toNat * p ^ up.toNat % p ^ (L + dn).toNat := emod_congr
        generalize u * r % p ^ (L + dn).toNat * p ^ up.toNat % p ^ (L + dn).toNat = x at *
        have hres := res_ok (p := p) hr3 hxc
        refine ⟨_, _, rfl, .inl ⟨⟨hL, .inr (.inr (by omega))⟩, rfl, rfl, ?_⟩⟩
        show IsAt p num den L x dn
        refine ⟨⟨hp, hL, by omega, .inr ⟨by omega, hx.1, hx.2, ?_⟩⟩, ?_⟩
        · by_cases hd0 : dn = 0
          · exact .inl hd0
          · right
            intro hpx
            have hup0 : up = 0 := by omega
            rw [hup0] at hres
            have hpm : p ∣ p ^ (L + dn).toNat := by
              obtain ⟨j, hj⟩ : ∃ j, (L + dn).toNat = j + 1 := ⟨(L + dn).toNat - 1, by omega⟩
              rw [hj, Int.pow_succ]; exact Int.dvd_mul_left _ _
            have h3 := Int.dvd_add (Int.dvd_trans hpm hres) (Int.dvd_trans hpx (Int.dvd_mul_right x w))
            have e3 : u * p ^ (Int.toNat 0) - x * w + x * w = u := by simp
            rw [e3] at h3
            exact hpu h3
        · unfold Pl.mk
          have e2 : p ^ 6 * num - x * p ^ (6 - dn).toNat * den = p ^ (6 - dn).toNat * p ^ vl p den * (u * p ^ up.toNat - x * w) := by
            have e3 : p ^ 6 * p ^ vl p num = p ^ (6 - dn).toNat * p ^ vl p den * p ^ up.toNat := by
              rw [← Int.pow_add, ← Int.pow_add, ← Int.pow_add]
              have e5 : 6 + vl p num = (6 - dn).toNat + vl p den + up.toNat := by omega
              rw [e5]
            calc p ^ 6 * num - x * p ^ (6 - dn).toNat * den = p ^ 6 * (p ^ vl p num * u) - x * p ^ (6 - dn).toNat * (p ^ vl p den * w) := by rw [← hu, ← hw]
              _ = p ^ 6 * p ^ vl p num * u - x * p ^ (6 - dn).toNat * (p ^ vl p den * w) := by rw [Int.mul_assoc (p ^ 6)]
              _ = _ := by rw [e3]; grind
          rw [e2]
          have e4 : nL L + vl p den = (6 - dn).toNat + vl p den + (L + dn).toNat := by unfold nL; omega
          rw [e4, Int.pow_add, Int.pow_add]
          exact Int.mul_dvd_mul (Int.dvd_refl _) hres

/-- both answers are one -/
theorem ballAt_eq {p num den L : Int} (hp : IsP p) (hd : den ≠ 0) (hn : big63 num) (hdn : big63 den) : spec_l01Of.f p num den L = impl_ballAt.f p num den L := by
  obtain ⟨b, ok, h1, h2⟩ := impl_ballAt_f (L := L) hp hd hn hdn
  obtain ⟨b', ok', h3, h4⟩ := spec_l01Of_f (L := L) hp hd hn hdn
  obtain ⟨rfl, rfl⟩ := h2.unique hd h4
  rw [h1, h3]

end Go.Gn
end
