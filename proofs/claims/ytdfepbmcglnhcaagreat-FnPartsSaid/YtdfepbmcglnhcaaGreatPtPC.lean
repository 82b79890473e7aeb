import Derived.Test.YtdfepbmcglnhcaaGreatPtPB
import Derived.Test.YtdfepbmcglnhcaaGreatPtF
import Derived.Laws.Strings
section
set_option linter.unusedVariables false
set_option linter.unusedSimpArgs false
/-! plain: words of steps -/
namespace Go.Gn
open Go Go.Eng Pl Pl.M2

/-- the letters of a string -/
def wd (w : ByteArray) : List Int := w.data.toList.map fun c => (c.toNat : Int)
theorem wd_len (w : ByteArray) : (wd w).length = w.size := by unfold wd; rw [List.length_map]; rfl
theorem wd_range {w : ByteArray} : ∀ c ∈ wd w, 0 ≤ c ∧ c < 256 := by
  intro c hc
  unfold wd at hc
  obtain ⟨b, -, rfl⟩ := List.mem_map.1 hc
  have := b.toNat_lt
  omega
theorem getB_wd {w : ByteArray} {i : Nat} (h : i < (wd w).length) : ∃ b : UInt8, getB w (i : Int) = some b ∧ (b.toNat : Int) = (wd w)[i] := by
  have hs : i < w.size := by rw [← wd_len]; exact h
  refine ⟨w[i], ?_, ?_⟩
  · unfold getB; rw [if_pos (by omega), Int.toNat_natCast]; exact getElem?_pos w i hs
  · have e : (wd w)[i] = ((w.data.toList[i]'(by rw [wd] at h; rwa [List.length_map] at h)).toNat : Int) := List.getElem_map ..
    rw [e]; rfl

theorem u8_W {x : Int} (h0 : 0 ≤ x) (h1 : x < 256) : IntKind.wrap .u8 x = x := by
  simp [IntKind.wrap, IntKind.bits, IntKind.signed]; omega

/-- words of steps -/
def okC (p c : Int) : Prop := c = 117 ∨ 48 ≤ c ∧ c < 48 + p
instance (p c : Int) : Decidable (okC p c) := inferInstanceAs (Decidable (_ ∨ _))
def isW (p : Int) (l : List Int) : Prop := l.length ≤ 40 ∧ ∀ c ∈ l, okC p c
instance (p : Int) (l : List Int) : Decidable (isW p l) := inferInstanceAs (Decidable (_ ∧ _))

section
variable {p : Int} (hp : IsP p) {w : ByteArray} (hw : w.size ≤ 100000)
include hp hw
theorem impl_isSteps_l : ∀ (k i : Nat), (wd w).length - i < k → i ≤ (wd w).length → impl_isSteps.l2 k p w ((wd w).length : Int) (i : Int) = some (((wd w).drop i).all (fun c => decide (okC p c)) && decide ((wd w).length ≤ 40)) := by
  have hl := wd_len w
  have h7 := hp.seven
  have h2 := hp.two
  intro k
  induction k with
  | zero => intro i h; omega
  | succ k ih =>
    intro i h hi
    simp only [impl_isSteps.l2, impl_isSteps.s2]
    by_cases hlt : i < (wd w).length
    · obtain ⟨b, hb, hc⟩ := getB_wd hlt
      have hr := wd_range _ (List.getElem_mem hlt)
      have e : W ((i : Int) + 1) = ((i + 1 : Nat) : Int) := by rw [W_id (by omega) (by omega)]; omega
      rw [ifE_pos (by omega), hb, Option.bind_some, hc, e, List.drop_eq_getElem_cons hlt, List.all_cons, ih (i + 1) (by omega) (by omega)]
      by_cases h117 : (wd w)[i] = 117
      · rw [bne_eq h117, ifE_f, decide_eq_true (p := okC p (wd w)[i]) (.inl h117), Bool.true_and]
      · rw [bne_ne h117, ifE_t]
        by_cases h48 : (wd w)[i] < 48
        · rw [ifE_pos h48, decide_eq_false (p := okC p (wd w)[i]) (by unfold okC; omega)]; rfl
        · rw [ifE_neg h48, u8_W (by omega) (by omega), W_id (n := (wd w)[i] - 48) (by omega) (by omega)]
          by_cases hge : (wd w)[i] - 48 ≥ p
          · rw [ifE_pos hge, decide_eq_false (p := okC p (wd w)[i]) (by unfold okC; omega)]; rfl
          · rw [ifE_neg hge, decide_eq_true (p := okC p (wd w)[i]) (.inr (by omega)), Bool.true_and]
    · rw [ifE_neg (by omega), List.drop_eq_nil_of_le (by omega), List.all_nil, Bool.true_and]
      congr 1; rw [decide_eq_decide]; omega
theorem impl_isSteps_f : impl_isSteps.f p w = some (decide (isW p (wd w))) := by
  unfold impl_isSteps.f
  have := impl_isSteps_l hp hw fuelN 0 (lt_fuel (by rw [wd_len]; omega)) (by omega)
  rw [List.drop_zero, wd_len] at this
  refine this.trans ?_
  rw [← wd_len]
  congr 1; rw [Bool.eq_iff_iff, decide_eq_true_eq (p := isW p (wd w))]; unfold isW; simp [and_comm]

theorem spec_l10Is_l : ∀ (k i : Nat), (wd w).length - i < k → i ≤ (wd w).length → spec_l10Is.l4 k p w (i : Int) = some (((wd w).drop i).all (fun c => decide (okC p c))) := by
  have hl := wd_len w
  have h7 := hp.seven
  have h2 := hp.two
  intro k
  induction k with
  | zero => intro i h; omega
  | succ k ih =>
    intro i h hi
    simp only [spec_l10Is.l4, spec_l10Is.s4]
    by_cases hlt : i < (wd w).length
    · obtain ⟨b, hb, hc⟩ := getB_wd hlt
      have hr := wd_range _ (List.getElem_mem hlt)
      have e : W ((i : Int) + 1) = ((i + 1 : Nat) : Int) := by rw [W_id (by omega) (by omega)]; omega
      rw [ifE_pos (by omega), hb, Option.bind_some, hc, e, List.drop_eq_getElem_cons hlt, List.all_cons, Option.bind_some, ih (i + 1) (by omega) (by omega)]
      by_cases h117 : (wd w)[i] = 117
      · rw [bne_eq h117, ifE_f, decide_eq_true (p := okC p (wd w)[i]) (.inl h117), Bool.true_and]
      · rw [bne_ne h117, ifE_t, hc, W_id (n := (wd w)[i]) (by omega) (by omega), W_id (n := (wd w)[i] - 48) (by omega) (by omega), W_id (n := p - 1) (by omega) (by omega), spec_l01In_f, Option.bind_some]
        by_cases hge : 0 ≤ (wd w)[i] - 48 ∧ (wd w)[i] - 48 ≤ p - 1
        · rw [decide_eq_true hge, Bool.not_true, ifE_f, decide_eq_true (p := okC p (wd w)[i]) (.inr (by omega)), Bool.true_and]
        · rw [decide_eq_false hge, Bool.not_false, ifE_t, decide_eq_false (p := okC p (wd w)[i]) (by unfold okC; omega)]; rfl
    · rw [ifE_neg (by omega), List.drop_eq_nil_of_le (by omega)]; rfl
theorem spec_l10Is_f : spec_l10Is.f p w = some (decide (isW p (wd w))) := by
  unfold spec_l10Is.f
  have hl := wd_len w
  by_cases h40 : (w.size : Int) > 40
  · rw [ifE_pos h40, decide_eq_false]; intro h; have := h.1; omega
  · rw [ifE_neg h40]
    have := spec_l10Is_l hp hw fuelN 0 (lt_fuel (by omega)) (by omega)
    rw [List.drop_zero] at this
    refine this.trans ?_
    congr 1; rw [Bool.eq_iff_iff, decide_eq_true_eq (p := isW p (wd w))]; unfold isW; simp; omega
end

theorem zB_ok {p : Int} (hp : IsP p) : isB p zB := isB_zero hp (by unfold isL; decide)
theorem zB_not {p : Int} (hp : ¬ IsP p) (b : Siii) : ¬ isB p b := fun h => hp h.1

def codeW (p : Int) (l : List Int) : Int := if IsP p then (if isW p l then 0 else 6) else 1
theorem impl_stepsCode_f {p : Int} {w : ByteArray} (hw : w.size ≤ 100000) : impl_stepsCode.f p zB w = some (codeW p (wd w)) := by
  unfold impl_stepsCode.f codeW
  rw [impl_IsBall_f, Option.bind_some]
  by_cases hp : IsP p
  · rw [decide_eq_true (zB_ok hp), Bool.not_true, ifE_f, impl_isSteps_f hp hw, Option.bind_some, if_pos hp]
    by_cases h : isW p (wd w)
    · rw [decide_eq_true h, if_pos h]; rfl
    · rw [decide_eq_false h, if_neg h]; rfl
  · rw [decide_eq_false (zB_not hp zB), if_neg hp]; rfl
theorem spec_l10Code_f {p : Int} {w : ByteArray} (hw : w.size ≤ 100000) : spec_l10Code.f p w [] = some (codeW p (wd w)) := by
  unfold spec_l10Code.f codeW
  rw [spec_l01Code_f (by simp), Option.bind_some]
  by_cases hp : IsP p
  · rw [if_pos ⟨hp, by simp⟩, bne_eq rfl, ifE_f, spec_l10Is_f hp hw, Option.bind_some, if_pos hp]
    by_cases h : isW p (wd w)
    · rw [decide_eq_true h, if_pos h]; rfl
    · rw [decide_eq_false h, if_neg h]; rfl
  · rw [if_neg fun h => hp h.1, if_neg hp]; rfl

/-! matrices of words -/
def Lm (p c : Int) : M2 := if c = 117 then ⟨1, 0, 0, p⟩ else ⟨p, c - 48, 0, 1⟩
def mosR (p : Int) : List Int → M2 → Siiii × Int
  | [], A => (ofM A, 0)
  | c :: r, A => if fitM 1000 (red (A.mul (Lm p c))) then mosR p r (red (A.mul (Lm p c))) else (zM, 3)
theorem Lm_ok {p c : Int} (hp : IsP p) (h : okC p c) : isM (Lm p c) := by
  have h2 := hp.two
  have h7 := hp.seven
  unfold Lm
  by_cases hc : c = 117
  · rw [if_pos hc]; refine ⟨⟨?_, ?_, ?_, ?_⟩, ?_⟩ <;> first | (unfold small; simp only; omega) | (unfold det; simp only; omega)
  · rw [if_neg hc]; unfold okC at h; refine ⟨⟨?_, ?_, ?_, ?_⟩, ?_⟩ <;> first | (unfold small; simp only; omega) | (unfold det; simp only; omega)

section
variable {p : Int} (hp : IsP p) {w : ByteArray} (hw : isW p (wd w))
include hp hw
theorem impl_mos_l (z0 z1 z2 z3 : Int) : ∀ (k i : Nat) (A : M2), (wd w).length - i < k → i ≤ (wd w).length → fitM 1000 A → A.det ≠ 0 → impl_MatrixOfSteps.l6 k p w ((wd w).length : Int) (i : Int) z0 z1 z2 z3 A.a A.b A.c A.d = some (mosR p ((wd w).drop i) A) := by
  have h40 := hw.1
  intro k
  induction k with
  | zero => intro i A h; omega
  | succ k ih =>
    intro i A h hi hA hd
    simp only [impl_MatrixOfSteps.l6, impl_MatrixOfSteps.s6]
    by_cases hlt : i < (wd w).length
    · obtain ⟨b, hb, hc⟩ := getB_wd hlt
      have hr := wd_range _ (List.getElem_mem hlt)
      have hok := hw.2 _ (List.getElem_mem hlt)
      have hm := Lm_ok hp hok
      have e : W ((i : Int) + 1) = ((i + 1 : Nat) : Int) := by rw [W_id (by omega) (by omega)]; omega
      rw [ifE_pos (by omega), hb, Option.bind_some, hc, List.drop_eq_getElem_cons hlt, Option.bind_some]
      have hj : ∀ a b c d : Int, (⟨a, b, c, d⟩ : M2) = Lm p (wd w)[i] → impl_MatrixOfSteps.j11 (impl_MatrixOfSteps.l6 k) p w ((wd w).length : Int) (i : Int) z0 z1 z2 z3 A.a A.b A.c A.d a b c d = some (mosR p ((wd w)[i] :: (wd w).drop (i + 1)) A) := by
        intro a b c d he
        unfold impl_MatrixOfSteps.j11
        have hp' := impl_product_f (g := ofM A) (h := ofM (Lm p (wd w)[i])) (fitM_mono hA (by omega)) (fitM_mono hm.1 (by omega)) hd hm.2
        rw [show (⟨A.a, A.b, A.c, A.d⟩ : Siiii) = ofM A from rfl, show (⟨a, b, c, d⟩ : Siiii) = ofM (Lm p (wd w)[i]) from by rw [← he]; rfl, hp', Option.bind_some, toM_ofM, toM_ofM, e]
        simp only [mosR]
        by_cases hf : fitM 1000 (red (A.mul (Lm p (wd w)[i])))
        · rw [decide_eq_true hf, if_pos hf, Bool.not_true, ifE_f]
          exact ih (i + 1) _ (by omega) (by omega) hf (det_red_ne (det_ne_mul hd hm.2))
        · rw [decide_eq_false hf, if_neg hf]; rfl
      by_cases h117 : (wd w)[i] = 117
      · rw [bne_eq h117, ifE_f]; exact hj _ _ _ _ (by unfold Lm; rw [if_pos h117])
      · rw [bne_ne h117, ifE_t, hc]
        unfold okC at hok
        have h7 := hp.seven
        rw [u8_W (by omega) (by omega), W_id (n := (wd w)[i] - 48) (by omega) (by omega)]
        exact hj _ _ _ _ (by unfold Lm; rw [if_neg h117])
    · rw [ifE_neg (by omega), List.drop_eq_nil_of_le (by omega)]; rfl
theorem spec_mos_l (z0 z1 z2 z3 : Int) : ∀ (k i : Nat) (A : M2), (wd w).length - i < k → i ≤ (wd w).length → fitM 1000 A → A.det ≠ 0 → spec_MatrixOfSteps.l6 k p w (i : Int) z0 z1 z2 z3 A.a A.b A.c A.d = some (mosR p ((wd w).drop i) A) := by
  have h40 := hw.1
  have hl := wd_len w
  intro k
  induction k with
  | zero => intro i A h; omega
  | succ k ih =>
    intro i A h hi hA hd
    simp only [spec_MatrixOfSteps.l6, spec_MatrixOfSteps.s6]
    by_cases hlt : i < (wd w).length
    · obtain ⟨b, hb, hc⟩ := getB_wd hlt
      have hr := wd_range _ (List.getElem_mem hlt)
      have hok := hw.2 _ (List.getElem_mem hlt)
      have hm := Lm_ok hp hok
      have e : W ((i : Int) + 1) = ((i + 1 : Nat) : Int) := by rw [W_id (by omega) (by omega)]; omega
      rw [ifE_pos (by omega), hb, Option.bind_some, hc, List.drop_eq_getElem_cons hlt, Option.bind_some]
      have hj : ∀ a b c d : Int, (⟨a, b, c, d⟩ : M2) = Lm p (wd w)[i] → spec_MatrixOfSteps.j11 (spec_MatrixOfSteps.l6 k) p w (i : Int) z0 z1 z2 z3 A.a A.b A.c A.d a b c d = some (mosR p ((wd w)[i] :: (wd w).drop (i + 1)) A) := by
        intro a b c d he
        unfold spec_MatrixOfSteps.j11
        have hp' := spec_l04Times_f (g := ofM A) (h := ofM (Lm p (wd w)[i])) (fitM_mono hA (by omega)) (fitM_mono hm.1 (by omega)) hd hm.2
        rw [show (⟨A.a, A.b, A.c, A.d⟩ : Siiii) = ofM A from rfl, show (⟨a, b, c, d⟩ : Siiii) = ofM (Lm p (wd w)[i]) from by rw [← he]; rfl, hp', Option.bind_some, toM_ofM, toM_ofM, e]
        simp only [mosR]
        by_cases hf : fitM 1000 (red (A.mul (Lm p (wd w)[i])))
        · rw [decide_eq_true hf, if_pos hf, Bool.not_true, ifE_f]
          exact ih (i + 1) _ (by omega) (by omega) hf (det_red_ne (det_ne_mul hd hm.2))
        · rw [decide_eq_false hf, if_neg hf]; rfl
      by_cases h117 : (wd w)[i] = 117
      · rw [bne_eq h117, ifE_f]; exact hj _ _ _ _ (by unfold Lm; rw [if_pos h117])
      · rw [bne_ne h117, ifE_t, hc]
        unfold okC at hok
        have h7 := hp.seven
        rw [W_id (n := (wd w)[i]) (by omega) (by omega), W_id (n := (wd w)[i] - 48) (by omega) (by omega)]
        exact hj _ _ _ _ (by unfold Lm; rw [if_neg h117])
    · rw [ifE_neg (by omega), List.drop_eq_nil_of_le (by omega)]; rfl
end

def mosE (p : Int) (l : List Int) : Siiii × Int := if codeW p l ≠ 0 then (zM, codeW p l) else mosR p l M2.one
theorem codeW_0 {p : Int} {l : List Int} (h : codeW p l = 0) : IsP p ∧ isW p l := by
  unfold codeW at h
  by_cases hp : IsP p
  · rw [if_pos hp] at h
    by_cases hw : isW p l
    · exact ⟨hp, hw⟩
    · rw [if_neg hw] at h; omega
  · rw [if_neg hp] at h; omega
theorem impl_MatrixOfSteps_f {p : Int} {w : ByteArray} (hw : w.size ≤ 100000) : impl_MatrixOfSteps.f p w = some (mosE p (wd w)) := by
  unfold impl_MatrixOfSteps.f mosE
  rw [show (⟨0, 0, 0⟩ : Siii) = zB from rfl, impl_stepsCode_f hw, Option.bind_some]
  by_cases h : codeW p (wd w) = 0
  · obtain ⟨hp, hW⟩ := codeW_0 h
    rw [bne_eq h, ifE_f, if_neg (by omega)]
    have := impl_mos_l hp hW 0 0 0 0 fuelN 0 M2.one (lt_fuel (by rw [wd_len]; omega)) (by omega) isM_one (by decide)
    rw [List.drop_zero, wd_len] at this
    exact this
  · rw [bne_ne h, ifE_t, if_pos h]; rfl
theorem spec_MatrixOfSteps_f {p : Int} {w : ByteArray} (hw : w.size ≤ 100000) : spec_MatrixOfSteps.f p w = some (mosE p (wd w)) := by
  unfold spec_MatrixOfSteps.f mosE
  rw [spec_l10Code_f hw, Option.bind_some]
  by_cases h : codeW p (wd w) = 0
  · obtain ⟨hp, hW⟩ := codeW_0 h
    rw [bne_eq h, ifE_f, if_neg (by omega)]
    have := spec_mos_l hp hW 0 0 0 0 fuelN 0 M2.one (lt_fuel (by rw [wd_len]; omega)) (by omega) isM_one (by decide)
    rw [List.drop_zero] at this
    exact this
  · rw [bne_ne h, ifE_t, if_pos h]; rfl

end Go.Gn
end
section
set_option linter.unusedVariables false
set_option linter.unusedSimpArgs false
/-! plain: triangular and unit parts -/
namespace Go.Gn
open Go Go.Eng Pl Pl.M2

theorem bMat_zB (p : Int) : bMat p zB = smul (p ^ 6) M2.one := by
  show mB p 0 0 0 = _
  unfold mB ofB Pl.mk nL smul M2.one
  ext <;> simp

/-- the matrix that both print for a ball -/
theorem tri_mat {p : Int} {c : Siii} (hc : isB p c) {e : Nat} (he : (e : Int) = max c.c2 (-c.c0)) :
    smul (p ^ (6 - e)) ⟨p ^ (c.c0 + e).toNat, c.c1 * p ^ (e - c.c2.toNat), 0, p ^ e⟩ = bMat p c := by
  have hL := hc.lv
  have hD := hc.dn
  have em : bMat p c = ⟨p ^ lvB c, mkB p c, 0, p ^ 6⟩ := rfl
  have q1 : p ^ (6 - e) * p ^ e = p ^ 6 := by rw [← Int.pow_add]; congr 1; omega
  have q2 : p ^ (6 - e) * p ^ (c.c0 + e).toNat = p ^ lvB c := by rw [← Int.pow_add]; congr 1; unfold lvB nL; omega
  have q3 : p ^ (6 - e) * (c.c1 * p ^ (e - c.c2.toNat)) = mkB p c := by
    unfold mkB Pl.mk
    rw [show (6 - c.c2).toNat = (6 - e) + (e - c.c2.toNat) from by omega, Int.pow_add]; grind
  rw [em, ← q1, ← q2, ← q3]
  unfold smul; ext <;> simp

def triE (p : Int) (c : Siii) (ok : Bool) : Siiii × Bool := if ok then (ofM (red (bMat p c)), decide (fitM 1000 (red (bMat p c)))) else (zM, false)

section
variable {p : Int} (hp : IsP p) {g : Siiii} (hg : isM (toM g))
include hp hg
theorem impl_triangular_f : ∃ c ok, impl_moveBall.f p g zB = some (c, ok) ∧ MvM p ((toM g).mul (bMat p zB)) c ok ∧ impl_triangular.f p g = some (triE p c ok) ∧ spec_l10Triangular.f p g = some (triE p c ok) := by
  have hz := zB_ok hp
  obtain ⟨c, ok, e1, h⟩ := impl_moveBall_f hz hg
  have e2 := move_same hz hg
  refine ⟨c, ok, e1, h, ?_⟩
  unfold impl_triangular.f spec_l10Triangular.f triE
  rw [show (⟨0, 0, 0⟩ : Siii) = zB from rfl, e2, e1, Option.bind_some, Option.bind_some]
  cases ok
  · exact ⟨rfl, rfl⟩
  · rcases h with ⟨-, hc, hs⟩ | ⟨h, -⟩
    case inr => exact absurd h (by decide)
    have h2 := hp.two
    have hL := hc.lv
    have hD := hc.dn
    have hT := isB_T' hc
    obtain ⟨e, he⟩ : ∃ e : Nat, (e : Int) = max c.c2 (-c.c0) := ⟨(max c.c2 (-c.c0)).toNat, by omega⟩
    have ei : imax c.c2 (W (0 - c.c0)) = (e : Int) := by rw [W_id (n := 0 - c.c0) (by omega) (by omega)]; unfold imax; split <;> omega
    have ei2 : imax (imax 0 (W (0 - c.c0))) c.c2 = (e : Int) := by rw [W_id (n := 0 - c.c0) (by omega) (by omega)]; unfold imax; split <;> split <;> omega
    have hs1 := pow12 hp (k := (c.c0 + e).toNat) (by omega)
    have he2 := pow12 hp (k := e) (by omega)
    have he3 := pow12 hp (k := e - c.c2.toNat) (by omega)
    have ht0 : 0 ≤ c.c1 * p ^ (e - c.c2.toNat) := Int.mul_nonneg hT.1 (by omega)
    have em := tri_mat hc he
    have h6 := pow_pos h2 (6 - e)
    have ht1 : c.c1 * p ^ (e - c.c2.toNat) ≤ 13841287201 := by
      have hmk := mkB_le hc
      have q3 : p ^ (6 - e) * (c.c1 * p ^ (e - c.c2.toNat)) = mkB p c := congrArg M2.b em
      have : 1 * (c.c1 * p ^ (e - c.c2.toNat)) ≤ p ^ (6 - e) * (c.c1 * p ^ (e - c.c2.toNat)) := Int.mul_le_mul_of_nonneg_right (by omega) ht0
      omega
    have hdet : (toM ⟨p ^ (c.c0 + e).toNat, c.c1 * p ^ (e - c.c2.toNat), 0, p ^ e⟩).det ≠ 0 := by
      have := Int.mul_ne_zero (pow_ne h2 (c.c0 + e).toNat) (pow_ne h2 e)
      unfold toM det; simp only; omega
    have hfit : fitM lim (toM ⟨p ^ (c.c0 + e).toNat, c.c1 * p ^ (e - c.c2.toNat), 0, p ^ e⟩) := by
      refine ⟨?_, ?_, ?_, ?_⟩ <;> unfold small lim toM <;> simp only <;> omega
    have hr : red (toM ⟨p ^ (c.c0 + e).toNat, c.c1 * p ^ (e - c.c2.toNat), 0, p ^ e⟩) = red (bMat p c) := by
      rw [← em]
      exact (red_smul (pow_ne h2 _) hdet).symm
    rw [Bool.not_true, ifE_f, ifE_f, ei, ei2, W_id (n := c.c0 + (e : Int)) (by omega) (by omega), W_id (n := (e : Int) - c.c2) (by omega) (by omega), impl_power_f hp (k := c.c0 + (e : Int)) (by omega) (by omega), Option.bind_some, impl_power_f hp (k := (e : Int) - c.c2) (by omega) (by omega), Option.bind_some, impl_power_f hp (k := (e : Int)) (by omega) (by omega), Option.bind_some,
      spec_power_f hp (k := c.c0 + (e : Int)) (by omega) (by omega), Option.bind_some, spec_power_f hp (k := (e : Int) - c.c2) (by omega) (by omega), Option.bind_some, spec_power_f hp (k := (e : Int)) (by omega) (by omega), Option.bind_some,
      Int.toNat_natCast, show ((e : Int) - c.c2).toNat = e - c.c2.toNat from by omega, W_id (n := c.c1 * p ^ (e - c.c2.toNat)) (by omega) (by omega), impl_reduced_f hdet hfit, Option.bind_some, spec_l04Reduce_f hdet hfit, Option.bind_some, hr]
    exact ⟨rfl, rfl⟩
end

def partE (p : Int) (g : Siiii) : Int := if IsP p ∧ isM (toM g) then 0 else 1
theorem impl_partCode_f (p : Int) (g : Siiii) : impl_partCode.f p g = some (partE p g) := by
  unfold impl_partCode.f partE
  rw [impl_isPrime_f, Option.bind_some]
  by_cases hp : IsP p
  · rw [decide_eq_true hp, Bool.not_true, ifE_f, impl_IsMatrix_f, Option.bind_some]
    by_cases hg : isM (toM g)
    · rw [decide_eq_true hg, if_pos ⟨hp, hg⟩]; rfl
    · rw [decide_eq_false hg, if_neg fun h => hg h.2]; rfl
  · rw [decide_eq_false hp, if_neg fun h => hp h.1]; rfl
theorem spec_l04Code_f (p : Int) (g : Siiii) : spec_l04Code.f p g [] = some (partE p g) := by
  unfold spec_l04Code.f partE
  rw [spec_l01Code_f (by simp), Option.bind_some]
  by_cases hp : IsP p
  · rw [if_pos ⟨hp, by simp⟩, bne_eq rfl, ifE_f, spec_l04Is_f, Option.bind_some]
    by_cases hg : isM (toM g)
    · rw [decide_eq_true hg, if_pos ⟨hp, hg⟩]; rfl
    · rw [decide_eq_false hg, if_neg fun h => hg h.2]; rfl
  · rw [if_neg fun h => hp h.1, if_neg fun h => hp h.1]; rfl
theorem partE_0 {p : Int} {g : Siiii} : (partE p g = 0 ∧ IsP p ∧ isM (toM g)) ∨ (partE p g = 1 ∧ ¬ (IsP p ∧ isM (toM g))) := by
  unfold partE
  by_cases h : IsP p ∧ isM (toM g)
  · rw [if_pos h]; exact .inl ⟨rfl, h⟩
  · rw [if_neg h]; exact .inr ⟨rfl, h⟩

/-- what all parts answer, by the ball of the moved origin -/
def trE (p : Int) (c : Siii) (ok : Bool) : Siiii × Int := if (triE p c ok).2 then ((triE p c ok).1, 0) else (zM, 3)
def unE (p : Int) (g : Siiii) (c : Siii) (ok : Bool) : Siiii × Int := if (triE p c ok).2 then fitE ((toM (triE p c ok).1).adj.mul (toM g)) else (zM, 3)
def posE (p : Int) (g : Siiii) : Int := vl p (red (toM g)).det

theorem parts_f (p : Int) (g : Siiii) : (partE p g = 1 ∧ impl_TriangularPart.f p g = some (zM, 1) ∧ spec_TriangularPart.f p g = some (zM, 1) ∧ impl_UnitPart.f p g = some (zM, 1) ∧ spec_UnitPart.f p g = some (zM, 1) ∧
      impl_IsUnitMatrix.f p g = some (false, 1) ∧ spec_IsUnitMatrix.f p g = some (false, 1) ∧ impl_MatrixPosition.f p g = some (0, 1) ∧ spec_MatrixPosition.f p g = some (0, 1)) ∨
    (IsP p ∧ isM (toM g) ∧ partE p g = 0 ∧ ∃ c ok, impl_moveBall.f p g zB = some (c, ok) ∧ MvM p ((toM g).mul (bMat p zB)) c ok ∧ impl_triangular.f p g = some (triE p c ok) ∧ spec_l10Triangular.f p g = some (triE p c ok) ∧
      impl_TriangularPart.f p g = some (trE p c ok) ∧ spec_TriangularPart.f p g = some (trE p c ok) ∧ impl_UnitPart.f p g = some (unE p g c ok) ∧ spec_UnitPart.f p g = some (unE p g c ok) ∧
      impl_IsUnitMatrix.f p g = some (decide (posE p g = 0), 0) ∧ spec_IsUnitMatrix.f p g = some (decide (posE p g = 0), 0) ∧ impl_MatrixPosition.f p g = some (posE p g, 0) ∧ spec_MatrixPosition.f p g = some (posE p g, 0)) := by
  rcases partE_0 (p := p) (g := g) with ⟨he, hp, hg⟩ | ⟨he, -⟩
  · right
    refine ⟨hp, hg, he, ?_⟩
    obtain ⟨c, ok, e1, h1, e2, e3⟩ := impl_triangular_f hp hg
    refine ⟨c, ok, e1, h1, e2, e3, ?_⟩
    have hrd := det_red_ne hg.2
    have hrf := red_fit hg.2 hg.1
    have hbd : big63 (red (toM g)).det := big_63' (det_big' hrf)
    have hred : impl_reduce.f g = some (ofM (red (toM g))) := impl_reduce_f hg.2 (isM_lim hg)
    have hdW : W (W ((ofM (red (toM g))).c0 * (ofM (red (toM g))).c3) - W ((ofM (red (toM g))).c1 * (ofM (red (toM g))).c2)) = (red (toM g)).det := det_W (g := ofM (red (toM g))) (m := 1000) (by omega) hrf
    have hpos : spec_l10Position.f p g = some (posE p g) := by
      unfold spec_l10Position.f spec_l04Det.f posE
      rw [spec_l04Reduce_f hg.2 (isM_lim hg), Option.bind_some, Option.bind_some, hdW, spec_val_f hp hrd hbd]; rfl
    have htri : (triE p c ok).2 = true → isM (toM (triE p c ok).1) := by
      intro h
      unfold triE at h ⊢
      cases ok
      · rw [if_neg (by simp)] at h; simp at h
      · rw [if_pos rfl] at h ⊢
        rcases h1 with ⟨-, hc, -⟩ | ⟨h1, -⟩
        · exact ⟨of_decide_eq_true h, det_red_ne (bMat_ne hc)⟩
        · exact absurd h1 (by decide)
    refine ⟨?_, ?_, ?_, ?_, ?_, ?_, ?_, ?_⟩
    · unfold impl_TriangularPart.f trE impl_fittedMatrix.f
      rw [impl_partCode_f, he, Option.bind_some, bne_eq rfl, ifE_f, e2, Option.bind_some]
      cases (triE p c ok).2 <;> rfl
    · unfold spec_TriangularPart.f trE
      rw [spec_l04Code_f, he, Option.bind_some, bne_eq rfl, ifE_f, e3, Option.bind_some]
      cases (triE p c ok).2 <;> rfl
    · unfold impl_UnitPart.f unE
      rw [impl_partCode_f, he, Option.bind_some, bne_eq rfl, ifE_f, e2, Option.bind_some]
      cases ht : (triE p c ok).2
      · rfl
      · have hm := htri ht
        have hma : isM (toM (triE p c ok).1).adj := ⟨adj_fit hm.1, det_adj_ne hm.2⟩
        have hmr : fitM 1000 (red (toM (triE p c ok).1).adj) := red_fit hma.2 hma.1
        have hinv : impl_inverted.f (triE p c ok).1 = some (ofM (red (toM (triE p c ok).1).adj)) := impl_inverted_f hm.2 (isM_fit hm)
        have hpr := impl_product_f (g := ofM (red (toM (triE p c ok).1).adj)) (h := g) (fitM_mono hmr (by omega)) (isM_fit hg) (det_red_ne hma.2) hg.2
        rw [Bool.not_true, ifE_f, hinv, Option.bind_some, hpr, Option.bind_some, toM_ofM, red_mul_left hma.2 hg.2, if_pos rfl]
        unfold impl_fittedMatrix.f fitE
        by_cases hf : fitM 1000 (red ((toM (triE p c ok).1).adj.mul (toM g)))
        · rw [decide_eq_true hf, if_pos hf]; rfl
        · rw [decide_eq_false hf, if_neg hf]; rfl
    · unfold spec_UnitPart.f unE
      rw [spec_l04Code_f, he, Option.bind_some, bne_eq rfl, ifE_f, e3, Option.bind_some]
      cases ht : (triE p c ok).2
      · rfl
      · have hm := htri ht
        have hma : isM (toM (triE p c ok).1).adj := ⟨adj_fit hm.1, det_adj_ne hm.2⟩
        have hmr : fitM 1000 (red (toM (triE p c ok).1).adj) := red_fit hma.2 hma.1
        have hinv : spec_l04Inverse.f (triE p c ok).1 = some (ofM (red (toM (triE p c ok).1).adj)) := spec_l04Inverse_f hm.2 (isM_fit hm)
        have hpr := spec_l04Times_f (g := ofM (red (toM (triE p c ok).1).adj)) (h := g) (fitM_mono hmr (by omega)) (isM_fit hg) (det_red_ne hma.2) hg.2
        rw [Bool.not_true, ifE_f, hinv, Option.bind_some, hpr, Option.bind_some, toM_ofM, red_mul_left hma.2 hg.2, if_pos rfl]
        unfold fitE
        by_cases hf : fitM 1000 (red ((toM (triE p c ok).1).adj.mul (toM g)))
        · rw [decide_eq_true hf, if_pos hf]; rfl
        · rw [decide_eq_false hf, if_neg hf]; rfl
    · unfold impl_IsUnitMatrix.f impl_determinant.f
      rw [impl_partCode_f, he, Option.bind_some, bne_eq rfl, ifE_f, hred, Option.bind_some, Option.bind_some, hdW, guardE_pos (by have := hp.two; omega), mod_ne hp]
      congr 2; rw [decide_eq_decide]
      unfold posE
      have := dvd_iff_le_vl hp.two hrd 1
      rw [show p ^ 1 = p from by grind] at this
      rw [this]; omega
    · unfold spec_IsUnitMatrix.f
      rw [spec_l04Code_f, he, Option.bind_some, bne_eq rfl, ifE_f, hpos, Option.bind_some]; rfl
    · unfold impl_MatrixPosition.f impl_determinant.f
      rw [impl_partCode_f, he, Option.bind_some, bne_eq rfl, ifE_f, hred, Option.bind_some, Option.bind_some, hdW, impl_valuation_f hp hrd hbd]; rfl
    · unfold spec_MatrixPosition.f
      rw [spec_l04Code_f, he, Option.bind_some, bne_eq rfl, ifE_f, hpos]; rfl
  · left
    refine ⟨he, ?_⟩
    unfold impl_TriangularPart.f spec_TriangularPart.f impl_UnitPart.f spec_UnitPart.f impl_IsUnitMatrix.f spec_IsUnitMatrix.f impl_MatrixPosition.f spec_MatrixPosition.f
    rw [impl_partCode_f, spec_l04Code_f, he]
    exact ⟨rfl, rfl, rfl, rfl, rfl, rfl, rfl, rfl⟩

/-! the parts' laws -/
theorem minv_red {p : Int} (hp : IsP p) {X : M2} (h : X.det ≠ 0) : minv p (red X) = 0 ∧ vl p (red X).det = vl p X.det - 2 * minv p X ∧ vl p X.kof = minv p X := by
  have hk := kof_ne h
  have hr := det_red_ne h
  have e := red_smul_kof X
  have h1 := minv_smul hp hk hr
  rw [e] at h1
  have hv : vl p X.kof = minv p X := by
    unfold minv kof
    rcases sgn_ne X with hs | hs <;> rw [hs]
    · rw [Int.one_mul]
    · rw [show (-1 : Int) * X.cont = -X.cont from by omega, vl_neg hp.two]
  have h2 := congrArg M2.det e
  rw [det_smul] at h2
  have h3 := congrArg (vl p) h2
  rw [vl_mul hp (Int.mul_ne_zero hk hk) hr, vl_mul hp hk hk] at h3
  omega

theorem same_prop {p : Int} (hp : IsP p) {X Y : M2} {s t : Int} (hX : X.det ≠ 0) (hY : Y.det ≠ 0) (hs : s ≠ 0) (ht : t ≠ 0) (h : smul s X = smul t Y) : Same p X Y := by
  unfold Same
  rw [← dist_smul_left hp hs hX hY, h, dist_smul_left hp ht hY hY]
  exact dist_self hp hY

/-- the way of the origin is the position -/
theorem pos_dist {p : Int} (hp : IsP p) {g : Siiii} (hg : isM (toM g)) {c : Siii} (hc : isB p c) (hs : Same p (bMat p c) ((toM g).mul (bMat p zB))) : distZ p zB c = posE p g := by
  have hz := zB_ok hp
  have h6 := pow_ne hp.two 6
  rw [distZ_dist hz hc]
  have hG := det_ne_mul hg.2 (bMat_ne hz)
  have o1 : M2.one.det ≠ 0 := by decide
  rw [Same.dist hp (bMat_ne hz) (bMat_ne hc) (bMat_ne hz) hG (by unfold Same; exact dist_self hp (bMat_ne hz)) hs, bMat_zB, mul_smul, M2.mul_one, dist_smul_left hp h6 o1 (smul_det_ne h6 hg.2), dist_smul_right hp h6 o1 hg.2]
  unfold dist posE
  have e1 : M2.one.adj.mul (toM g) = toM g := by unfold M2.one adj mul; ext <;> simp
  obtain ⟨a, b, d⟩ := minv_red hp hg.2
  have := two_minv_le hp hg.2
  rw [e1, show M2.one.det = 1 from rfl, show vl p 1 = 0 from by have := vl_pow hp.two 0; rwa [Int.pow_zero] at this]
  omega

/-- the unit part is one -/
theorem unit_pos {p : Int} (hp : IsP p) {t g : M2} (ht : t.det ≠ 0) (hg : g.det ≠ 0) (hs : Same p t g) : vl p (red (t.adj.mul g)).det = 0 := by
  have hX := det_ne_mul (det_adj_ne ht) hg
  obtain ⟨a, b, d⟩ := minv_red hp hX
  unfold Same dist at hs
  rw [b, det_mul, det_adj, vl_mul hp ht hg]
  omega

end Go.Gn
end
section
set_option linter.unusedVariables false
set_option linter.unusedSimpArgs false
/-! plain: ways and their words -/
namespace Go.Gn
open Go Go.Eng Pl Pl.M2

theorem isAt_ball' {p : Int} {b c : Siii} (hc : isB p c) : IsAt p c.c1 (p ^ c.c2.toNat) b.c0 b.c1 b.c2 ↔ isB p b ∧ p ^ lvB b ∣ mkB p c - mkB p b := by
  unfold IsAt
  have hd := hc.dn
  have h2 := hc.1.two
  have e1 : p ^ 6 * c.c1 = mkB p c * p ^ c.c2.toNat := by
    unfold mkB Pl.mk
    rw [Int.mul_assoc, ← Int.pow_add, show (6 - c.c2).toNat + c.c2.toNat = 6 from by omega, Int.mul_comm]
  rw [e1, vl_pow h2, Int.pow_add, ← Int.sub_mul]
  have hz := pow_ne h2 c.c2.toNat
  unfold mkB lvB
  exact ⟨fun h => ⟨h.1, Int.dvd_of_mul_dvd_mul_right hz h.2⟩, fun h => ⟨h.1, Int.mul_dvd_mul_right _ h.2⟩⟩

/-- the ball above (or below the mark) at a level -/
def upB (p : Int) (b : Siii) (l : Int) : Siii := ofX p l (mkB p b % p ^ nL l)
theorem upB_ok {p : Int} (hp : IsP p) (b : Siii) {l : Int} (hl : isL l) : isB p (upB p b l) ∧ mkB p (upB p b l) = mkB p b % p ^ nL l ∧ (upB p b l).c0 = l ∧ lvB (upB p b l) = nL l :=
  ⟨ofX_isB hp hl (emod_range (isP_pow_pos hp _)), ofX_mk hp, rfl, rfl⟩

theorem impl_above_f {p : Int} {b : Siii} (hb : isB p b) {l : Int} (hl : isL l) : impl_above.f p b l = some (upB p b l) := by
  unfold impl_above.f
  rw [impl_mark_f hb, Option.bind_some, impl_ofMark_f hb.1, Option.bind_some, if_pos hl]; rfl

theorem spec_up_f {p : Int} {b : Siii} (hb : isB p b) (l : Int) : ((spec_l01Power.f p b.c2).bind fun r1 => spec_l01Of.f p b.c1 r1 l) = some (if isL l then (upB p b l, true) else (zB, false)) := by
  have hp := hb.1
  have h2 := hp.two
  have hd := hb.dn
  have ht := isB_T' hb
  have hpw := pow12 hp (k := b.c2.toNat) (by omega)
  rw [spec_power_f hp hd.1 (by omega), Option.bind_some]
  obtain ⟨c, ok, e, h⟩ := spec_l01Of_f (p := p) (num := b.c1) (den := p ^ b.c2.toNat) (L := l) hp (by omega) (by unfold big63; omega) (by unfold big63; omega)
  rw [e]
  by_cases hl : isL l
  · have hf : Fits p b.c1 (p ^ b.c2.toNat) l := ⟨hl, .inr (.inr (by rw [vl_pow h2]; omega))⟩
    rw [if_pos hl]
    rcases h with ⟨-, rfl, hc, hat⟩ | ⟨hn, -⟩
    · rw [← hc] at hat
      obtain ⟨h1, h3⟩ := (isAt_ball' hb).1 hat
      obtain ⟨u1, u2, u3, u4⟩ := upB_ok hp b hl
      have hcu : c = upB p b l := by
        refine isB_inj h1 u1 (by rw [u3, hc]) ?_
        have r1 := mkB_range h1
        have r2 := mkB_range u1
        have el : lvB c = nL l := by unfold lvB; rw [hc]
        rw [u4] at r2
        rw [el] at r1 h3
        refine eq_of_dvd_sub r1 r2 ?_
        rw [u2]
        have h4 := emod_congr (a := mkB p b) (m := p ^ nL l)
        have h5 := Int.dvd_sub h4 h3
        rwa [show mkB p b - mkB p b % p ^ nL l - (mkB p b - mkB p c) = mkB p c - mkB p b % p ^ nL l from by omega] at h5
      rw [hcu]
    · exact absurd hf hn
  · rw [if_neg hl]
    rcases h with ⟨hf, -⟩ | ⟨-, rfl, rfl⟩
    · exact absurd hf.1 hl
    · rfl
theorem spec_l02Up_f {p : Int} {b : Siii} (hb : isB p b) {l : Int} (hl : isL l) : spec_l02Up.f p b l = some (upB p b l, true) := by
  have := spec_up_f hb l
  unfold spec_l02Up.f
  have e : ((spec_l01Power.f p b.c2).bind fun r1 => (spec_l01Of.f p b.c1 r1 l).bind fun r2 => some (r2.1, r2.2)) = ((spec_l01Power.f p b.c2).bind fun r1 => spec_l01Of.f p b.c1 r1 l) := by
    cases spec_l01Power.f p b.c2 with
    | none => rfl
    | some q => simp only [Option.bind_some]; cases spec_l01Of.f p b.c1 q l <;> rfl
  rw [e, this, if_pos hl]
theorem spec_l01Parent_f {p : Int} {b : Siii} (hb : isB p b) : spec_l01Parent.f p b = some (if -6 ≤ b.c0 - 1 then (upB p b (b.c0 - 1), true) else (zB, false)) := by
  have hL := hb.lv
  have := spec_up_f hb (W (b.c0 - 1))
  unfold spec_l01Parent.f
  have e : ((spec_l01Power.f p b.c2).bind fun r1 => (spec_l01Of.f p b.c1 r1 (W (b.c0 - 1))).bind fun r2 => some (r2.1, r2.2)) = ((spec_l01Power.f p b.c2).bind fun r1 => spec_l01Of.f p b.c1 r1 (W (b.c0 - 1))) := by
    cases spec_l01Power.f p b.c2 with
    | none => rfl
    | some q => simp only [Option.bind_some]; cases spec_l01Of.f p b.c1 q (W (b.c0 - 1)) <;> rfl
  rw [e, this, W_id (by omega) (by omega)]
  by_cases h : -6 ≤ b.c0 - 1
  · rw [if_pos (by unfold isL; omega), if_pos h]
  · rw [if_neg (by unfold isL; omega), if_neg h]

theorem spec_l01Child_f {p : Int} {b : Siii} (hb : isB p b) {k : Int} (hk : 0 ≤ k ∧ k < p) : spec_l01Child.f p b k = some (if b.c0 + 1 ≤ 6 then (chB p b k, true) else (zB, false)) := by
  unfold spec_l01Child.f
  have hp := hb.1
  have h2 := hp.two
  have h7 := hp.seven
  have hL := hb.lv
  have hd := hb.dn
  have ht := isB_T' hb
  by_cases h6 : b.c0 = 6
  · rw [show (b.c0 == 6) = true from by simpa using h6, ifE_t, if_neg (by omega)]; rfl
  rw [beq_ne h6, ifE_f, spec_power_f hp hd.1 (by omega), Option.bind_some, if_pos (by omega)]
  obtain ⟨hcB, -⟩ := chB_ok hb hk (by omega)
  have hD := pow12 hp (k := b.c2.toNat) (by omega)
  have hcm : mkB p (chB p b k) = mkB p b + k * p ^ lvB b := ofX_mk hp
  -- what is left: the fraction is the child's centre
  have fin : ∀ num den : Int, den ≠ 0 → big63 num → big63 den → p ^ 6 * num = (mkB p b + k * p ^ lvB b) * den → spec_l01Child.j9 p num den b.c0 b.c1 b.c2 0 0 0 = some (chB p b k, true) := by
    intro num den hden bn bd he
    unfold spec_l01Child.j9
    rw [W_id (n := b.c0 + 1) (by omega) (by omega)]
    obtain ⟨c, ok, e, h⟩ := spec_l01Of_f (p := p) (num := num) (den := den) (L := b.c0 + 1) hp hden bn bd
    rw [e, Option.bind_some]
    have hat : IsAt p num den (b.c0 + 1) (chB p b k).c1 (chB p b k).c2 := by
      refine ⟨hcB, ?_⟩
      have : Pl.mk p (chB p b k).c1 (chB p b k).c2 = mkB p b + k * p ^ lvB b := hcm
      rw [this, he, Int.sub_self]; exact Int.dvd_zero _
    have hA : AtB p num den (b.c0 + 1) (chB p b k) true := .inl ⟨hat.fits hden, rfl, rfl, hat⟩
    obtain ⟨rfl, rfl⟩ := h.unique hden hA
    rfl
  have q3 : mkB p b = b.c1 * p ^ (6 - b.c2).toNat := rfl
  have e6 : p ^ 6 = p ^ (6 - b.c2).toNat * p ^ b.c2.toNat := by rw [← Int.pow_add, show (6 - b.c2).toNat + b.c2.toNat = 6 from by omega]
  by_cases h0 : b.c0 ≥ 0
  · have hq := pow12 hp (k := b.c0.toNat) (by omega)
    have hq6 : p ^ b.c0.toNat ≤ 117649 := by
      have h1 := pow_mono h2 (a := b.c0.toNat) (b := 6) (by omega)
      have h3 : p ^ 6 ≤ 117649 := by rcases hp with rfl | rfl | rfl | rfl <;> decide
      omega
    have hD6 : p ^ b.c2.toNat ≤ 117649 := by
      have h1 := pow_mono h2 (a := b.c2.toNat) (b := 6) (by omega)
      have h3 : p ^ 6 ≤ 117649 := by rcases hp with rfl | rfl | rfl | rfl <;> decide
      omega
    have m1 := Int.mul_le_mul (by omega : k ≤ 7) hD6 (by omega) (by omega)
    have m0 : 0 ≤ k * p ^ b.c2.toNat := Int.mul_nonneg hk.1 (by omega)
    have m2 := Int.mul_le_mul m1 hq6 (by omega) (by omega)
    have m3 : 0 ≤ k * p ^ b.c2.toNat * p ^ b.c0.toNat := Int.mul_nonneg m0 (by omega)
    rw [ifE_pos h0, spec_power_f hp h0 (by omega), Option.bind_some, W_id (n := k * p ^ b.c2.toNat) (by omega) (by omega), W_id (n := k * p ^ b.c2.toNat * p ^ b.c0.toNat) (by omega) (by omega), W_id (n := b.c1 + k * p ^ b.c2.toNat * p ^ b.c0.toNat) (by omega) (by omega)]
    refine fin _ _ (by omega) (by unfold big63; omega) (by unfold big63; omega) ?_
    have el : p ^ lvB b = p ^ 6 * p ^ b.c0.toNat := by rw [← Int.pow_add]; congr 1; unfold lvB nL; omega
    rw [el, q3, Int.mul_add, Int.add_mul]
    congr 1
    · rw [e6]; grind
    · grind
  · have hN := pow12 hp (k := (-b.c0).toNat) (by omega)
    have en : (0 - b.c0).toNat = (-b.c0).toNat := by omega
    rw [ifE_neg h0, W_id (n := 0 - b.c0) (by omega) (by omega), spec_power_f hp (k := 0 - b.c0) (by omega) (by omega), Option.bind_some, Option.bind_some, en, guardE_pos (by omega), guardE_pos (by omega)]
    obtain ⟨e, he⟩ : ∃ e : Nat, e = max b.c2.toNat (-b.c0).toNat := ⟨_, rfl⟩
    have ei : imax (p ^ b.c2.toNat) (p ^ (-b.c0).toNat) = p ^ e := by
      unfold imax
      rcases Nat.le_total b.c2.toNat (-b.c0).toNat with h | h
      · have := pow_mono h2 h
        rw [he, Nat.max_eq_right h]; split <;> omega
      · have := pow_mono h2 h
        rw [he, Nat.max_eq_left h]; split <;> omega
    have hE : p ^ e ≤ 117649 := by
      have h1 := pow_mono h2 (a := e) (b := 6) (by omega)
      have h3 : p ^ 6 ≤ 117649 := by rcases hp with rfl | rfl | rfl | rfl <;> decide
      omega
    have hE0 := pow_pos h2 e
    have t1 : Int.tdiv (p ^ e) (p ^ b.c2.toNat) = p ^ (e - b.c2.toNat) := by
      have : p ^ e = p ^ b.c2.toNat * p ^ (e - b.c2.toNat) := by rw [← Int.pow_add]; congr 1; omega
      rw [this]; exact Int.mul_tdiv_cancel_left _ (by omega)
    have t2 : Int.tdiv (p ^ e) (p ^ (-b.c0).toNat) = p ^ (e - (-b.c0).toNat) := by
      have : p ^ e = p ^ (-b.c0).toNat * p ^ (e - (-b.c0).toNat) := by rw [← Int.pow_add]; congr 1; omega
      rw [this]; exact Int.mul_tdiv_cancel_left _ (by omega)
    have z1 := pow_mono h2 (a := e - b.c2.toNat) (b := e) (by omega)
    have z2 := pow_mono h2 (a := e - (-b.c0).toNat) (b := e) (by omega)
    have z3 := pow_pos h2 (e - b.c2.toNat)
    have z4 := pow_pos h2 (e - (-b.c0).toNat)
    have m1 := Int.mul_le_mul ht.2 (by omega : p ^ (e - b.c2.toNat) ≤ 117649) (by omega) (by omega)
    have m2 := Int.mul_le_mul (by omega : k ≤ 7) (by omega : p ^ (e - (-b.c0).toNat) ≤ 117649) (by omega) (by omega)
    have m3 : 0 ≤ b.c1 * p ^ (e - b.c2.toNat) := Int.mul_nonneg ht.1 (by omega)
    have m4 : 0 ≤ k * p ^ (e - (-b.c0).toNat) := Int.mul_nonneg hk.1 (by omega)
    rw [ei, t1, t2, W_id (n := p ^ (e - b.c2.toNat)) (by omega) (by omega), W_id (n := p ^ (e - (-b.c0).toNat)) (by omega) (by omega), W_id (n := b.c1 * p ^ (e - b.c2.toNat)) (by omega) (by omega), W_id (n := k * p ^ (e - (-b.c0).toNat)) (by omega) (by omega), W_id (n := b.c1 * p ^ (e - b.c2.toNat) + k * p ^ (e - (-b.c0).toNat)) (by omega) (by omega)]
    refine fin _ _ (by omega) (by unfold big63; omega) (by unfold big63; omega) ?_
    have f1 : p ^ b.c2.toNat * p ^ (e - b.c2.toNat) = p ^ e := by rw [← Int.pow_add]; congr 1; omega
    have f2 : p ^ lvB b * p ^ e = p ^ 6 * p ^ (e - (-b.c0).toNat) := by rw [← Int.pow_add, ← Int.pow_add]; congr 1; unfold lvB nL; omega
    rw [Int.mul_add, Int.add_mul, q3]
    congr 1
    · rw [e6, ← f1]; grind
    · calc p ^ 6 * (k * p ^ (e - (-b.c0).toNat)) = k * (p ^ 6 * p ^ (e - (-b.c0).toNat)) := by grind
        _ = _ := by rw [← f2]; grind

end Go.Gn
end
section
set_option linter.unusedVariables false
set_option linter.unusedSimpArgs false
/-! plain: ways and their words, 2 -/
namespace Go.Gn
open Go Go.Eng Pl Pl.M2

/-- the digit that leads to a level -/
def dg (p : Int) (c : Siii) (l : Int) : Int := (mkB p c % p ^ nL l) / p ^ nL (l - 1)

theorem dg_ok {p : Int} (hp : IsP p) (c : Siii) {l : Int} (hl : isL l) (hl1 : isL (l - 1)) : (0 ≤ dg p c l ∧ dg p c l < p) ∧ chB p (upB p c (l - 1)) (dg p c l) = upB p c l := by
  unfold isL at hl hl1
  obtain ⟨n, hn⟩ : ∃ n, nL (l - 1) = n := ⟨_, rfl⟩
  have hn1 : nL l = n + 1 := by unfold nL at *; omega
  have hq := isP_pow_pos hp n
  have hq1 := isP_pow_pos hp (n + 1)
  have hr := emod_range (a := mkB p c) hq1
  obtain ⟨u1, u2, u3, u4⟩ := upB_ok hp c (l := l) hl
  obtain ⟨v1, v2, v3, v4⟩ := upB_ok hp c (l := l - 1) hl1
  rw [hn1] at u2 u4
  rw [hn] at v2 v4
  have hd : dg p c l = (mkB p c % p ^ (n + 1)) / p ^ n := by unfold dg; rw [hn, hn1]
  have h0 : 0 ≤ dg p c l := by rw [hd]; exact Int.ediv_nonneg hr.1 (by omega)
  have h1 : dg p c l < p := by
    rw [hd]
    refine Int.ediv_lt_of_lt_mul hq ?_
    rw [Int.mul_comm, ← Int.pow_succ]; exact hr.2
  refine ⟨⟨h0, h1⟩, ?_⟩
  obtain ⟨cb, -⟩ := chB_ok v1 ⟨h0, h1⟩ (by rw [v3]; omega)
  refine isB_inj cb u1 ?_ ?_
  · show (upB p c (l - 1)).c0 + 1 = (upB p c l).c0; rw [v3, u3]; omega
  · have e : mkB p (chB p (upB p c (l - 1)) (dg p c l)) = mkB p (upB p c (l - 1)) + dg p c l * p ^ lvB (upB p c (l - 1)) := ofX_mk hp
    rw [e, v2, v4, u2, hd]
    have e2 : mkB p c % p ^ n = (mkB p c % p ^ (n + 1)) % p ^ n := (Int.emod_emod_of_dvd _ ⟨p, Int.pow_succ p n⟩).symm
    have e3 := Int.emod_add_mul_ediv (mkB p c % p ^ (n + 1)) (p ^ n)
    rw [e2, Int.mul_comm]; exact e3

theorem ch_inj {p : Int} {b : Siii} (hb : isB p b) {k k' : Int} (h : chB p b k = chB p b k') : k = k' := by
  have e1 : mkB p (chB p b k) = mkB p b + k * p ^ lvB b := ofX_mk hb.1
  have e2 : mkB p (chB p b k') = mkB p b + k' * p ^ lvB b := ofX_mk hb.1
  rw [h, e2] at e1
  have hz := pow_ne hb.1.two (lvB b)
  have : k' * p ^ lvB b = k * p ^ lvB b := by omega
  exact (Int.eq_of_mul_eq_mul_right hz this).symm

theorem eqB3 (a b : Siii) : ((a.c0 == b.c0) && ((a.c1 == b.c1) && ((a.c2 == b.c2) && true))) = decide (a = b) := by
  cases a; cases b
  rw [Bool.eq_iff_iff]
  simp [Siii.mk.injEq]

section
variable {p : Int} {b : Siii} (hb : isB p b) (h6 : b.c0 + 1 ≤ 6) {k : Int} (hk : 0 ≤ k ∧ k < p)
include hb h6 hk
theorem toward_l : ∀ (f : Nat) (i : Int), 0 ≤ i → i ≤ k → (p - i).toNat < f → impl_toward.l2 f p (i + 1) b.c0 b.c1 b.c2 (chB p b k).c0 (chB p b k).c1 (chB p b k).c2 = some (k + 1) := by
  have h7 := hb.1.seven
  intro f
  induction f with
  | zero => intro i h0 h1 h; omega
  | succ f ih =>
    intro i h0 h1 h
    simp only [impl_toward.l2, impl_toward.s2]
    rw [ifE_pos (by omega), show (⟨b.c0, b.c1, b.c2⟩ : Siii) = b from rfl, impl_neighbour_k hb (k := i) (by omega), Option.bind_some, if_pos h6, ifE_t, eqB3]
    by_cases he : i = k
    · rw [he, decide_eq_true rfl, ifE_t]
    · rw [decide_eq_false fun h => he (ch_inj hb h), ifE_f, W_id (by omega) (by omega)]
      exact ih (i + 1) (by omega) (by omega) (by omega)
theorem impl_toward_f : impl_toward.f p b (chB p b k) = some (k + 1) := by
  unfold impl_toward.f
  have h7 := hb.1.seven
  exact toward_l hb h6 hk fuelN 0 (by omega) hk.1 (lt_fuel (by omega))
theorem digit_l : ∀ (f : Nat) (i : Int), 0 ≤ i → i ≤ k → (p - i).toNat < f → spec_l10Digit.l3 f p i (chB p b k).c0 (chB p b k).c1 (chB p b k).c2 b.c0 b.c1 b.c2 = some k := by
  have h7 := hb.1.seven
  intro f
  induction f with
  | zero => intro i h0 h1 h; omega
  | succ f ih =>
    intro i h0 h1 h
    simp only [spec_l10Digit.l3, spec_l10Digit.s3]
    rw [ifE_pos (by omega), show (⟨b.c0, b.c1, b.c2⟩ : Siii) = b from rfl, spec_l01Child_f hb (k := i) (by omega), Option.bind_some, if_pos h6, ifE_t, eqB3]
    by_cases he : i = k
    · rw [he, decide_eq_true rfl, ifE_t]
    · rw [decide_eq_false fun h => he (ch_inj hb h), ifE_f, W_id (by omega) (by omega)]
      exact ih (i + 1) (by omega) (by omega) (by omega)
end

theorem letterTo_down {p : Int} (hp : IsP p) (c : Siii) {l : Int} (hl : isL l) (hl1 : isL (l - 1)) : impl_letterTo.f p (upB p c (l - 1)) (upB p c l) = some (48 + dg p c l) := by
  obtain ⟨h1, h2⟩ := dg_ok hp c hl hl1
  obtain ⟨u1, u2, u3, u4⟩ := upB_ok hp c hl
  obtain ⟨v1, v2, v3, v4⟩ := upB_ok hp c hl1
  have h7 := hp.seven
  unfold isL at hl
  unfold impl_letterTo.f
  rw [ifE_neg (by rw [u3, v3]; omega)]
  have := impl_toward_f v1 (by rw [v3]; omega) h1
  rw [h2] at this
  rw [this, Option.bind_some, W_id (n := 48 + (dg p c l + 1)) (by omega) (by omega), W_id (n := 48 + (dg p c l + 1) - 1) (by omega) (by omega), u8_W (by omega) (by omega)]
  congr 1; omega
theorem spec_digit_f {p : Int} (hp : IsP p) (c : Siii) {l : Int} (hl : isL l) (hl1 : isL (l - 1)) : spec_l10Digit.f p (upB p c l) = some (dg p c l) := by
  obtain ⟨h1, h2⟩ := dg_ok hp c hl hl1
  obtain ⟨u1, u2, u3, u4⟩ := upB_ok hp c hl
  obtain ⟨v1, v2, v3, v4⟩ := upB_ok hp c hl1
  have h7 := hp.seven
  unfold isL at hl hl1
  have hpar : upB p (upB p c l) ((upB p c l).c0 - 1) = upB p c (l - 1) := by
    rw [u3]
    unfold upB at u2 ⊢
    rw [u2]
    have : nL l = nL (l - 1) + 1 := by unfold nL; omega
    rw [this, Int.emod_emod_of_dvd _ ⟨p, Int.pow_succ p _⟩]
  unfold spec_l10Digit.f
  rw [spec_l01Parent_f u1, Option.bind_some, if_pos (by rw [u3]; omega), hpar]
  have := digit_l v1 (by rw [v3]; omega) h1 fuelN 0 (by omega) h1.1 (lt_fuel (by omega))
  rw [h2] at this
  exact this

/-- the way's word -/
def wayL (p : Int) (c : Siii) (J : Nat) (N : Nat) : List Int := List.replicate J 117 ++ (List.range N).map fun (t : Nat) => 48 + dg p c (1 - (J : Int) + t)
/-- the way's balls -/
def wayB (p : Int) (c : Siii) (J : Nat) (N : Nat) : List Siii := (List.range (J + 1)).map (fun (i : Nat) => upB p zB (-(i : Int))) ++ (List.range N).map fun (t : Nat) => upB p c (1 - (J : Int) + t)

theorem range_snoc {α : Type} (f : Nat → α) (n : Nat) : (List.range n).map f ++ [f n] = (List.range (n + 1)).map f := by
  rw [List.range_succ, List.map_append]; rfl

section
variable {p : Int} (hp : IsP p) {c : Siii} (hc : isB p c) {J N : Nat} (hJ : J ≤ 6) (hN : (N : Int) = c.c0 + J) (hjoin : p ^ nL (-(J : Int)) ∣ mkB p c)
include hp hc hJ hN

omit hp in
theorem geo_l7 : ∀ (f n : Nat), N - n < f → n ≤ N → impl_geodesic.l7 f p (1 - (J : Int) + n) c.c0 c.c1 c.c2 ((List.range (J + 1)).map (fun (i : Nat) => upB p zB (-(i : Int))) ++ (List.range n).map fun (t : Nat) => upB p c (1 - (J : Int) + t)) = some (wayB p c J N) := by
  have hL := hc.lv
  intro f
  induction f with
  | zero => intro n h; omega
  | succ f ih =>
    intro n h hn
    simp only [impl_geodesic.l7, impl_geodesic.s7]
    by_cases hlt : n < N
    · rw [ifE_pos (by omega), show (⟨c.c0, c.c1, c.c2⟩ : Siii) = c from rfl, impl_above_f hc (by unfold isL; omega), Option.bind_some, guardE_pos (by simp only [List.length_append, List.length_map, List.length_range, List.length_cons, List.length_nil]; omega), W_id (by omega) (by omega), List.append_assoc, range_snoc]
      have := ih (n + 1) (by omega) (by omega)
      rw [show 1 - (J : Int) + ((n + 1 : Nat) : Int) = 1 - (J : Int) + n + 1 from by omega] at this
      exact this
    · rw [ifE_neg (by omega)]
      have : n = N := by omega
      rw [this]; rfl
theorem geo_l3 : ∀ (f n : Nat), J + 1 - n < f → n ≤ J + 1 → impl_geodesic.l3 f p (-(J : Int)) (-(n : Int)) 0 0 0 c.c0 c.c1 c.c2 ((List.range n).map (fun (i : Nat) => upB p zB (-(i : Int)))) = some (wayB p c J N) := by
  have hz := zB_ok hp
  intro f
  induction f with
  | zero => intro n h; omega
  | succ f ih =>
    intro n h hn
    simp only [impl_geodesic.l3, impl_geodesic.s3]
    by_cases hlt : n ≤ J
    · rw [ifE_pos (by omega), show (⟨0, 0, 0⟩ : Siii) = zB from rfl, impl_above_f hz (by unfold isL; omega), Option.bind_some, guardE_pos (by simp only [List.length_map, List.length_range, List.length_cons, List.length_nil]; omega), W_id (by omega) (by omega), range_snoc (fun (i : Nat) => upB p zB (-(i : Int)))]
      have := ih (n + 1) (by omega) (by omega)
      rw [show -((n + 1 : Nat) : Int) = -(n : Int) - 1 from by omega] at this
      exact this
    · have hn' : n = J + 1 := by omega
      rw [ifE_neg (by omega), W_id (by omega) (by omega), hn']
      have := geo_l7 hc hJ hN fuelN 0 (lt_fuel (by have := hc.lv; omega)) (by omega)
      rw [List.range_zero, List.map_nil, List.append_nil] at this
      rw [show -(J : Int) + 1 = 1 - (J : Int) + ((0 : Nat) : Int) from by omega]
      exact this

omit hp hc hJ hN in
theorem wayB_len : (wayB p c J N).length = J + 1 + N := by unfold wayB; simp
omit hp hc hJ hN in
theorem wayL_len : (wayL p c J N).length = J + N := by unfold wayL; simp
include hjoin
omit hp hc in
theorem wayB_get {i : Nat} (h : i < (wayB p c J N).length) : (wayB p c J N)[i] = if i < J then upB p zB (-(i : Int)) else upB p c ((i : Int) - 2 * J) := by
  have hlen := wayB_len (p := p) (c := c) (J := J) (N := N)
  have h' : i < ((List.range (J + 1)).map (fun (i : Nat) => upB p zB (-(i : Int))) ++ (List.range N).map fun (t : Nat) => upB p c (1 - (J : Int) + t)).length := h
  show ((List.range (J + 1)).map (fun (i : Nat) => upB p zB (-(i : Int))) ++ (List.range N).map fun (t : Nat) => upB p c (1 - (J : Int) + t))[i]'h' = _
  by_cases h1 : i < J + 1
  · rw [List.getElem_append_left (by simp; omega)]
    simp only [List.getElem_map, List.getElem_range]
    by_cases h2 : i < J
    · rw [if_pos h2]
    · rw [if_neg h2]
      have e : i = J := by omega
      subst e
      unfold upB
      have e1 : mkB p zB = 0 := by show Pl.mk p 0 0 = 0; unfold Pl.mk; simp
      rw [e1, show (i : Int) - 2 * i = -(i : Int) from by omega, Int.zero_emod, Int.emod_eq_zero_of_dvd hjoin]
  · rw [List.getElem_append_right (by simp; omega), if_neg (by omega)]
    simp only [List.getElem_map, List.getElem_range, List.length_map, List.length_range]
    congr 1; omega
theorem way_letter {i : Nat} (h : i + 1 < (wayB p c J N).length) : impl_letterTo.f p ((wayB p c J N)[i]) ((wayB p c J N)[i + 1]) = some ((wayL p c J N)[i]'(by rw [wayL_len (p := p) (c := c) (J := J) (N := N)]; rw [wayB_len (p := p) (c := c) (J := J) (N := N)] at h; omega)) := by
  have hlen := wayB_len (p := p) (c := c) (J := J) (N := N)
  have hL := hc.lv
  rw [wayB_get hJ hN hjoin, wayB_get hJ hN hjoin]
  have h' : i < (List.replicate J 117 ++ (List.range N).map fun (t : Nat) => 48 + dg p c (1 - (J : Int) + t)).length := by have := wayL_len (p := p) (c := c) (J := J) (N := N); unfold wayL at this; omega
  show _ = some ((List.replicate J 117 ++ (List.range N).map fun (t : Nat) => 48 + dg p c (1 - (J : Int) + t))[i]'h')
  by_cases h1 : i < J
  · rw [if_pos h1, List.getElem_append_left (by simp; omega), List.getElem_replicate]
    have hup : ∀ (x : Siii), (upB p x (-(((i + 1 : Nat)) : Int))).c0 = -(((i + 1 : Nat)) : Int) := fun x => rfl
    unfold impl_letterTo.f
    by_cases h2 : i + 1 < J
    · rw [if_pos h2, ifE_pos]
      show -(((i + 1 : Nat)) : Int) < -(i : Int); omega
    · rw [if_neg h2, ifE_pos]
      show (((i + 1 : Nat)) : Int) - 2 * J < -(i : Int); omega
  · rw [if_neg h1, if_neg (by omega), List.getElem_append_right (by simp; omega)]
    simp only [List.getElem_map, List.getElem_range, List.length_replicate]
    have := letterTo_down hp c (l := ((i + 1 : Nat) : Int) - 2 * J) (by unfold isL; omega) (by unfold isL; omega)
    rw [show ((i + 1 : Nat) : Int) - 2 * J - 1 = (i : Int) - 2 * J from by omega] at this
    rw [this]
    congr 3; omega

theorem way_l : ∀ (f i : Nat), (wayB p c J N).length - i < f → 1 ≤ i → i ≤ (wayB p c J N).length → impl_wayWord.l3 f p (wayB p c J N) (i : Int) ((wayL p c J N).take (i - 1)) = toStr (wayL p c J N) := by
  have hlen := wayB_len (p := p) (c := c) (J := J) (N := N)
  have hlen2 := wayL_len (p := p) (c := c) (J := J) (N := N)
  have hL := hc.lv
  intro f
  induction f with
  | zero => intro i h; omega
  | succ f ih =>
    intro i h h1 hi
    simp only [impl_wayWord.l3, impl_wayWord.s3]
    by_cases hlt : i < (wayB p c J N).length
    · obtain ⟨j, rfl⟩ : ∃ j, i = j + 1 := ⟨i - 1, by omega⟩
      have e : W (((j + 1 : Nat) : Int) + 1) = ((j + 1 + 1 : Nat) : Int) := by rw [W_id (by omega) (by omega)]; omega
      rw [ifE_pos (by omega), W_id (n := ((j + 1 : Nat) : Int) - 1) (by omega) (by omega), show ((j + 1 : Nat) : Int) - 1 = (j : Int) from by omega, getE_nat (by omega), Option.bind_some, getE_nat hlt, Option.bind_some, way_letter hp hc hJ hN hjoin hlt, Option.bind_some, guardE_pos (by simp only [List.length_take, List.length_cons, List.length_nil]; omega), e, show j + 1 - 1 = j from rfl]
      have := ih (j + 1 + 1) (by omega) (by omega) (by omega)
      rw [show j + 1 + 1 - 1 = j + 1 from rfl, List.take_add_one, List.getElem?_eq_getElem (by omega)] at this
      exact this
    · rw [ifE_neg (by omega), List.take_of_length_le (by omega)]
      cases toStr (wayL p c J N) <;> rfl
end
end Go.Gn
end
section
set_option linter.unusedVariables false
set_option linter.unusedSimpArgs false
/-! plain: the steps of a matrix; normal words -/
namespace Go.Gn
open Go Go.Eng Pl Pl.M2

section
variable {p : Int} (hp : IsP p) {c : Siii} (hc : isB p c)
include hp hc

theorem join_facts : ∃ J N : Nat, J ≤ 6 ∧ (N : Int) = c.c0 + J ∧ p ^ nL (-(J : Int)) ∣ mkB p c ∧ joinZ p zB c = -(J : Int) ∧ ((J + N : Nat) : Int) = distZ p zB c := by
  have hz := zB_ok hp
  obtain ⟨r1, r2, r3⟩ := joinZ_range hz hc
  have r2 : joinZ p zB c ≤ 0 := r2
  have hL := hc.lv
  have hJ : ((-joinZ p zB c).toNat : Int) = -joinZ p zB c := by omega
  refine ⟨(-joinZ p zB c).toNat, (c.c0 - joinZ p zB c).toNat, by omega, by omega, ?_, by omega, ?_⟩
  · rw [hJ, Int.neg_neg]
    have e1 : mkB p zB = 0 := by show Pl.mk p 0 0 = 0; unfold Pl.mk; simp
    by_cases hm : mkB p c = 0
    · rw [hm]; exact Int.dvd_zero _
    · refine (dvd_iff_le_vl hp.two hm _).2 ?_
      have hj : joinZ p zB c ≤ (vl p (mkB p c) : Int) - 6 := by
        unfold joinZ
        rw [if_neg (by rw [e1]; omega), e1, Int.zero_sub, vl_neg hp.two]; omega
      unfold nL; omega
  · unfold distZ
    have : zB.c0 = 0 := rfl
    omega

theorem wayL_range {J N : Nat} (hJ : J ≤ 6) (hN : (N : Int) = c.c0 + J) : ∀ x ∈ wayL p c J N, 0 ≤ x ∧ x < 256 := by
  have hL := hc.lv
  have h7 := hp.seven
  intro x hx
  unfold wayL at hx
  rcases List.mem_append.1 hx with h | h
  · rw [List.eq_of_mem_replicate h]; decide
  · obtain ⟨t, ht, rfl⟩ := List.mem_map.1 h
    have ht := List.mem_range.1 ht
    obtain ⟨h1, -⟩ := dg_ok hp c (l := 1 - (J : Int) + t) (by unfold isL; omega) (by unfold isL; omega)
    omega
omit hp hc in
theorem toStr_some {l : List Int} (h : ∀ x ∈ l, 0 ≤ x ∧ x < 256) : ∃ z, toStr l = some z ∧ wd z = l := by
  refine ⟨⟨(l.map fun x => UInt8.ofNat x.toNat).toArray⟩, ?_, ?_⟩
  · unfold toStr; rw [if_pos]; rw [List.all_eq_true]; intro x hx; exact decide_eq_true (h x hx)
  · unfold wd
    show (l.map fun x => UInt8.ofNat x.toNat).toArray.toList.map _ = l
    rw [List.map_map]
    conv => rhs; rw [← List.map_id l]
    refine List.map_congr_left fun x hx => ?_
    have := h x hx
    show ((UInt8.ofNat x.toNat).toNat : Int) = x
    rw [UInt8.toNat_ofNat_of_lt' (by show x.toNat < 256; omega)]; omega

theorem impl_wayWord_f : ∃ z, impl_wayWord.f p zB c = some z ∧ spec_l10Way.f p zB c = some (z, true) ∧ (z.size : Int) = distZ p zB c := by
  have hz := zB_ok hp
  obtain ⟨J, N, hJ, hN, hjoin, hj, hd⟩ := join_facts hp hc
  have hL := hc.lv
  obtain ⟨z, hz1, hz2⟩ := toStr_some (wayL_range hp hc hJ hN)
  refine ⟨z, ?_, ?_, ?_⟩
  · unfold impl_wayWord.f impl_geodesic.f
    have hg := geo_l3 hp hc hJ hN fuelN 0 (lt_fuel (by omega)) (by omega)
    rw [List.range_zero, List.map_nil] at hg
    have hg : impl_geodesic.l3 fuelN p (-(J : Int)) 0 0 0 0 c.c0 c.c1 c.c2 [] = some (wayB p c J N) := hg
    have hw := way_l hp hc hJ hN hjoin fuelN 1 (lt_fuel (by rw [wayB_len]; omega)) (by omega) (by rw [wayB_len]; omega)
    rw [impl_joinLevel_f hz hc, Option.bind_some, hj, show zB.c0 = 0 from rfl, show zB.c1 = 0 from rfl, show zB.c2 = 0 from rfl, hg, Option.bind_some]
    exact hw.trans hz1
  · unfold spec_l10Way.f
    rw [spec_l02Join_f hz hc, Option.bind_some, hj]
    have l7 : ∀ (f n : Nat), N - n < f → n ≤ N → spec_l10Way.l7 f p (1 - (J : Int) + n) c.c0 c.c1 c.c2 (List.replicate J 117 ++ (List.range n).map fun (t : Nat) => 48 + dg p c (1 - (J : Int) + t)) = some (z, true) := by
      intro f
      induction f with
      | zero => intro n h; omega
      | succ f ih =>
        intro n h hn
        simp only [spec_l10Way.l7, spec_l10Way.s7]
        by_cases hlt : n < N
        · have h7 := hp.seven
          have il : isL (1 - (J : Int) + n) := by unfold isL; omega
          have il1 : isL (1 - (J : Int) + n - 1) := by unfold isL; omega
          obtain ⟨dr, -⟩ := dg_ok hp c il il1
          rw [ifE_pos (by omega), show (⟨c.c0, c.c1, c.c2⟩ : Siii) = c from rfl, spec_l02Up_f hc il, Option.bind_some, Bool.not_true, ifE_f, spec_digit_f hp c il il1, Option.bind_some, W_id (n := 48 + dg p c (1 - (J : Int) + n)) (by omega) (by omega), u8_W (by omega) (by omega), guardE_pos (by simp only [List.length_append, List.length_map, List.length_range, List.length_replicate, List.length_cons, List.length_nil]; omega), W_id (by omega) (by omega), List.append_assoc, range_snoc (fun (t : Nat) => 48 + dg p c (1 - (J : Int) + t))]
          have := ih (n + 1) (by omega) (by omega)
          rw [show 1 - (J : Int) + ((n + 1 : Nat) : Int) = 1 - (J : Int) + n + 1 from by omega] at this
          exact this
        · rw [ifE_neg (by omega)]
          have : n = N := by omega
          rw [this]
          have : toStr (List.replicate J 117 ++ (List.range N).map fun (t : Nat) => 48 + dg p c (1 - (J : Int) + t)) = some z := hz1
          rw [this]; rfl
    have l3 : ∀ (f n : Nat), J - n < f → n ≤ J → spec_l10Way.l3 f p (-(J : Int)) (-(n : Int)) c.c0 c.c1 c.c2 (List.replicate n 117) = some (z, true) := by
      intro f
      induction f with
      | zero => intro n h; omega
      | succ f ih =>
        intro n h hn
        simp only [spec_l10Way.l3, spec_l10Way.s3]
        by_cases hlt : n < J
        · rw [ifE_pos (by omega), guardE_pos (by simp only [List.length_replicate, List.length_cons, List.length_nil]; omega), W_id (by omega) (by omega)]
          have := ih (n + 1) (by omega) (by omega)
          rw [show -((n + 1 : Nat) : Int) = -(n : Int) - 1 from by omega, List.replicate_succ'] at this
          exact this
        · have hn' : n = J := by omega
          rw [ifE_neg (by omega), W_id (by omega) (by omega), hn']
          have := l7 fuelN 0 (lt_fuel (by omega)) (by omega)
          rw [List.range_zero, List.map_nil, List.append_nil] at this
          rw [show -(J : Int) + 1 = 1 - (J : Int) + ((0 : Nat) : Int) from by omega]
          exact this
    exact l3 fuelN 0 (lt_fuel (by omega)) (by omega)
  · rw [← wd_len, hz2, wayL_len]; exact hd
end

theorem StepsOfMatrix_f (p : Int) (g : Siiii) : ∃ z code, impl_StepsOfMatrix.f p g = some (z, code) ∧ spec_StepsOfMatrix.f p g = some (z, code) ∧ (code = 0 → (z.size : Int) = posE p g) := by
  unfold impl_StepsOfMatrix.f spec_StepsOfMatrix.f
  rw [impl_partCode_f, spec_l04Code_f]
  rcases partE_0 (p := p) (g := g) with ⟨he, hp, hg⟩ | ⟨he, -⟩
  · obtain ⟨c, ok, e1, h1, e2, e3⟩ := impl_triangular_f hp hg
    have e4 := move_same (zB_ok hp) hg
    rw [he, Option.bind_some, Option.bind_some, bne_eq rfl, ifE_f, ifE_f, e2, Option.bind_some, show (⟨0, 0, 0⟩ : Siii) = zB from rfl, e4, e1, Option.bind_some, e3, Option.bind_some, Option.bind_some]
    cases ok
    · exact ⟨_, _, rfl, rfl, fun h => absurd h (by decide)⟩
    · rw [Bool.not_true, ifE_f]
      cases ht : (triE p c true).2
      · exact ⟨_, _, rfl, rfl, fun h => absurd h (by decide)⟩
      · rcases h1 with ⟨-, hc, hs⟩ | ⟨h1, -⟩
        · obtain ⟨z, z1, z2, z3⟩ := impl_wayWord_f hp hc
          rw [Bool.not_true, ifE_f, ifE_f, z1, Option.bind_some, z2, Option.bind_some]
          exact ⟨z, 0, rfl, rfl, fun _ => by rw [z3]; exact pos_dist hp hg hc hs⟩
        · exact absurd h1 (by decide)
  · rw [he]
    exact ⟨_, 1, rfl, rfl, fun h => absurd h (by decide)⟩

end Go.Gn
end
section
set_option linter.unusedVariables false
set_option linter.unusedSimpArgs false
/-! plain: normal words; following steps -/
namespace Go.Gn
open Go Go.Eng Pl Pl.M2

/-- normal: first up, then down -/
def Norm (p : Int) (l : List Int) : Prop := ∃ (a : Nat) (ds : List Int), l = List.replicate a 117 ++ ds ∧ ∀ d ∈ ds, d ≠ 117 ∧ okC p d

section
variable {p : Int} (hp : IsP p) {w : ByteArray} (hw : isW p (wd w))
include hp hw
theorem norm_l : ∀ (k i : Nat) (acc : List Int), (wd w).length - i < k → i ≤ (wd w).length → acc.length ≤ i → Norm p acc → ∃ z, spec_NormalSteps.l6 k w (i : Int) acc = some (z, 0) ∧ Norm p (wd z) := by
  have h40 := hw.1
  have hl := wd_len w
  intro k
  induction k with
  | zero => intro i acc h; omega
  | succ k ih =>
    intro i acc h hi hal hN
    simp only [spec_NormalSteps.l6, spec_NormalSteps.s6]
    by_cases hlt : i < (wd w).length
    · obtain ⟨b, hb, hc⟩ := getB_wd hlt
      have hok := hw.2 _ (List.getElem_mem hlt)
      have e : W ((i : Int) + 1) = ((i + 1 : Nat) : Int) := by rw [W_id (by omega) (by omega)]; omega
      rw [ifE_pos (by omega), hb]
      simp only [Option.bind_some, hc, e]
      generalize (wd w)[i] = x at *
      obtain ⟨a, ds, rfl, hds⟩ := hN
      have push : Norm p (List.replicate a 117 ++ ds ++ [x]) → ∃ z, guardE (((List.replicate a (117 : Int) ++ ds).length + [x].length) * 1 ≤ 140737488355328) (spec_NormalSteps.l6 k w ((i + 1 : Nat) : Int) (List.replicate a 117 ++ ds ++ [x])) = some (z, 0) ∧ Norm p (wd z) := by
        intro hN
        rw [guardE_pos (by simp only [List.length_cons, List.length_nil]; omega)]
        exact ih (i + 1) _ (by omega) (by omega) (by simp only [List.length_append, List.length_cons, List.length_nil] at hal ⊢; omega) hN
      by_cases h117 : x = 117
      · rw [show (x == 117) = true from by simpa using h117, ifE_t]
        by_cases hpos : ((List.replicate a (117 : Int) ++ ds).length : Int) > 0
        · rw [ifE_pos hpos, W_id (by omega) (by omega), show ((List.replicate a (117 : Int) ++ ds).length : Int) - 1 = (((List.replicate a (117 : Int) ++ ds).length - 1 : Nat) : Int) from by omega, getE_nat (by omega), Option.bind_some]
          by_cases hnil : ds = []
          · subst hnil
            have hlast : (List.replicate a (117 : Int) ++ [])[(List.replicate a (117 : Int) ++ []).length - 1]'(by omega) = 117 := by simp
            rw [bne_eq hlast, ifE_f]
            exact push ⟨a + 1, [], by rw [h117, List.append_nil, List.append_nil, List.replicate_succ'], by simp⟩
          · have hdl : 0 < ds.length := List.length_pos_iff.2 hnil
            have hlast : (List.replicate a (117 : Int) ++ ds)[(List.replicate a (117 : Int) ++ ds).length - 1]'(by omega) ∈ ds := by
              rw [List.getElem_append_right (by simp; omega)]
              exact List.getElem_mem _
            rw [bne_ne (hds _ hlast).1, ifE_t]
            have hg : getS (List.replicate a (117 : Int) ++ ds) 0 (((List.replicate a (117 : Int) ++ ds).length - 1 : Nat) : Int) = some ((List.replicate a (117 : Int) ++ ds).take ((List.replicate a (117 : Int) ++ ds).length - 1)) := by
              unfold getS; rw [if_pos ⟨by omega, by omega, by omega⟩, Int.toNat_natCast]; rfl
            rw [hg, Option.bind_some]
            refine ih (i + 1) _ (by omega) (by omega) (by rw [List.length_take]; omega) ⟨a, ds.take (ds.length - 1), ?_, fun d hd => hds d (List.mem_of_mem_take hd)⟩
            rw [List.take_append, List.take_of_length_le (by simp; omega)]
            congr 2; simp; omega
        · have hz : (List.replicate a (117 : Int) ++ ds) = [] := List.length_eq_zero_iff.1 (by omega)
          rw [ifE_neg hpos]
          refine push ?_
          rw [hz, h117]
          exact ⟨1, [], rfl, by simp⟩
      · rw [beq_ne h117, ifE_f]
        refine push ⟨a, ds ++ [x], by rw [List.append_assoc], fun d hd => ?_⟩
        rcases List.mem_append.1 hd with h | h
        · exact hds d h
        · rw [List.mem_singleton.1 h]; exact ⟨h117, hok⟩
    · rw [ifE_neg (by omega)]
      have hr : ∀ x ∈ acc, 0 ≤ x ∧ x < 256 := by
        obtain ⟨a, ds, rfl, hds⟩ := hN
        have h7 := hp.seven
        intro x hx
        rcases List.mem_append.1 hx with h | h
        · rw [List.eq_of_mem_replicate h]; decide
        · have := (hds x h).2; unfold okC at this; omega
      obtain ⟨z, z1, z2⟩ := toStr_some hr
      rw [z1, Option.bind_some]
      exact ⟨z, rfl, by rw [z2]; exact hN⟩
end

theorem NormalSteps_f {p : Int} {w : ByteArray} (hw : w.size ≤ 100000) : ∃ z code, spec_NormalSteps.f p w = some (z, code) ∧ (codeW p (wd w) = 0 → z.toList = w.toList → Norm p (wd w)) := by
  unfold spec_NormalSteps.f
  rw [spec_l10Code_f hw, Option.bind_some]
  by_cases h : codeW p (wd w) = 0
  · obtain ⟨hp, hW⟩ := codeW_0 h
    rw [bne_eq h, ifE_f]
    obtain ⟨z, z1, z2⟩ := norm_l hp hW fuelN 0 [] (lt_fuel (by rw [wd_len]; omega)) (by omega) (by simp) ⟨0, [], rfl, by simp⟩
    refine ⟨z, 0, z1, fun _ he => ?_⟩
    rw [ByteArray.toList_eq, ByteArray.toList_eq] at he
    have : wd z = wd w := by unfold wd; rw [he]
    rwa [← this]
  · rw [bne_ne h, ifE_t]
    exact ⟨_, _, rfl, fun h' => absurd h' h⟩

/-! following -/
def folR (p : Int) : List Int → Siii → Option Siii
  | [], b => some b
  | c :: r, b => if c = 117 then (if -6 ≤ b.c0 - 1 then folR p r (paB p b) else none) else (if b.c0 + 1 ≤ 6 then folR p r (chB p b (c - 48)) else none)

theorem follow_l {p : Int} (hp : IsP p) {w : ByteArray} (hw : isW p (wd w)) : ∀ (k i : Nat) (b : Siii) (acc : List Siii), (wd w).length - i < k → i ≤ (wd w).length → acc.length ≤ i + 1 → isB p b → acc.getLast? = some b →
    ∃ l ok, impl_follow.l3 k p w ((wd w).length : Int) (i : Int) b.c0 b.c1 b.c2 acc = some (l, ok) ∧ (ok = true → ∃ b', folR p ((wd w).drop i) b = some b' ∧ l.getLast? = some b' ∧ l.length ≤ 100) := by
  have h40 := hw.1
  intro k
  induction k with
  | zero => intro i b acc h; omega
  | succ k ih =>
    intro i b acc h hi hal hb hlast
    simp only [impl_follow.l3, impl_follow.s3]
    by_cases hlt : i < (wd w).length
    · obtain ⟨c, hc1, hc2⟩ := getB_wd hlt
      have hok := hw.2 _ (List.getElem_mem hlt)
      have h7 := hp.seven
      have e : W ((i : Int) + 1) = ((i + 1 : Nat) : Int) := by rw [W_id (by omega) (by omega)]; omega
      rw [ifE_pos (by omega), hc1, Option.bind_some, hc2, Option.bind_some, List.drop_eq_getElem_cons hlt]
      generalize (wd w)[i] = x at *
      have step : ∀ b1 : Siii, isB p b1 → ∃ l ok, guardE ((acc.length + [b1].length) * 24 ≤ 140737488355328) (impl_follow.l3 k p w ((wd w).length : Int) (W ((i : Int) + 1)) b1.c0 b1.c1 b1.c2 (acc ++ [b1])) = some (l, ok) ∧ (ok = true → ∃ b', folR p ((wd w).drop (i + 1)) b1 = some b' ∧ l.getLast? = some b' ∧ l.length ≤ 100) := by
        intro b1 hb1
        rw [guardE_pos (by simp only [List.length_cons, List.length_nil]; omega), e]
        exact ih (i + 1) b1 _ (by omega) (by omega) (by simp only [List.length_append, List.length_cons, List.length_nil]; omega) hb1 (by simp)
      unfold impl_follow.j8
      by_cases h117 : x = 117
      · rw [bne_eq h117, ifE_f, show (⟨b.c0, b.c1, b.c2⟩ : Siii) = b from rfl, impl_neighbour_0 hb, Option.bind_some]
        simp only [folR]
        rw [if_pos h117]
        by_cases h6 : -6 ≤ b.c0 - 1
        · rw [if_pos h6, if_pos h6]
          exact step (paB p b) (paB_ok hb h6).1
        · rw [if_neg h6]; exact ⟨_, _, rfl, fun h => absurd h (by decide)⟩
      · have hr : 0 ≤ x - 48 ∧ x - 48 < p := by unfold okC at hok; omega
        rw [bne_ne h117, ifE_t, hc2, u8_W (by omega) (by omega), W_id (n := x - 48) (by omega) (by omega), W_id (n := x - 48 + 1) (by omega) (by omega), show (⟨b.c0, b.c1, b.c2⟩ : Siii) = b from rfl, impl_neighbour_k hb hr, Option.bind_some]
        simp only [folR]
        rw [if_neg h117]
        by_cases h6 : b.c0 + 1 ≤ 6
        · rw [if_pos h6, if_pos h6]
          exact step (chB p b (x - 48)) (chB_ok hb hr h6).1
        · rw [if_neg h6]; exact ⟨_, _, rfl, fun h => absurd h (by decide)⟩
    · rw [ifE_neg (by omega), List.drop_eq_nil_of_le (by omega)]
      exact ⟨acc, true, rfl, fun _ => ⟨b, rfl, hlast, by omega⟩⟩

theorem FollowSteps_f {p : Int} {w : ByteArray} (hw : w.size ≤ 100000) : ∃ b code, impl_FollowSteps.f p zB w = some (b, code) ∧ (code = 0 → codeW p (wd w) = 0 ∧ folR p (wd w) zB = some b) := by
  unfold impl_FollowSteps.f
  rw [impl_stepsCode_f hw, Option.bind_some]
  by_cases h : codeW p (wd w) = 0
  · obtain ⟨hp, hW⟩ := codeW_0 h
    rw [bne_eq h, ifE_f]
    unfold impl_follow.f
    obtain ⟨l, ok, e1, e2⟩ := follow_l hp hW fuelN 0 zB [zB] (lt_fuel (by rw [wd_len]; omega)) (by omega) (by simp) (zB_ok hp) rfl
    rw [wd_len] at e1
    have e1 : impl_follow.l3 fuelN p w (w.size : Int) 0 zB.c0 zB.c1 zB.c2 [zB] = some (l, ok) := e1
    rw [e1, Option.bind_some]
    cases ok
    · exact ⟨_, _, rfl, fun h => absurd h (by decide)⟩
    · obtain ⟨b', f1, f2, f3⟩ := e2 rfl
      have hne : l ≠ [] := by intro h; rw [h] at f2; simp at f2
      have hpos : 0 < l.length := List.length_pos_iff.2 hne
      have hg : getE l ((l.length : Int) - 1) = some b' := by
        rw [show (l.length : Int) - 1 = ((l.length - 1 : Nat) : Int) from by omega, getE_nat (by omega)]
        rw [List.getLast?_eq_getElem?, List.getElem?_eq_getElem (by omega)] at f2
        exact f2
      rw [Bool.not_true, ifE_f]
      simp only
      rw [W_id (by omega) (by omega), hg]
      exact ⟨b', 0, rfl, fun _ => ⟨h, by rw [← List.drop_zero (l := wd w)]; exact f1⟩⟩
  · rw [bne_ne h, ifE_t]
    exact ⟨_, _, rfl, fun h' => absurd h' h⟩

/-! what a normal word does -/
def pr (p : Int) : List Int → M2 → M2
  | [], A => A
  | c :: r, A => pr p r (A.mul (Lm p c))
theorem mos_red {p : Int} (hp : IsP p) : ∀ (l : List Int) (X : M2), (∀ c ∈ l, okC p c) → X.det ≠ 0 → fitM 1000 (red X) → (mosR p l (red X)).2 = 0 → toM (mosR p l (red X)).1 = red (pr p l X) ∧ (pr p l X).det ≠ 0 ∧ fitM 1000 (red (pr p l X)) := by
  intro l
  induction l with
  | nil => intro X _ hX hf _; exact ⟨rfl, hX, hf⟩
  | cons c r ih =>
    intro X hl hX hf h
    have hm := Lm_ok hp (hl c List.mem_cons_self)
    unfold mosR at h ⊢
    rw [red_mul_left hX hm.2] at h ⊢
    by_cases hfit : fitM 1000 (red (X.mul (Lm p c)))
    · rw [if_pos hfit] at h ⊢
      exact ih _ (fun x hx => hl x (List.mem_cons_of_mem _ hx)) (det_ne_mul hX hm.2) hfit h
    · rw [if_neg hfit] at h; simp at h

theorem fol_d {p : Int} (hp : IsP p) : ∀ (ds : List Int) (b : Siii) (A : M2) (i : Nat), (∀ d ∈ ds, d ≠ 117 ∧ okC p d) → isB p b → smul (p ^ i) (bMat p b) = smul (p ^ 6) A → ∀ b', folR p ds b = some b' → isB p b' ∧ ∃ i' : Nat, smul (p ^ i') (bMat p b') = smul (p ^ 6) (pr p ds A) := by
  intro ds
  induction ds with
  | nil => intro b A i _ hb h b' e; obtain rfl := Option.some.inj e; exact ⟨hb, i, h⟩
  | cons d ds ih =>
    intro b A i hds hb h b' e
    obtain ⟨h117, hok⟩ := hds d List.mem_cons_self
    have hr : 0 ≤ d - 48 ∧ d - 48 < p := by unfold okC at hok; omega
    simp only [folR] at e
    rw [if_neg h117] at e
    by_cases h6 : b.c0 + 1 ≤ 6
    · rw [if_pos h6] at e
      obtain ⟨c1, c2⟩ := chB_ok hb hr h6
      refine ih _ (A.mul (Lm p d)) i (fun x hx => hds x (List.mem_cons_of_mem _ hx)) c1 ?_ b' e
      have el : Lm p d = ⟨p, d - 48, 0, 1⟩ := by unfold Lm; rw [if_neg h117]
      rw [c2, el, ← smul_mul, h, smul_mul]
    · rw [if_neg h6] at e; exact absurd e (by simp)
theorem fol_u {p : Int} (hp : IsP p) (ds : List Int) (hds : ∀ d ∈ ds, d ≠ 117 ∧ okC p d) : ∀ (a : Nat) (b : Siii) (A : M2) (i : Nat), isB p b → mkB p b = 0 → smul (p ^ i) (bMat p b) = smul (p ^ 6) A → ∀ b', folR p (List.replicate a 117 ++ ds) b = some b' → isB p b' ∧ ∃ i' : Nat, smul (p ^ i') (bMat p b') = smul (p ^ 6) (pr p (List.replicate a 117 ++ ds) A) := by
  intro a
  induction a with
  | zero => intro b A i hb _ h b' e; exact fol_d hp ds b A i hds hb h b' e
  | succ a ih =>
    intro b A i hb hm h b' e
    rw [List.replicate_succ, List.cons_append] at e ⊢
    simp only [folR, if_true] at e
    by_cases h6 : -6 ≤ b.c0 - 1
    · rw [if_pos h6] at e
      obtain ⟨q1, q2, q3⟩ := paB_ok hb h6
      have hm2 : mkB p (paB p b) = 0 := by rw [q2, hm]; simp
      have hL := hb.lv
      refine ih (paB p b) (A.mul (Lm p 117)) (i + 1) q1 hm2 ?_ b' e
      have el : Lm p 117 = ⟨1, 0, 0, p⟩ := by unfold Lm; rw [if_pos rfl]
      have eb : bMat p b = ⟨p ^ lvB b, mkB p b, 0, p ^ 6⟩ := rfl
      have ep : bMat p (paB p b) = ⟨p ^ lvB (paB p b), mkB p (paB p b), 0, p ^ 6⟩ := rfl
      have elv : lvB b = lvB (paB p b) + 1 := by rw [q3]; unfold lvB nL; omega
      rw [el, ← smul_mul, ← h, smul_mul, eb, ep, hm, hm2, elv, Int.pow_succ, Int.pow_succ]
      unfold mul smul; ext <;> simp only <;> grind
    · rw [if_neg h6] at e; exact absurd e (by simp)

/-- matrices of normal words make of the origin's ball where they lead -/
theorem word_move {p : Int} (hp : IsP p) {l : List Int} (hW : isW p l) (hN : Norm p l) (h0 : (mosR p l M2.one).2 = 0) {b : Siii} (hb : folR p l zB = some b) :
    isM (toM (mosR p l M2.one).1) ∧ impl_MoveBall.f p (mosR p l M2.one).1 zB = some (b, 0) := by
  have e1 : red M2.one = M2.one := red_one
  have hz := zB_ok hp
  obtain ⟨m1, m2, m3⟩ := mos_red hp l M2.one hW.2 (by decide) (by rw [e1]; exact isM_one) (by rw [e1]; exact h0)
  rw [e1] at m1
  have hM : isM (toM (mosR p l M2.one).1) := by rw [m1]; exact ⟨m3, det_red_ne m2⟩
  refine ⟨hM, ?_⟩
  obtain ⟨a, ds, rfl, hds⟩ := hN
  have e2 : mkB p zB = 0 := by show Pl.mk p 0 0 = 0; unfold Pl.mk; simp
  obtain ⟨hb1, i, hi⟩ := fol_u hp ds hds a zB M2.one 0 hz e2 (by rw [bMat_zB, Int.pow_zero, smul_one]) b hb
  generalize List.replicate a (117 : Int) ++ ds = l at *
  have hk := kof_ne m2
  have h6 := pow_ne hp.two 6
  have eM : (toM (mosR p l M2.one).1).mul (bMat p zB) = smul (p ^ 6) (red (pr p l M2.one)) := by rw [m1, bMat_zB, mul_smul, M2.mul_one]
  have hG := det_ne_mul hM.2 (bMat_ne hz)
  have hs : Same p (bMat p b) ((toM (mosR p l M2.one).1).mul (bMat p zB)) := by
    refine same_prop hp (bMat_ne hb1) hG (pow_ne hp.two i) hk ?_
    rw [hi, eM, smul_smul, Int.mul_comm, ← smul_smul, red_smul_kof]
  rcases impl_MoveBall_f p (mosR p l M2.one).1 zB with ⟨h, -⟩ | ⟨-, -, c, ok, hmv, -, e⟩
  · exact absurd ⟨hz, hM⟩ h
  · rw [e]
    rcases hmv with ⟨rfl, hc, hs2⟩ | ⟨-, -, hn⟩
    · have := ball_same hb1 hc (hs.trans hp (bMat_ne hb1) hG (bMat_ne hc) hs2.symm)
      rw [this]; rfl
    · exact absurd hs (hn b hb1)

end Go.Gn
end
section
set_option linter.unusedVariables false
set_option linter.unusedSimpArgs false
/-! plain: the law FnParts -/
namespace Go.Gn
open Go Go.Eng Pl Pl.M2

/-! draws of words -/
abbrev GW := fun r : ByteArray × Src => r.1.size ≤ 100 ∧ SrcOk r.2

theorem toStr_size {l : List Int} (h : ∀ x ∈ l, 0 ≤ x ∧ x < 256) : Ex (fun z : ByteArray => z.size = l.length) (toStr l) := by
  obtain ⟨z, h1, h2⟩ := toStr_some h
  exact ⟨z, h1, by show z.size = l.length; rw [← wd_len, h2]⟩

theorem word_l12 : ∀ (k : Nat) (s : Src) (l : List Int), 50 - l.length < k → l.length ≤ 43 → (∀ x ∈ l, 0 ≤ x ∧ x < 256) → SrcOk s → Ex GW (spec_l10Word.l12 k s.c0 s.c1 s.c2 l) := by
  intro k
  induction k with
  | zero => intro s l h; omega
  | succ k ih =>
    intro s l hk hl hr hs
    simp only [spec_l10Word.l12, spec_l10Word.s12]
    refine Ex.ite (fun h => Ex.guard (by simp only [List.length_cons, List.length_nil]; omega) ?_) fun h => Ex.bind (toStr_size hr) fun z hz => Ex.ret ⟨by show z.size ≤ 100; omega, hs⟩
    have h : (l.length : Int) ≤ 40 := by simpa using h
    refine ih s _ (by simp only [List.length_append, List.length_cons, List.length_nil]; omega) (by simp only [List.length_append, List.length_cons, List.length_nil]; omega) (fun x hx => ?_) hs
    rcases List.mem_append.1 hx with h1 | h1
    · exact hr x h1
    · simp only [List.mem_cons, List.not_mem_nil, or_false] at h1; omega

theorem word_l3 (v : Int) : ∀ (k : Nat) (i : Int) (s : Src) (l : List Int), i ≤ 20 → i.toNat < k → (l.length : Int) + max i 0 ≤ 20 → (∀ x ∈ l, 0 ≤ x ∧ x < 256) → SrcOk s → Ex GW (spec_l10Word.l3 k v i s.c0 s.c1 s.c2 l) := by
  intro k
  induction k with
  | zero => intro i s l h0 hk; omega
  | succ k ih =>
    intro i s l h0 hk hl hr hs
    simp only [spec_l10Word.l3, spec_l10Word.s3]
    have hs' : SrcOk (⟨s.c0, s.c1, s.c2⟩ : Src) := hs
    refine Ex.ite (fun h => ?_) fun h => ?_
    · have h : i > 0 := by simpa using h
      have go : ∀ (x : Int) (s : Src), 0 ≤ x → x < 256 → SrcOk s → Ex GW (guardE ((l.length + [x].length) * 1 ≤ 140737488355328) (spec_l10Word.l3 k v (W (i - 1)) s.c0 s.c1 s.c2 (l ++ [x]))) := by
        intro x s hx0 hx1 hs
        refine Ex.guard (by simp only [List.length_cons, List.length_nil]; omega) ?_
        rw [W_id (n := i - 1) (by omega) (by omega)]
        refine ih _ s _ (by omega) (by omega) (by simp only [List.length_append, List.length_cons, List.length_nil]; omega) (fun y hy => ?_) hs
        rcases List.mem_append.1 hy with h1 | h1
        · exact hr y h1
        · rw [List.mem_singleton.1 h1]; omega
      refine Ex.bind (ex_next hs' (by omega)) fun r4 h4 => Ex.ite (fun _ => go 117 r4.2 (by omega) (by omega) h4.2) fun _ => ?_
      have hi : 1 ≤ imin (imax v 1) 9 ∧ imin (imax v 1) 9 ≤ 9 := by unfold imin imax; split <;> split <;> omega
      refine Ex.bind (ex_next h4.2 (by omega)) fun r5 h5 => ?_
      have m5 := h5.1
      rw [W_id (n := 48 + r5.1) (by omega) (by omega), u8_W (by omega) (by omega)]
      exact go _ r5.2 (by omega) (by omega) h5.2
    · refine Ex.bind (ex_next hs' (by omega)) fun r6 h6 => ?_
      refine Ex.ite (fun _ => Ex.bind (toStr_size hr) fun z hz => Ex.guard ?_ (Ex.ret ⟨?_, h6.2⟩)) fun _ => Ex.ite (fun _ => ?_) fun _ => Ex.bind (toStr_size hr) fun z hz => Ex.ret ⟨by show z.size ≤ 100; omega, h6.2⟩
      · have : (bs [57]).size = 1 := rfl
        omega
      · show (z ++ bs [57]).size ≤ 100
        rw [ByteArray.size_append]
        have : (bs [57]).size = 1 := rfl
        omega
      · exact word_l12 fuelN r6.2 l (lt_fuel (by omega)) (by omega) hr h6.2

theorem ex_l10Word {s : Src} (hs : SrcOk s) (v : Int) : Ex GW (spec_l10Word.f s v) := by
  unfold spec_l10Word.f
  refine Ex.bind (ex_next hs (by omega)) fun r hr => Ex.bind (ex_next hr.2 (by omega)) fun q hq => Ex.bind (ex_pick hq.2 (by simp)) fun z hz => ?_
  have h1 := hr.1
  have h2 := hq.1
  have h3 := hz.1
  simp only [List.mem_cons, List.not_mem_nil, or_false] at h3
  exact word_l3 v fuelN _ z.2 [] (by omega) (lt_fuel (by omega)) (by simp only [List.length_nil]; omega) (by simp) hz.2

section
variable {code : List Int} (hb : ∀ x ∈ code, 0 ≤ x ∧ x < 256) (hl : code.length ≤ 4500)
include hb hl
theorem ex_DrawMatrixOfSteps : Ex (fun r => r.2.size ≤ 100) (spec_DrawMatrixOfSteps.f code) := by
  unfold spec_DrawMatrixOfSteps.f spec_DrawNormalSteps.f spec_DrawFollowSteps.f
  refine Ex.bind (Q := fun r : Int × ByteArray => r.2.size ≤ 100) (Ex.bind (Q := fun r : Int × Siii × ByteArray => r.2.2.size ≤ 100) (Ex.bind (ex_from hb (by omega)) fun s hs => Ex.bind (ex_l01Spoil hs) fun r hr => Ex.bind (ex_l10Word hr _) fun q hq => Ex.ret hq.1) fun r hr => Ex.ret hr) fun r hr => Ex.ret hr
theorem ex_DrawTriangularPart : Ex TT (spec_DrawTriangularPart.f code) := by
  unfold spec_DrawTriangularPart.f spec_l04With.f
  exact Ex.bind (Q := TT) (Ex.bind (ex_from hb (by omega)) fun s hs => Ex.bind (ex_l01Spoil hs) fun r hr => Ex.bind (ex_next hr (by omega)) fun q hq => Ex.ite (fun _ => Ex.bind (ex_l04Draw hq.2) fun z hz => Ex.ret trivial) fun _ => Ex.bind (ex_l04Draw hq.2) fun z hz => Ex.ret trivial) fun r _ => Ex.ret trivial
end

/-! the law -/
theorem zM_zero : (((zM.c0 == 0) && ((zM.c1 == 0) && true)) && (((zM.c2 == 0) && ((zM.c3 == 0) && true)) && true)) = true := rfl

theorem parts_j41_bad (p : Int) (v12 v16 a b c d e f g h : Int) (h0 : v16 ≠ 0) : laws_FnParts.j41 p v12 v16 a b c d e f g h zM.c0 zM.c1 zM.c2 zM.c3 = some true := by
  unfold laws_FnParts.j41
  rw [bne_ne h0, ifE_t, zM_zero]

theorem parts_j41_ok {p : Int} {g : Siiii} (hp : IsP p) (hg : isM (toM g)) {c : Siii} {ok : Bool} (hmv : MvM p ((toM g).mul (bMat p zB)) c ok) :
    laws_FnParts.j41 p (trE p c ok).2 (unE p g c ok).2 g.c0 g.c1 g.c2 g.c3 (trE p c ok).1.c0 (trE p c ok).1.c1 (trE p c ok).1.c2 (trE p c ok).1.c3 (unE p g c ok).1.c0 (unE p g c ok).1.c1 (unE p g c ok).1.c2 (unE p g c ok).1.c3 = some true := by
  by_cases h0 : (unE p g c ok).2 = 0
  case neg =>
    have : (unE p g c ok).1 = zM := by
      unfold unE fitE at h0 ⊢
      by_cases h1 : (triE p c ok).2 = true
      · rw [if_pos h1] at h0 ⊢
        by_cases h2 : fitM 1000 (red ((toM (triE p c ok).1).adj.mul (toM g)))
        · rw [if_pos h2] at h0; exact absurd rfl h0
        · rw [if_neg h2]
      · rw [if_neg h1]
    rw [this]
    exact parts_j41_bad _ _ _ _ _ _ _ _ _ _ _ h0
  have h1 : (triE p c ok).2 = true := by
    unfold unE at h0
    by_cases h1 : (triE p c ok).2 = true
    · exact h1
    · rw [if_neg h1] at h0; exact absurd h0 (by decide)
  have hok : ok = true := by
    unfold triE at h1
    cases ok
    · simp at h1
    · rfl
  subst hok
  rcases hmv with ⟨-, hc, hs⟩ | ⟨h, -⟩
  case inr => exact absurd h (by decide)
  have ht : triE p c true = (ofM (red (bMat p c)), decide (fitM 1000 (red (bMat p c)))) := by unfold triE; rw [if_pos rfl]
  rw [ht] at h1
  have hf : fitM 1000 (red (bMat p c)) := of_decide_eq_true h1
  have hT : trE p c true = (ofM (red (bMat p c)), 0) := by unfold trE; rw [ht, decide_eq_true hf, if_pos rfl]
  have hU0 : unE p g c true = fitE ((red (bMat p c)).adj.mul (toM g)) := by unfold unE; rw [ht, decide_eq_true hf, if_pos rfl]; rfl
  rw [hU0] at h0 ⊢
  have hf2 : fitM 1000 (red ((red (bMat p c)).adj.mul (toM g))) := by
    unfold fitE at h0
    by_cases h2 : fitM 1000 (red ((red (bMat p c)).adj.mul (toM g)))
    · exact h2
    · rw [if_neg h2] at h0; exact absurd h0 (by decide)
  have hU : fitE ((red (bMat p c)).adj.mul (toM g)) = (ofM (red ((red (bMat p c)).adj.mul (toM g))), 0) := by unfold fitE; rw [if_pos hf2]
  rw [hU, hT]
  have hcd := bMat_ne hc
  have htd := det_red_ne hcd
  have hKd := det_ne_mul (det_adj_ne htd) hg.2
  have htM : isM (red (bMat p c)) := ⟨hf, htd⟩
  have hKM : isM (toM (ofM (red ((red (bMat p c)).adj.mul (toM g))))) := ⟨hf2, det_red_ne hKd⟩
  have hz := zB_ok hp
  have hG := det_ne_mul hg.2 (bMat_ne hz)
  have h6 := pow_ne hp.two 6
  -- the unit part
  have hsame : Same p (red (bMat p c)) (toM g) := by
    have s1 : Same p (red (bMat p c)) (bMat p c) := same_prop hp htd hcd (kof_ne hcd) (t := 1) (by decide) (by rw [red_smul_kof, smul_one])
    have s2 : Same p ((toM g).mul (bMat p zB)) (toM g) := same_prop hp hG hg.2 (s := 1) (by decide) h6 (by rw [smul_one, bMat_zB, mul_smul, M2.mul_one])
    exact (s1.trans hp htd hcd hG hs).trans hp htd hG hg.2 s2
  have hpos : posE p (ofM (red ((red (bMat p c)).adj.mul (toM g)))) = 0 := by
    unfold posE
    rw [toM_ofM, red_red hKd, unit_pos hp htd hg.2 hsame]; rfl
  have hunit : impl_IsUnitMatrix.f p (ofM (red ((red (bMat p c)).adj.mul (toM g)))) = some (true, 0) := by
    rcases parts_f p (ofM (red ((red (bMat p c)).adj.mul (toM g)))) with ⟨h, -⟩ | ⟨-, -, -, c', ok', -, -, -, -, -, -, -, -, h, -⟩
    · exfalso
      rcases partE_0 (p := p) (g := ofM (red ((red (bMat p c)).adj.mul (toM g)))) with ⟨h', -⟩ | ⟨-, h'⟩
      · omega
      · exact h' ⟨hp, hKM⟩
    · rw [h, hpos]; rfl
  -- the product
  have hprod : red ((red (bMat p c)).mul (red ((red (bMat p c)).adj.mul (toM g)))) = red (toM g) := by
    rw [red_mul_right htd hKd, ← mul_assoc, mul_adj, smul_mul, one_mul, red_smul htd hg.2]
  have hmul : impl_MultiplyMatrices.f (ofM (red (bMat p c))) (ofM (red ((red (bMat p c)).adj.mul (toM g)))) = some (ofM (red (toM g)), 0) := by
    rw [impl_MultiplyMatrices_f]
    unfold mulE fitE
    rw [if_pos ⟨htM, hKM⟩, toM_ofM, toM_ofM, hprod, if_pos (red_fit hg.2 hg.1)]
  have hred : impl_ReduceMatrix.f g = some (ofM (red (toM g)), 0) := by
    rw [impl_ReduceMatrix_f]; unfold redE; rw [if_pos hg]
  unfold laws_FnParts.j41
  rw [bne_eq rfl, ifE_f]
  rw [show (⟨(ofM (red ((red (bMat p c)).adj.mul (toM g)))).c0, (ofM (red ((red (bMat p c)).adj.mul (toM g)))).c1, (ofM (red ((red (bMat p c)).adj.mul (toM g)))).c2, (ofM (red ((red (bMat p c)).adj.mul (toM g)))).c3⟩ : Siiii) = ofM (red ((red (bMat p c)).adj.mul (toM g))) from rfl, hunit, Option.bind_some,
    show (⟨(ofM (red (bMat p c))).c0, (ofM (red (bMat p c))).c1, (ofM (red (bMat p c))).c2, (ofM (red (bMat p c))).c3⟩ : Siiii) = ofM (red (bMat p c)) from rfl, hmul, Option.bind_some, show (⟨g.c0, g.c1, g.c2, g.c3⟩ : Siiii) = g from rfl, hred, Option.bind_some]
  simp only [beq_self_eq_true, ifE_t, Bool.and_true]

theorem DisplacementOf_f {p : Int} {g : Siiii} (hp : IsP p) (hg : isM (toM g)) : ∃ d code, impl_DisplacementOf.f p g zB = some (d, code) ∧ (code = 0 → d = posE p g) := by
  unfold impl_DisplacementOf.f
  have hz := zB_ok hp
  rcases impl_MoveBall_f p g zB with ⟨h, -⟩ | ⟨-, -, c, ok, hmv, -, e⟩
  · exact absurd ⟨hz, hg⟩ h
  · rw [e, Option.bind_some]
    cases ok
    · exact ⟨0, 3, rfl, fun h => absurd h (by decide)⟩
    · rcases hmv with ⟨-, hc, hs⟩ | ⟨h, -⟩
      · rw [if_pos rfl, bne_eq rfl, ifE_f]
        simp only
        rw [impl_distance_f hz hc]
        exact ⟨_, _, rfl, fun _ => pos_dist hp hg hc hs⟩
      · exact absurd h (by decide)

/-- the second half -/
theorem parts_j35 (p : Int) (g : Siiii) : ∀ r6 r8 r10 r12 r14, impl_TriangularPart.f p g = some r6 → impl_UnitPart.f p g = some r8 → impl_IsUnitMatrix.f p g = some r10 → impl_MatrixPosition.f p g = some r12 → impl_StepsOfMatrix.f p g = some r14 →
    laws_FnParts.j35 p r6.2 r8.2 r10.1 r12.1 r12.2 r14.1 r14.2 g.c0 g.c1 g.c2 g.c3 r6.1.c0 r6.1.c1 r6.1.c2 r6.1.c3 r8.1.c0 r8.1.c1 r8.1.c2 r8.1.c3 = some true := by
  intro r6 r8 r10 r12 r14 e6 e8 e10 e12 e14
  obtain ⟨z, code, s1, -, s3⟩ := StepsOfMatrix_f p g
  rw [s1] at e14
  obtain rfl := Option.some.inj e14
  rcases parts_f p g with ⟨he, a1, -, a2, -, a3, -, a4, -⟩ | ⟨hp, hg, he, c, ok, -, hmv, -, -, a1, -, a2, -, a3, -, a4, -⟩
  · rw [a1] at e6; rw [a2] at e8; rw [a3] at e10; rw [a4] at e12
    obtain rfl := Option.some.inj e6
    obtain rfl := Option.some.inj e8
    obtain rfl := Option.some.inj e10
    obtain rfl := Option.some.inj e12
    have hc : code = 1 := by
      have : impl_StepsOfMatrix.f p g = some (bs [], 1) := by unfold impl_StepsOfMatrix.f; rw [impl_partCode_f, he]; rfl
      rw [this] at s1
      exact (Prod.mk.inj (Option.some.inj s1)).2.symm
    unfold laws_FnParts.j35
    rw [show ((1 : Int) == 0) = false from rfl, ifE_f]
    unfold laws_FnParts.j39
    rw [hc, show ((1 : Int) == 0) = false from rfl, ifE_f]
    exact parts_j41_bad _ _ _ _ _ _ _ _ _ _ _ (by decide)
  · rw [a1] at e6; rw [a2] at e8; rw [a3] at e10; rw [a4] at e12
    obtain rfl := Option.some.inj e6
    obtain rfl := Option.some.inj e8
    obtain rfl := Option.some.inj e10
    obtain rfl := Option.some.inj e12
    have h41 := parts_j41_ok hp hg hmv
    have h39 : laws_FnParts.j39 p (trE p c ok).2 (unE p g c ok).2 (posE p g) z code g.c0 g.c1 g.c2 g.c3 (trE p c ok).1.c0 (trE p c ok).1.c1 (trE p c ok).1.c2 (trE p c ok).1.c3 (unE p g c ok).1.c0 (unE p g c ok).1.c1 (unE p g c ok).1.c2 (unE p g c ok).1.c3 = some true := by
      unfold laws_FnParts.j39
      by_cases hc : code = 0
      · rw [show (code == 0) = true from by simpa using hc, ifE_t, bne_eq (s3 hc), ifE_f, h41]
      · rw [beq_ne hc, ifE_f, h41]
    unfold laws_FnParts.j35
    obtain ⟨d, dc, d1, d2⟩ := DisplacementOf_f hp hg
    have hu : (!(decide (posE p g = 0) == (posE p g == 0))) = false := by
      by_cases h : posE p g = 0
      · rw [h]; rfl
      · rw [decide_eq_false h, beq_ne h]; rfl
    rw [show ((0 : Int) == 0) = true from rfl, ifE_t, show (⟨g.c0, g.c1, g.c2, g.c3⟩ : Siiii) = g from rfl, show (⟨0, 0, 0⟩ : Siii) = zB from rfl, d1, Option.bind_some]
    simp only [hu, ifE_f, h39]
    by_cases hc : dc = 0
    · rw [show (dc == 0) = true from by simpa using hc, ifE_t, bne_eq (d2 hc), ifE_f]
    · rw [beq_ne hc, ifE_f]

theorem FnParts {code : List Int} (hb : ∀ x ∈ code, 0 ≤ x ∧ x < 256) : laws_FnParts.f code = some true := by
  unfold laws_FnParts.f laws_big.f
  rw [Option.bind_some]
  by_cases hbig : (code.length : Int) > 4096
  · rw [decide_eq_true hbig, ifE_t]
  have hl : code.length ≤ 4500 := by omega
  rw [decide_eq_false hbig, ifE_f]
  obtain ⟨⟨q, w⟩, d1, hw⟩ := ex_DrawMatrixOfSteps hb hl
  obtain ⟨⟨p, g⟩, d2, -⟩ := ex_DrawTriangularPart hb hl
  have hw : w.size ≤ 100000 := by have : w.size ≤ 100 := hw; omega
  obtain ⟨z, code', s1, s2, -⟩ := StepsOfMatrix_f p g
  obtain ⟨nz, nc, n1, n2⟩ := NormalSteps_f (p := q) hw
  obtain ⟨fb, fc, f1, f2⟩ := FollowSteps_f (p := q) hw
  -- both give the same parts
  have hparts : ∃ r6 r8 r10 r12, impl_TriangularPart.f p g = some r6 ∧ spec_TriangularPart.f p g = some r6 ∧ impl_UnitPart.f p g = some r8 ∧ spec_UnitPart.f p g = some r8 ∧ impl_IsUnitMatrix.f p g = some r10 ∧ spec_IsUnitMatrix.f p g = some r10 ∧ impl_MatrixPosition.f p g = some r12 ∧ spec_MatrixPosition.f p g = some r12 := by
    rcases parts_f p g with ⟨he, a1, a1', a2, a2', a3, a3', a4, a4'⟩ | ⟨hp, hg, he, c, ok, -, hmv, -, -, a1, a1', a2, a2', a3, a3', a4, a4'⟩
    · exact ⟨_, _, _, _, a1, a1', a2, a2', a3, a3', a4, a4'⟩
    · exact ⟨_, _, _, _, a1, a1', a2, a2', a3, a3', a4, a4'⟩
  obtain ⟨r6, r8, r10, r12, a1, a1', a2, a2', a3, a3', a4, a4'⟩ := hparts
  have hj := parts_j35 p g r6 r8 r10 r12 _ a1 a2 a3 a4 s1
  rw [d1, Option.bind_some]
  simp only
  rw [impl_MatrixOfSteps_f hw, Option.bind_some, spec_MatrixOfSteps_f hw, Option.bind_some, bne_eq rfl, ifE_f, eqS, decide_eq_true rfl, Bool.not_true, ifE_f, d2, Option.bind_some]
  simp only
  rw [a1, Option.bind_some, a1', Option.bind_some, bne_eq rfl, ifE_f, eqS, decide_eq_true rfl, Bool.not_true, ifE_f, a2, Option.bind_some, a2', Option.bind_some, bne_eq rfl, ifE_f, eqS, decide_eq_true rfl, Bool.not_true, ifE_f,
    a3, Option.bind_some, a3', Option.bind_some, bne_eq rfl, ifE_f, show (!(r10.1 == r10.1)) = false from by simp, ifE_f, a4, Option.bind_some, a4', Option.bind_some, bne_eq rfl, ifE_f, bne_eq rfl, ifE_f,
    s1, Option.bind_some, s2, Option.bind_some, bne_eq rfl, ifE_f, show (!(z.toList == z.toList)) = false from by simp, ifE_f, n1, Option.bind_some]
  simp only
  rw [hj]
  by_cases h0 : (mosE q (wd w)).2 = 0
  · rw [show ((mosE q (wd w)).2 == 0) = true from by simpa using h0, ifE_t]
    by_cases hn : nz.toList = w.toList
    · rw [show (nz.toList == w.toList) = true from by simpa using hn, ifE_t]
      have hc0 : codeW q (wd w) = 0 := by
        unfold mosE at h0
        by_cases h : codeW q (wd w) = 0
        · exact h
        · rw [if_pos h] at h0; exact absurd h0 h
      obtain ⟨hq, hW⟩ := codeW_0 hc0
      have hm : mosE q (wd w) = mosR q (wd w) M2.one := by unfold mosE; rw [if_neg (by omega)]
      rw [hm] at h0 ⊢
      have hN := n2 hc0 hn
      rw [show (⟨0, 0, 0⟩ : Siii) = zB from rfl]
      have htot : ∃ r17, impl_MoveBall.f q (mosR q (wd w) M2.one).1 zB = some r17 := by
        rcases impl_MoveBall_f q (mosR q (wd w) M2.one).1 zB with ⟨-, h⟩ | ⟨-, -, c, ok, -, -, h⟩ <;> exact ⟨_, h⟩
      obtain ⟨r17, e17⟩ := htot
      rw [e17, Option.bind_some, f1, Option.bind_some]
      by_cases hfc : fc = 0
      · obtain ⟨-, hfol⟩ := f2 hfc
        obtain ⟨-, hmv⟩ := word_move hq hW hN h0 hfol
        rw [e17] at hmv
        obtain rfl := Option.some.inj hmv
        rw [show (fc == 0) = true from by simpa using hfc, ifE_t, bne_eq rfl, ifE_f, eqB3, decide_eq_true rfl, Bool.not_true, ifE_f]
      · rw [beq_ne hfc, ifE_f]
    · rw [show (nz.toList == w.toList) = false from by simpa using hn, ifE_f]
  · rw [beq_ne h0, ifE_f]

end Go.Gn
end
