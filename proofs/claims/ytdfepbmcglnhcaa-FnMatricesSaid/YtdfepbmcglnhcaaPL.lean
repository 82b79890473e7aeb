import Derived.Test.YtdfepbmcglnhcaaPM
import Derived.Test.YtdfepbmcglnhcaaPD
set_option linter.unusedVariables false
set_option linter.unusedSimpArgs false
/-! plain: the law of matrices -/
namespace Go.GenTry
open Go Go.Eng Pl Pl.M2

abbrev TT {α : Type} : α → Prop := fun _ => True

theorem ex_is (g : Siiii) : Ex (fun b => b = decide (isM (toM g))) (spec_l04Is.f g) := ⟨_, spec_l04Is_f g, rfl⟩

theorem reduceDraw_l6 : ∀ (k : Nat) (v5 i a b c d e f g h : Int), 0 ≤ i → i ≤ 4 → (4 - i).toNat < k → Ex TT (spec_DrawReduceMatrix.l6 k v5 i a b c d e f g h) := by
  intro k
  induction k with
  | zero => intro v5 i a b c d e f g h h0 h1 hk; omega
  | succ k ih =>
    intro v5 i a b c d e f g h h0 h1 hk
    simp only [spec_DrawReduceMatrix.l6, spec_DrawReduceMatrix.s6]
    refine Ex.ite (fun hlt => ?_) (fun hge => Ex.ret trivial)
    have hlt : i < 4 := by simpa using hlt
    have ew : W (i + 1) = i + 1 := W_id (by omega) (by omega)
    rw [ew]
    have hgo : ∀ v5 a b c d e f g h, Ex TT (spec_DrawReduceMatrix.l6 k v5 (i + 1) a b c d e f g h) := fun v5 a b c d e f g h => ih v5 (i + 1) a b c d e f g h (by omega) (by omega) (by omega)
    have hi : i = 0 ∨ i = 1 ∨ i = 2 ∨ i = 3 := by omega
    rcases hi with rfl | rfl | rfl | rfl
    · exact hgo ..
    · exact hgo ..
    · exact hgo ..
    · exact hgo ..

section
variable {code : List Int} (hb : ∀ x ∈ code, 0 ≤ x ∧ x < 256) (hl : code.length ≤ 4096)
include hb hl
theorem ex_DrawMultiplyMatrices : Ex TT (spec_DrawMultiplyMatrices.f code) := by
  unfold spec_DrawMultiplyMatrices.f
  refine Ex.bind (ex_from hb hl) fun s hs => Ex.bind (ex_l04Draw hs) fun r hr => Ex.bind (ex_l04Draw hr) fun q hq => Ex.ret trivial
theorem ex_DrawReduceMatrix : Ex TT (spec_DrawReduceMatrix.f code) := by
  unfold spec_DrawReduceMatrix.f
  refine Ex.bind (ex_from hb hl) fun s hs => Ex.bind (ex_l04Draw hs) fun r hr => Ex.bind (ex_pick hr (by simp)) fun q hq => Ex.bind (ex_is _) fun b _ => ?_
  refine Ex.ite (fun _ => ?_) (fun _ => Ex.ret trivial)
  exact reduceDraw_l6 fuelN _ 0 _ _ _ _ _ _ _ _ (by omega) (by omega) (lt_fuel (by omega))
theorem ex_DrawInverseMatrix : Ex TT (spec_DrawInverseMatrix.f code) := by
  unfold spec_DrawInverseMatrix.f
  refine Ex.bind (ex_from hb hl) fun s hs => Ex.bind (ex_l04Draw hs) fun r hr => Ex.ret trivial
theorem ex_DrawPowerMatrix : Ex (fun r => -22 ≤ r.2 ∧ r.2 ≤ 22) (spec_DrawPowerMatrix.f code) := by
  unfold spec_DrawPowerMatrix.f
  refine Ex.bind (ex_from hb hl) fun s hs => Ex.bind (ex_l04Draw hs) fun r hr => Ex.bind (ex_next hr (by omega)) fun q hq => Ex.bind (ex_pick hq.2 (by simp)) fun z hz => Ex.ret ?_
  obtain ⟨hq1, -⟩ := hq
  obtain ⟨hz1, -⟩ := hz
  rw [W_id (by omega) (by omega)] at hz1
  simp only [List.mem_cons, List.not_mem_nil, or_false] at hz1
  simp only
  omega
theorem ex_DrawAreSameMatrices : Ex TT (spec_DrawAreSameMatrices.f code) := by
  unfold spec_DrawAreSameMatrices.f
  refine Ex.bind (ex_from hb hl) fun s hs => Ex.bind (ex_DrawReduceMatrix hb hl) fun r _ => Ex.bind (ex_next hs (by omega)) fun q hq => ?_
  refine Ex.ite (fun _ => ?_) (fun _ => ?_)
  · refine Ex.bind (ex_is _) fun b hb' => ?_
    refine Ex.ite (fun hc => ?_) (fun _ => ?_)
    · have hm : isM (toM r) := by rw [hb'] at hc; simpa using hc
      exact Ex.bind (Q := TT) ⟨_, spec_l04Reduce_f hm.2 (isM_lim hm), trivial⟩ fun z _ => Ex.ret trivial
    · exact Ex.bind (ex_l04Draw hq.2) fun z _ => Ex.ret trivial
  · exact Ex.bind (ex_l04Draw hq.2) fun z _ => Ex.ret trivial
end

/-! the law -/
theorem mulE_ok {g h : Siiii} (e : (mulE g h).2 = 0) : isM (toM g) ∧ isM (toM h) ∧ fitM 1000 (red ((toM g).mul (toM h))) ∧ (mulE g h).1 = ofM (red ((toM g).mul (toM h))) := by
  unfold mulE at *
  by_cases h1 : isM (toM g) ∧ isM (toM h)
  · rw [if_pos h1] at *
    unfold fitE at *
    by_cases hf : fitM 1000 (red ((toM g).mul (toM h)))
    · rw [if_pos hf] at *; exact ⟨h1.1, h1.2, hf, rfl⟩
    · rw [if_neg hf] at e; simp at e
  · rw [if_neg h1] at e; simp at e
theorem mulE_bad {g h : Siiii} (e : (mulE g h).2 ≠ 0) : (mulE g h).1 = zM := by
  unfold mulE at *
  by_cases h1 : isM (toM g) ∧ isM (toM h)
  · rw [if_pos h1] at *
    unfold fitE at *
    by_cases hf : fitM 1000 (red ((toM g).mul (toM h)))
    · rw [if_pos hf] at e; simp at e
    · rw [if_neg hf]
  · rw [if_neg h1]

theorem mul_det_ne {g h : Siiii} (h1 : isM (toM g)) (h2 : isM (toM h)) : ((toM g).mul (toM h)).det ≠ 0 := det_ne_mul h1.2 h2.2

/-- products are associative -/
theorem law_assoc {g h : Siiii} (e1 : (mulE g h).2 = 0) (e2 : (mulE (mulE g h).1 g).2 = 0) (e3 : (mulE h g).2 = 0) (e4 : (mulE g (mulE h g).1).2 = 0) : (mulE (mulE g h).1 g).1 = (mulE g (mulE h g).1).1 := by
  obtain ⟨m1, m2, f1, q1⟩ := mulE_ok e1
  obtain ⟨-, -, f2, q2⟩ := mulE_ok e2
  obtain ⟨-, -, f3, q3⟩ := mulE_ok e3
  obtain ⟨-, -, f4, q4⟩ := mulE_ok e4
  rw [q2, q4, q1, q3, toM_ofM, toM_ofM, red_mul_left (mul_det_ne m1 m2) m1.2, red_mul_right m1.2 (mul_det_ne m2 m1), mul_assoc]

theorem law_j43 (g h : Siiii) : laws_FnMatrices.j43 (mulE g h).2 g.c0 g.c1 g.c2 g.c3 h.c0 h.c1 h.c2 h.c3 (mulE g h).1.c0 (mulE g h).1.c1 (mulE g h).1.c2 (mulE g h).1.c3 = some true := by
  unfold laws_FnMatrices.j43
  by_cases e1 : (mulE g h).2 = 0
  · rw [bne_eq e1, ifE_f]
    have p1 : impl_MultiplyMatrices.f (⟨(mulE g h).1.c0, (mulE g h).1.c1, (mulE g h).1.c2, (mulE g h).1.c3⟩ : Siiii) (⟨g.c0, g.c1, g.c2, g.c3⟩ : Siiii) = some (mulE (mulE g h).1 g) := impl_MultiplyMatrices_f _ _
    have p2 : impl_MultiplyMatrices.f (⟨h.c0, h.c1, h.c2, h.c3⟩ : Siiii) (⟨g.c0, g.c1, g.c2, g.c3⟩ : Siiii) = some (mulE h g) := impl_MultiplyMatrices_f _ _
    have p3 : impl_MultiplyMatrices.f (⟨g.c0, g.c1, g.c2, g.c3⟩ : Siiii) (mulE h g).1 = some (mulE g (mulE h g).1) := impl_MultiplyMatrices_f _ _
    rw [p1, Option.bind_some, p2, Option.bind_some, p3, Option.bind_some]
    by_cases e2 : (mulE (mulE g h).1 g).2 = 0
    · rw [bne_eq e2, ifE_f]
      by_cases e3 : (mulE h g).2 = 0
      · rw [bne_eq e3, ifE_f]
        by_cases e4 : (mulE g (mulE h g).1).2 = 0
        · rw [bne_eq e4, ifE_f, eqS, decide_eq_true (law_assoc e1 e2 e3 e4)]
        · rw [bne_ne e4, ifE_t]
      · rw [bne_ne e3, ifE_t]
    · rw [bne_ne e2, ifE_t]
  · rw [bne_ne e1, ifE_t, mulE_bad e1]; rfl

theorem powR_snoc {X : M2} : ∀ (n : Nat) (A B : M2), powR X (n + 1) A = some B → ∃ C, powR X n A = some C ∧ fitM 1000 (red (C.mul X)) ∧ B = red (C.mul X) := by
  intro n
  induction n with
  | zero =>
    intro A B h
    unfold powR at h
    split at h
    · rename_i hf
      unfold powR at h
      cases h
      exact ⟨A, rfl, hf, rfl⟩
    · cases h
  | succ n ih =>
    intro A B h
    unfold powR at h
    split at h
    · rename_i hf
      obtain ⟨C, h1, h2, h3⟩ := ih _ _ h
      refine ⟨C, ?_, h2, h3⟩
      unfold powR; rw [if_pos hf]; exact h1
    · cases h

theorem powR_fit {X : M2} (dX : X.det ≠ 0) : ∀ (n : Nat) (A B : M2), powR X n A = some B → fitM 1000 A → A.det ≠ 0 → fitM 1000 B ∧ B.det ≠ 0 ∧ (red A = A → red B = B) := by
  intro n
  induction n with
  | zero => intro A B h hA dA; unfold powR at h; cases h; exact ⟨hA, dA, id⟩
  | succ n ih =>
    intro A B h hA dA
    unfold powR at h
    split at h
    · rename_i hf
      obtain ⟨h1, h2, h3⟩ := ih _ _ h hf (det_red_ne (det_ne_mul dA dX))
      exact ⟨h1, h2, fun _ => h3 (red_red (det_ne_mul dA dX))⟩
    · cases h

theorem pwE_ok {g : Siiii} {k : Int} (e : (pwE g k).2 = 0) : isM (toM g) ∧ (-20 ≤ k ∧ k ≤ 20) ∧ ∃ B, powR (if k < 0 then red (toM g).adj else toM g) k.natAbs one = some B ∧ (pwE g k).1 = ofM B := by
  unfold pwE at *
  by_cases h1 : isM (toM g)
  · rw [if_pos h1] at *
    by_cases h2 : -20 ≤ k ∧ k ≤ 20
    · rw [if_pos h2] at *
      refine ⟨h1, h2, ?_⟩
      by_cases h3 : k < 0
      · rw [if_pos h3] at *
        rw [if_pos h3]
        have : k.natAbs = (-k).toNat := by omega
        rw [this]
        unfold powE at *
        cases hp : powR (red (toM g).adj) (-k).toNat one with
        | none => rw [hp] at e; simp at e
        | some B => exact ⟨B, rfl, rfl⟩
      · rw [if_neg h3] at *
        rw [if_neg h3]
        have : k.natAbs = k.toNat := by omega
        rw [this]
        unfold powE at *
        cases hp : powR (toM g) k.toNat one with
        | none => rw [hp] at e; simp at e
        | some B => exact ⟨B, rfl, rfl⟩
    · rw [if_neg h2] at e; simp at e
  · rw [if_neg h1] at e; simp at e

/-- powers add up -/
theorem law_power {z : Siiii} {k : Int} (e1 : (pwE z k).2 = 0) (e2 : (pwE z (k + 1)).2 = 0) (e3 : (mulE (pwE z k).1 z).2 = 0) : (pwE z (k + 1)).1 = (mulE (pwE z k).1 z).1 := by
  obtain ⟨hz, hk, B, hB, qB⟩ := pwE_ok e1
  obtain ⟨-, hk1, C, hC, qC⟩ := pwE_ok e2
  obtain ⟨mB, -, fB, q3⟩ := mulE_ok e3
  rw [q3, qC, qB, toM_ofM]
  congr 1
  by_cases h0 : k < 0
  · rw [if_pos h0] at hB
    have dX : (red (toM z).adj).det ≠ 0 := det_red_ne (det_adj_ne hz.2)
    by_cases h1 : k + 1 < 0
    · rw [if_pos h1] at hC
      have e : k.natAbs = (k + 1).natAbs + 1 := by omega
      rw [e] at hB
      obtain ⟨D, hD, -, rfl⟩ := powR_snoc _ _ _ hB
      rw [hC] at hD
      cases hD
      obtain ⟨-, dC, rC⟩ := powR_fit dX _ _ _ hC isM_one (by decide)
      have rC := rC red_one
      rw [red_mul_left (det_ne_mul dC dX) hz.2, mul_assoc]
      have e2 : red (C.mul ((red (toM z).adj).mul (toM z))) = red C := by
        have h3 : (toM z).adj = smul (toM z).adj.kof (red (toM z).adj) := (red_smul_kof _).symm
        have hk0 := kof_ne (det_adj_ne hz.2)
        have h4 : smul (toM z).adj.kof (C.mul ((red (toM z).adj).mul (toM z))) = smul (toM z).det C := by
          rw [← mul_smul, ← smul_mul, red_smul_kof, adj_mul_self, mul_smul, mul_one]
        rw [← red_smul hk0 (det_ne_mul dC (det_ne_mul dX hz.2)), h4, red_smul hz.2 dC]
      rw [e2, rC]
    · have e : k = -1 := by omega
      subst e
      have hC' : powR (toM z) 0 one = some C := hC
      unfold powR at hC'
      cases hC'
      have hB' : powR (red (toM z).adj) (0 + 1) one = some B := hB
      obtain ⟨D, hD, -, rfl⟩ := powR_snoc _ _ _ hB'
      unfold powR at hD
      cases hD
      rw [one_mul, red_red (det_adj_ne hz.2), red_mul_left (det_adj_ne hz.2) hz.2, adj_mul_self, red_smul_one hz.2]
  · rw [if_neg h0] at hB
    rw [if_neg (by omega)] at hC
    have e : (k + 1).natAbs = k.natAbs + 1 := by omega
    rw [e] at hC
    obtain ⟨D, hD, -, rfl⟩ := powR_snoc _ _ _ hC
    rw [hB] at hD
    cases hD
    rfl

theorem law_j38 (g h z : Siiii) (k : Int) (hk : -22 ≤ k ∧ k ≤ 22) : laws_FnMatrices.j38 (mulE g h).2 k (pwE z k).2 g.c0 g.c1 g.c2 g.c3 h.c0 h.c1 h.c2 h.c3 (mulE g h).1.c0 (mulE g h).1.c1 (mulE g h).1.c2 (mulE g h).1.c3 z.c0 z.c1 z.c2 z.c3 (pwE z k).1.c0 (pwE z k).1.c1 (pwE z k).1.c2 (pwE z k).1.c3 = some true := by
  unfold laws_FnMatrices.j38
  rw [law_j43]
  by_cases e1 : (pwE z k).2 = 0
  · rw [show ((pwE z k).2 == 0) = true from by simp [e1], ifE_t]
    by_cases h1 : k < 20
    · have p1 : impl_PowerMatrix.f (⟨z.c0, z.c1, z.c2, z.c3⟩ : Siiii) (W (k + 1)) = some (pwE z (k + 1)) := by rw [W_id (by omega) (by omega)]; exact impl_PowerMatrix_f _ _
      have p2 : impl_MultiplyMatrices.f (⟨(pwE z k).1.c0, (pwE z k).1.c1, (pwE z k).1.c2, (pwE z k).1.c3⟩ : Siiii) (⟨z.c0, z.c1, z.c2, z.c3⟩ : Siiii) = some (mulE (pwE z k).1 z) := impl_MultiplyMatrices_f _ _
      rw [ifE_pos h1, p1, Option.bind_some, p2, Option.bind_some]
      by_cases e2 : (pwE z (k + 1)).2 = 0
      · rw [show ((pwE z (k + 1)).2 == 0) = true from by simp [e2], ifE_t]
        by_cases e3 : (mulE (pwE z k).1 z).2 = 0
        · rw [show ((mulE (pwE z k).1 z).2 == 0) = true from by simp [e3], ifE_t, eqS, decide_eq_true (law_power e1 e2 e3)]; rfl
        · rw [beq_ne e3, ifE_f]
      · rw [beq_ne e2, ifE_f]
    · rw [ifE_neg h1]
  · rw [beq_ne e1, ifE_f]

theorem invE_ok {y : Siiii} (e : (invE y).2 = 0) : isM (toM y) ∧ (invE y).1 = ofM (red (toM y).adj) := by
  unfold invE at *
  by_cases h1 : isM (toM y)
  · rw [if_pos h1] at *; exact ⟨h1, rfl⟩
  · rw [if_neg h1] at e; simp at e
theorem redE_ok {y : Siiii} (e : (redE y).2 = 0) : isM (toM y) ∧ (redE y).1 = ofM (red (toM y)) := by
  unfold redE at *
  by_cases h1 : isM (toM y)
  · rw [if_pos h1] at *; exact ⟨h1, rfl⟩
  · rw [if_neg h1] at e; simp at e

theorem isM_redd {X : M2} (h : isM X) : isM (red X) := (isM_red h.2).2 (red_fit h.2 h.1)
theorem isM_adj {X : M2} (h : isM X) : isM X.adj := ⟨adj_fit h.1, det_adj_ne h.2⟩

theorem law_inverse {y : Siiii} (e : (invE y).2 = 0) : (mulE y (invE y).1) = (⟨1, 0, 0, 1⟩, 0) ∧ invE (invE y).1 = ((redE y).1, 0) ∧ (redE y).2 = 0 := by
  obtain ⟨hy, q⟩ := invE_ok e
  have hr : redE y = (ofM (red (toM y)), 0) := by unfold redE; rw [if_pos hy]
  have hi := isM_redd (isM_adj hy)
  refine ⟨?_, ?_, by rw [hr]⟩
  · rw [q]
    unfold mulE
    rw [if_pos ⟨hy, by rw [toM_ofM]; exact hi⟩, toM_ofM]
    have e2 : red ((toM y).mul (red (toM y).adj)) = M2.one := by
      rw [red_mul_right hy.2 (det_adj_ne hy.2), mul_adj, red_smul_one hy.2]
    unfold fitE
    rw [e2, if_pos isM_one]
    rfl
  · rw [q, hr]
    unfold invE
    rw [toM_ofM, if_pos hi, red_adj (det_adj_ne hy.2), adj_adj]

theorem law_j32 (g h y z : Siiii) (k : Int) (hk : -22 ≤ k ∧ k ≤ 22) : laws_FnMatrices.j32 (mulE g h).2 (invE y).2 k (pwE z k).2 g.c0 g.c1 g.c2 g.c3 h.c0 h.c1 h.c2 h.c3 (mulE g h).1.c0 (mulE g h).1.c1 (mulE g h).1.c2 (mulE g h).1.c3
    y.c0 y.c1 y.c2 y.c3 (invE y).1.c0 (invE y).1.c1 (invE y).1.c2 (invE y).1.c3 z.c0 z.c1 z.c2 z.c3 (pwE z k).1.c0 (pwE z k).1.c1 (pwE z k).1.c2 (pwE z k).1.c3 = some true := by
  unfold laws_FnMatrices.j32
  rw [law_j38 g h z k hk]
  by_cases e1 : (invE y).2 = 0
  · obtain ⟨q1, q2, q3⟩ := law_inverse e1
    have p1 : impl_MultiplyMatrices.f (⟨y.c0, y.c1, y.c2, y.c3⟩ : Siiii) (⟨(invE y).1.c0, (invE y).1.c1, (invE y).1.c2, (invE y).1.c3⟩ : Siiii) = some (⟨1, 0, 0, 1⟩, 0) := by rw [← q1]; exact impl_MultiplyMatrices_f _ _
    have p2 : impl_InverseMatrix.f (⟨(invE y).1.c0, (invE y).1.c1, (invE y).1.c2, (invE y).1.c3⟩ : Siiii) = some ((redE y).1, 0) := by rw [← q2]; exact impl_InverseMatrix_f _
    have p3 : impl_ReduceMatrix.f (⟨y.c0, y.c1, y.c2, y.c3⟩ : Siiii) = some (redE y) := impl_ReduceMatrix_f _
    rw [show ((invE y).2 == 0) = true from by simp [e1], ifE_t]
    first
      | rw [p1, Option.bind_some, p2, Option.bind_some, p3, Option.bind_some]
      | skip
    simp only [bne_eq q3]
    rw [eqS]
    simp [ifE_f]
  · rw [beq_ne e1, ifE_f]

theorem FnMatrices {code : List Int} (hb : ∀ x ∈ code, 0 ≤ x ∧ x < 256) : laws_FnMatrices.f code = some true := by
  unfold laws_FnMatrices.f laws_big.f
  rw [Option.bind_some]
  by_cases hbig : (code.length : Int) > 4096
  · rw [decide_eq_true hbig, ifE_t]
  · have hl : code.length ≤ 4096 := by omega
    rw [decide_eq_false hbig, ifE_f]
    obtain ⟨⟨g, h⟩, d1, -⟩ := ex_DrawMultiplyMatrices hb hl
    obtain ⟨x, d2, -⟩ := ex_DrawReduceMatrix hb hl
    obtain ⟨y, d3, -⟩ := ex_DrawInverseMatrix hb hl
    obtain ⟨⟨z, k⟩, d4, hk⟩ := ex_DrawPowerMatrix hb hl
    obtain ⟨⟨a, b⟩, d5, -⟩ := ex_DrawAreSameMatrices hb hl
    have b0 : ∀ x : Int, (x != x) = false := fun x => bne_eq rfl
    have eS : ∀ g : Siiii, (!(((g.c0 == g.c0) && ((g.c1 == g.c1) && true)) && (((g.c2 == g.c2) && ((g.c3 == g.c3) && true)) && true))) = false := fun g => by rw [eqS]; simp
    have sI : ∀ g, spec_IsMatrix.f g = some (decide (isM (toM g))) := fun g => by unfold spec_IsMatrix.f; rw [spec_l04Is_f]; rfl
    have bb : ∀ b : Bool, (!(b == b)) = false := fun b => by simp
    rw [d1, Option.bind_some, impl_MultiplyMatrices_f, Option.bind_some, spec_MultiplyMatrices_f, Option.bind_some, b0, ifE_f, eS, ifE_f, impl_IsMatrix_f, Option.bind_some, sI, Option.bind_some, bb, ifE_f,
      d2, Option.bind_some, impl_ReduceMatrix_f, Option.bind_some, spec_ReduceMatrix_f, Option.bind_some, b0, ifE_f, eS, ifE_f,
      d3, Option.bind_some, impl_InverseMatrix_f, Option.bind_some, spec_InverseMatrix_f, Option.bind_some, b0, ifE_f, eS, ifE_f,
      d4, Option.bind_some, impl_PowerMatrix_f, Option.bind_some, spec_PowerMatrix_f, Option.bind_some, b0, ifE_f, eS, ifE_f,
      d5, Option.bind_some, impl_AreSameMatrices_f, Option.bind_some, spec_AreSameMatrices_f, Option.bind_some, b0, ifE_f, bb, ifE_f]
    have hj := law_j32 g h y z k hk
    rw [hj]
    by_cases e : (redE x).2 = 0
    · obtain ⟨hx, q⟩ := redE_ok e
      have hs : sameE x (redE x).1 = (true, 0) := by
        rw [q]; unfold sameE
        rw [if_pos ⟨hx, by rw [toM_ofM]; exact isM_redd hx⟩, toM_ofM, red_red hx.2, decide_eq_true rfl]
      rw [show ((redE x).2 == 0) = true from by simp [e], ifE_t, impl_AreSameMatrices_f, Option.bind_some, hs]
      simp only [b0, ifE_f, Bool.not_true]
      rw [impl_IsMatrix_f, Option.bind_some, q, toM_ofM, decide_eq_true (isM_redd hx)]
      rfl
    · rw [beq_ne e, ifE_f]

end Go.GenTry
