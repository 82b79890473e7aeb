import Derived.Test.YtdfepbmcglnhcaaEngG
set_option linter.unusedSimpArgs false
set_option linter.unusedVariables false
/-! Soundness, 4a: equality of structs and arrays. -/
namespace Go.Eng
open Go
variable {P : Program} {Φ : List It → St → Prop}

mutual
theorem eqV_ok : ∀ (k d : Nat) (t : TypeId) (x y : Value) (b : Bool) (w : World), eqV P k d t x y = some b → (Op.equalIn (d + 1) t x y).run P w = .ok b w
  | 0, _, _, _, _, _, _, h => by simp [eqV] at h
  | k + 1, d, t, x, y, b, w, h => by
    unfold eqV at h
    split at h
    · rename_i fs xs ys hu
      split at h
      · cases h
      · rename_i hp
        split at h
        · rename_i d'
          have hf : P.fieldsOf t = fs := by simp [Program.fieldsOf, hu]
          rw [run_equalIn_struct w _ t xs ys (by rw [hf]; exact hu) (by simpa using hp), hf]
          exact eqF_ok k d' xs ys fs.toList b w h
        · cases h
    · rename_i n e xs ys hu
      split at h
      · rename_i i d' hi
        rw [run_equalIn_array w _ xs ys hu hi]
        exact eqA_ok k d' e xs ys (List.range n) b w h
      · cases h
    · exact evP_run _ h w
    · cases h
theorem eqF_ok : ∀ (k d : Nat) (xs ys : Array Value) (fs : List Field) (b : Bool) (w : World), eqF P k d xs ys fs = some b → (Op.eqFields (d + 1) xs ys fs).run P w = .ok b w
  | 0, _, _, _, _, _, _, h => by simp [eqF] at h
  | k + 1, d, xs, ys, [], b, w, h => by
    simp only [eqF] at h; cases h
    simp [Op.eqFields]
  | k + 1, d, xs, ys, f :: fs, b, w, h => by
    simp only [eqF] at h
    split at h
    · rename_i hn
      split at h
      · rename_i a c ha hc
        split at h
        · rename_i r q hr hq
          cases h
          have h1 := eqV_ok k d f.type a c r w hr
          have h2 := eqF_ok k d xs ys fs q w hq
          simp only [Op.eqFields, hn, ne_eq, not_false_eq_true, if_true, Sem.run_bind, evP_run _ ha, evP_run _ hc, Result.andThen_ok, h1]
          cases r
          · simp
          · simpa using h2
        · cases h
      · cases h
    · cases h
theorem eqA_ok : ∀ (k d : Nat) (e : TypeId) (xs ys : Array Value) (is : List Nat) (b : Bool) (w : World), eqA P k d e xs ys is = some b → (Op.eqItems (d + 1) e (P.cellsOf e) xs ys is).run P w = .ok b w
  | 0, _, _, _, _, _, _, _, h => by simp [eqA] at h
  | k + 1, d, e, xs, ys, [], b, w, h => by
    simp only [eqA] at h; cases h
    simp [Op.eqItems]
  | k + 1, d, e, xs, ys, i :: is, b, w, h => by
    simp only [eqA] at h
    split at h
    · rename_i a c ha hc
      split at h
      · rename_i r q hr hq
        cases h
        have h1 := eqV_ok k d e a c r w hr
        have h2 := eqA_ok k d e xs ys is q w hq
        simp only [Op.eqItems, Sem.run_bind, evP_run _ ha, evP_run _ hc, Result.andThen_ok, h1]
        cases r
        · simp
        · simpa using h2
      · cases h
    · cases h
end

theorem eq_ok {A : Amb} {o : Oper} {S : St} {kl : List Nat} {neg : Bool} {T yT : Nat} {x y : Operand} (ho : o.op = .binOp (if neg then .neq else .eql) T x y yT) {d : DV} {os os' : List (Ora P Φ)} {R D}
    (h : (eqE neg T x y : RD P Φ DV).go S os = some (d, R, D, os')) (a : Act) (w : World) (bo : Nat → Option Nat) (σ : Nat → Value) (hR : Rel A S a.tmps w bo σ kl) :
    ∃ v, (execOp a.eval o).run P w = .ok (.value v) w ∧ RV (A.env S w bo σ) d v ∧ ∀ p ∈ refs d, p ∈ kl := by
  unfold eqE at h
  obtain ⟨dx, R1, D1, os1, R2, D2, h1, h2, rfl, rfl⟩ := go_bind _ _ h
  obtain ⟨dy, R3, D3, os3, R4, D4, h3, h4, rfl, rfl⟩ := go_bind _ _ h2
  obtain ⟨k1, -, rfl, -⟩ := opd_ok hR h1
  obtain ⟨k2, -, -, -⟩ := opd_ok hR h3
  split at h4
  · rename_i xs ys hx hy
    have e1 := toV_ok hx k1
    have e2 := toV_ok hy k2
    split at h4
    · exact (go_fail h4).elim
    · rename_i hgd
      obtain ⟨r, R5, D5, os5, R6, D6, h5, h6, rfl, rfl⟩ := go_bind _ _ h4
      obtain ⟨hr, -⟩ := go_ofO h5
      obtain ⟨rfl, -, -, -⟩ := go_ret h6
      have hq := eqV_ok 20 9999 T _ _ r w hr
      have hgd' : P.eqGuardType P.depth T = false := by simpa using hgd
      refine ⟨.bool (if neg then !r else r), ?_, rfl, fun p hp => by simp [refs, refs1, refs0] at hp⟩
      simp only [execOp, ho, e1, e2, Sem.run_bind, run_eqGuard_agg w _ T x y xs ys hgd', Result.andThen_ok]
      cases neg
      · simp only [Bool.false_eq_true, if_false, run_eql_struct, hq, Result.andThen_ok, Sem.run_pure]
      · simp only [if_true, run_neq_struct, hq, Result.andThen_ok, Sem.run_pure]
  · rename_i vx vy hn hx hy
    obtain ⟨v, hv, hok, rfl, _⟩ := resE_ok h4
    have e1 := toV_ok hx k1
    have e2 := toV_ok hy k2
    refine ⟨v, ?_, rv_ofR _ v hok, fun p hp => by rw [refs_ofR] at hp; cases hp⟩
    have := evP_run _ hv w
    simp only [execOp, ho, e1, e2]
    simp only [Sem.run_bind, this, Result.andThen_ok, Sem.run_pure]
  · exact (go_fail h4).elim

end Go.Eng
