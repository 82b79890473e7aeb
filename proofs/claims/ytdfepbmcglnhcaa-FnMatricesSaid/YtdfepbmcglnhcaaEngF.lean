import Derived.Test.YtdfepbmcglnhcaaEngE
/-! Soundness, 3: reading, and the plain operations. -/
set_option linter.unusedSimpArgs false
set_option linter.unusedVariables false
namespace Go.Eng
open Go
variable {P : Program} {Φ : List It → St → Prop}

def Sat (P : Program) (Φ : List It → St → Prop) : Ask → Prop
  | .br c b => c = b
  | .num n m => n = m
  | .nz y => y ≠ 0
  | .le a b => a ≤ b
  | .ib i s => 0 ≤ i ∧ i < (s : Int)
  | .el i L cs => 0 ≤ i ∧ L[i.toNat]? = some cs
  | .upd n n' L i cs L' => L.set i cs = L' ∧ n = n'
  | .cat n k L M L' => L ++ M = L' ∧ n = k
  | .call f as pre post r => Fn P f as pre post r
  | .seg L L' lo hi n n' => 0 ≤ lo ∧ lo ≤ hi ∧ hi ≤ n ∧ (L.take hi.toNat).drop lo.toNat = L' ∧ L'.length = n'
  | .b3 lo hi n => 0 ≤ lo ∧ lo ≤ hi ∧ hi ≤ n
  | .sx i s b => 0 ≤ i ∧ s[i.toNat]? = some b
  | .mks n m k z L => n = (k : Int) ∧ m = (k : Int) ∧ List.replicate k z = L
  | .str L s => L = s.data.toList.map fun c => [.v (.int .u8 (c.toNat : Int))]
  | .adj => True
  | .unroll => True
  | .fin items S => Φ items S
  | .ret _ _ => True

theorem Ora.sat (o : Ora P Φ) : Sat P Φ o.ask := by
  cases o <;> simp only [Ora.ask, Sat] <;> first | assumption | trivial

theorem go_bind {α β : Type} {S : St} (m : RD P Φ α) (f : α → RD P Φ β) : ∀ {os : List (Ora P Φ)} {b R D os'}, (m.bind f).go S os = some (b, R, D, os') →
    ∃ a R1 D1 os1 R2 D2, m.go S os = some (a, R1, D1, os1) ∧ (f a).go S os1 = some (b, R2, D2, os') ∧ R = R1 ++ R2 ∧ D = D1 ++ D2 := by
  induction m with
  | ret a => intro os b R D os' h; exact ⟨a, [], [], os, R, D, rfl, h, rfl, rfl⟩
  | slot t k ih =>
    intro os b R D os' h
    simp only [RD.bind, RD.go] at h
    split at h
    · rename_i b1 R1 D1 os1 h1
      obtain ⟨a, Ra, Da, osa, Rb, Db, h2, h3, h4, h5⟩ := ih _ h1
      cases h
      exact ⟨a, .sl t :: Ra, Da, osa, Rb, Db, by simp only [RD.go, h2], h3, by rw [h4]; rfl, h5⟩
    · cases h
  | obj o k ih =>
    intro os b R D os' h
    simp only [RD.bind, RD.go] at h
    split at h
    · rename_i x hx
      split at h
      · rename_i b1 R1 D1 os1 h1
        obtain ⟨a, Ra, Da, osa, Rb, Db, h2, h3, h4, h5⟩ := ih _ h1
        cases h
        exact ⟨a, .ob o :: Ra, Da, osa, Rb, Db, by simp only [RD.go, hx, h2], h3, by rw [h4]; rfl, h5⟩
      · cases h
    · cases h
  | peek k ih =>
    intro os b R D os' h
    cases os with
    | nil => simp [RD.bind, RD.go] at h
    | cons o os =>
      simp only [RD.bind, RD.go] at h
      obtain ⟨a, Ra, Da, osa, Rb, Db, h2, h3, h4, h5⟩ := ih _ h
      exact ⟨a, Ra, Da, osa, Rb, Db, by simp only [RD.go, h2], h3, h4, h5⟩
  | req d k ih =>
    intro os b R D os' h
    cases os with
    | nil => simp [RD.bind, RD.go] at h
    | cons o os =>
      simp only [RD.bind, RD.go] at h
      split at h
      · rename_i b1 R1 D1 os1 h1
        obtain ⟨a, Ra, Da, osa, Rb, Db, h2, h3, h4, h5⟩ := ih h1
        cases h
        exact ⟨a, Ra, d :: Da, osa, Rb, Db, by simp only [RD.go, h2], h3, h4, by rw [h5]; rfl⟩
      · cases h
  | fail => intro os b R D os' h; simp [RD.bind, RD.go] at h

theorem go_ret {α : Type} {S : St} {a b : α} {os os' : List (Ora P Φ)} {R D} (h : (RD.ret a : RD P Φ α).go S os = some (b, R, D, os')) : b = a ∧ R = [] ∧ D = [] ∧ os' = os := by
  simp only [RD.go] at h; cases h; exact ⟨rfl, rfl, rfl, rfl⟩

theorem go_ofO {α : Type} {S : St} {a : Option α} {b : α} {os os' : List (Ora P Φ)} {R D} (h : (ofO a : RD P Φ α).go S os = some (b, R, D, os')) : a = some b ∧ D = [] := by
  cases a with
  | none => simp [ofO, RD.go] at h
  | some a => obtain ⟨rfl, _, rfl, _⟩ := go_ret h; exact ⟨rfl, rfl⟩

/-! constants -/
theorem rv0_ofV0 (E : Env) (x : Value) : RV0 E (ofV0 x) x := by
  unfold ofV0
  split <;> simp [RV0]

theorem rv_ofV (E : Env) (x : Value) (h : okV x = true) : RV E (ofV x) x := by
  cases x with
  | agg cs =>
    simp only [ofV, RV, RV1]
    refine ⟨cs.toList, by simp, by simp, fun j hj => ?_⟩
    simp at hj
    have h1 : (List.map ofV0 cs.toList).getD j .un = ofV0 cs[j] := by simp [List.getD_eq_getElem?_getD, hj]
    have h2 : cs.toList.getD j undef' = cs[j] := by simp [List.getD_eq_getElem?_getD, hj]
    rw [h1, h2]
    refine ⟨rv0_ofV0 E _, ?_⟩
    simp only [okV, List.all_eq_true] at h
    exact h _ (by simp)
  | bool b => simp [ofV, ofV0, RV, RV1, RV0]
  | slice a n c => cases a <;> cases n <;> cases c <;> simp [ofV, ofV0, RV, RV1, RV0]
  | _ => simp [ofV, ofV0, RV, RV1, RV0]

theorem refs_ofV (x : Value) : refs (ofV x) = [] := by
  cases x with
  | agg cs =>
    simp only [ofV, refs, refs1, List.flatMap_eq_nil_iff, List.mem_map]
    rintro _ ⟨y, _, rfl⟩
    unfold ofV0; split <;> rfl
  | bool b => rfl
  | slice a n c => cases a <;> cases n <;> cases c <;> rfl
  | _ => rfl

theorem eval_tmp (a : Act) (t : Nat) : a.eval (.tmp t) = a.tmps.getD t undef' := rfl

theorem opd_ok {A : Amb} {S : St} {a : Act} {w : World} {bo : Nat → Option Nat} {σ : Nat → Value} {kl : List Nat} (hR : Rel A S a.tmps w bo σ kl) {x : Operand} {d : DV} {os os' : List (Ora P Φ)} {R D}
    (h : (opd x : RD P Φ DV).go S os = some (d, R, D, os')) : RV (A.env S w bo σ) d (a.eval x) ∧ D = [] ∧ os' = os ∧ (∀ o ∈ refs d, o ∈ kl) := by
  cases x with
  | tmp t =>
    simp only [opd, RD.go] at h
    cases h
    exact ⟨hR.sl t, rfl, rfl, fun o ho => hR.rfs t o ho⟩
  | const v =>
    simp only [opd] at h
    split at h
    · rename_i hv
      obtain ⟨rfl, _, rfl, rfl⟩ := go_ret h
      exact ⟨rv_ofV _ v hv, rfl, rfl, fun o ho => by rw [refs_ofV] at ho; cases ho⟩
    · simp [RD.go] at h
  | global g =>
    obtain ⟨rfl, _, rfl, rfl⟩ := go_ret h
    exact ⟨by simp [RV, RV1, RV0, Act.eval], rfl, rfl, fun o ho => by simp [refs, refs1, refs0] at ho⟩
  | func f =>
    obtain ⟨rfl, _, rfl, rfl⟩ := go_ret h
    exact ⟨by simp [RV, RV1, RV0, Act.eval], rfl, rfl, fun o ho => by simp [refs, refs1, refs0] at ho⟩

theorem opds_ok {A : Amb} {S : St} {a : Act} {w : World} {bo : Nat → Option Nat} {σ : Nat → Value} {kl : List Nat} (hR : Rel A S a.tmps w bo σ kl) : ∀ {xs : List Operand} {ds : List DV} {os os' : List (Ora P Φ)} {R D},
    (opds xs : RD P Φ (List DV)).go S os = some (ds, R, D, os') → ds.length = xs.length ∧ D = [] ∧ os' = os ∧ (∀ j, j < xs.length → RV (A.env S w bo σ) (ds.getD j .un) ((xs.map a.eval).getD j undef')) ∧ (∀ d ∈ ds, ∀ o ∈ refs d, o ∈ kl)
  | [], ds, os, os', R, D, h => by
    obtain ⟨rfl, _, rfl, rfl⟩ := go_ret h
    exact ⟨rfl, rfl, rfl, fun j hj => by simp at hj, fun d hd => by cases hd⟩
  | x :: xs, ds, os, os', R, D, h => by
    simp only [opds] at h
    obtain ⟨d, R1, D1, os1, R2, D2, h1, h2, rfl, rfl⟩ := go_bind _ _ h
    obtain ⟨ds', R3, D3, os3, R4, D4, h3, h4, rfl, rfl⟩ := go_bind _ _ h2
    obtain ⟨k1, rfl, rfl, k2⟩ := opd_ok hR h1
    obtain ⟨k3, rfl, rfl, k4, k5⟩ := opds_ok hR h3
    obtain ⟨rfl, _, rfl, rfl⟩ := go_ret h4
    refine ⟨by simp [k3], rfl, rfl, fun j hj => ?_, fun e he => ?_⟩
    · cases j with
      | zero => simpa using k1
      | succ j => simpa using k4 j (by simpa using hj)
    · rcases List.mem_cons.1 he with rfl | he
      · exact k2
      · exact k5 e he

theorem wp_value {o : Oper} {a : Act} {w w' : World} {v : Value} {K : Act → World → Prop} {Q : Exit → Act → World → Prop} (hr : (execOp a.eval o).run P w = .ok (.value v) w') (hK : K (a.put o.dst v) w') : o.wp P a w K Q := by
  unfold Oper.wp; rw [hr]; exact hK

theorem wp_skipv {o : Oper} {a : Act} {w w' : World} {K : Act → World → Prop} {Q : Exit → Act → World → Prop} (hr : (execOp a.eval o).run P w = .ok .skip w') (hK : K (a.put o.dst undef) w') : o.wp P a w K Q := by
  unfold Oper.wp; rw [hr]; exact hK

theorem put_tmps (a : Act) (dst : Option Nat) (v : Value) : (a.put dst v).tmps = putT a.tmps dst v := by cases dst <;> rfl

/-- what is shown of one operation -/
def OpOk (P : Program) (A : Amb) (o : Oper) (S : St) (u : Upd) (kl : List Nat) : Prop :=
  ∀ (a : Act) (w : World) (bo : Nat → Option Nat) (σ : Nat → Value), Rel A S a.tmps w bo σ kl → (∀ n ∈ u.new, n ∉ kl) →
    ∀ (K : Act → World → Prop) (Q : Exit → Act → World → Prop),
      (∀ v w' bo' σ', Rel A (S.app u) (putT a.tmps o.dst v) w' bo' σ' (u.new ++ kl) → K (a.put o.dst v) w') → o.wp P a w K Q

/-- a value, the world as it was -/
theorem OpOk.val {A : Amb} {o : Oper} {S : St} {kl : List Nat} {d : DV} (h : ∀ (a : Act) (w : World) (bo : Nat → Option Nat) (σ : Nat → Value), Rel A S a.tmps w bo σ kl →
    ∃ v, (execOp a.eval o).run P w = .ok (.value v) w ∧ RV (A.env S w bo σ) d v ∧ ∀ p ∈ refs d, p ∈ kl) : OpOk P A o S (one o.dst d) kl := by
  intro a w bo σ hR _ K Q hK
  obtain ⟨v, h1, h2, h3⟩ := h a w bo σ hR
  exact wp_value h1 (hK v w bo σ (hR.set o.dst d v (Keep.refl _ _) h2 h3))

theorem move_ok {A : Amb} {o : Oper} {S : St} {kl : List Nat} {x : Operand} (ho : o.op = .move x ∨ o.op = .assign x) {u : Upd} {os os' : List (Ora P Φ)} {R D}
    (h : (ofDst o.dst (opd x) : RD P Φ Upd).go S os = some (u, R, D, os')) : OpOk P A o S u kl := by
  obtain ⟨d, R1, D1, os1, R2, D2, h1, h2, rfl, rfl⟩ := go_bind _ _ h
  obtain ⟨rfl, _, rfl, rfl⟩ := go_ret h2
  refine OpOk.val fun a w bo σ hR => ?_
  obtain ⟨k1, _, _, k2⟩ := opd_ok hR h1
  refine ⟨a.eval x, ?_, k1, k2⟩
  rcases ho with ho | ho <;> simp [execOp, ho, Sem.run, pure]

/-! plain operations -/
theorem evP_run {α : Type} (s : Sem α) {a : α} (h : evP P s = some a) : ∀ w, s.run P w = .ok a w := by
  induction s with
  | pure b => intro w; simp only [evP] at h; cases h; rfl
  | program k ih => intro w; simp only [evP] at h; simp only [Sem.run]; exact ih P h w
  | mark m k ih => intro w; simp only [evP] at h; simp only [Sem.run]; exact ih h w
  | _ => simp [evP] at h

theorem toV0_ok {E : Env} {d : DV} {x y : Value} (h : toV0 d = some y) (hr : RV0 E d x) : x = y := by
  cases d <;> simp [toV0] at h <;> simp only [RV0] at hr <;> (subst h; exact hr)

theorem toVs_ok {E : Env} : ∀ {cs : List DV} {ys : List Value}, toVs cs = some ys → ∀ {vs : List Value}, vs.length = cs.length → (∀ j, j < cs.length → RV0 E (cs.getD j .un) (vs.getD j undef')) → vs = ys
  | [], ys, h, vs, hl, _ => by simp [toVs] at h; subst h; exact List.eq_nil_of_length_eq_zero hl
  | d :: cs, ys, h, vs, hl, hr => by
    simp only [toVs] at h
    split at h
    · rename_i x xs h1 h2
      cases h
      cases vs with
      | nil => simp at hl
      | cons v vs =>
        have e1 := toV0_ok h1 (by simpa using hr 0 (by simp))
        have e2 := toVs_ok h2 (vs := vs) (by simpa using hl) (fun j hj => by simpa using hr (j + 1) (by simpa using hj))
        rw [e1, e2]
    · cases h

theorem toV_ok {E : Env} {d : DV} {x y : Value} (h : toV d = some y) (hr : RV E d x) : x = y := by
  cases d with
  | ag cs =>
    simp only [toV] at h
    split at h
    · rename_i l hl
      cases h
      obtain ⟨vs, rfl, h2, h3⟩ := hr
      rw [toVs_ok hl h2 fun j hj => (h3 j hj).1]
    · cases h
  | tu vs => simp [toV, toV0] at h
  | _ =>
    simp only [toV] at h
    simp only [RV, RV1] at hr
    exact toV0_ok h hr

theorem rv_ofR (E : Env) (v : Value) (h : okV v = true) : RV E (ofR v) v := by
  cases v with
  | agg cs =>
    simp only [ofR, RV, RV1]
    refine ⟨cs.toList, by simp, by simp, fun j hj => ?_⟩
    simp at hj
    have h1 : (List.map DV.v cs.toList).getD j .un = .v cs[j] := by simp [List.getD_eq_getElem?_getD, hj]
    have h2 : cs.toList.getD j undef' = cs[j] := by simp [List.getD_eq_getElem?_getD, hj]
    rw [h1, h2]
    refine ⟨rfl, ?_⟩
    simp only [okV, List.all_eq_true] at h
    exact h _ (by simp)
  | _ => simp [ofR, RV, RV1, RV0]

theorem refs_ofR (v : Value) : refs (ofR v) = [] := by
  cases v with
  | agg cs =>
    simp only [ofR, refs, refs1, List.flatMap_eq_nil_iff, List.mem_map]
    rintro _ ⟨y, _, rfl⟩; rfl
  | _ => rfl

end Go.Eng
