import Derived.Test.YtdfepbmcglnhcaaEngS
set_option linter.unusedSimpArgs false
set_option linter.unusedVariables false
/-! Soundness, 17: control, and what a run shows. -/
namespace Go.Eng
open Go
variable {P : Program}

def It.item : It → Item
  | .code c => .code c
  | .endb id => .inBlock id
  | .lp c => .inLoop c

/-- what holds when the function returns -/
def Left (A : Amb) (post : Obs) (r : DV) (x : Value) (w' : World) : Prop :=
  ∃ bo' σ', Keep A.w0 w' A.X ∧ RV ⟨w', bo', σ', okAfter A.w0 w' A.ok A.bo A.pre bo' post⟩ r x ∧ (∀ p ∈ post, ObOk ⟨w', bo', σ', okAfter A.w0 w' A.ok A.bo A.pre bo' post⟩ p.1 p.2) ∧
    (∀ p ∈ post, ∀ b, bo' p.1 = some b → b < w'.heap.size ∧ (b < A.w0.heap.size → ∃ q ∈ A.pre, A.bo q.1 = some b)) ∧
    (∀ p ∈ post, ∀ q ∈ post, ∀ b, bo' p.1 = some b → bo' q.1 = some b → p.1 = q.1) ∧ (∀ p ∈ A.pre, bo' p.1 = A.bo p.1 ∧ σ' p.1 = A.σ p.1)

/-- from here the function returns -/
def Runs (P : Program) (f : Nat) (R : Value → World → Prop) (its : List It) (a : Act) (w : World) : Prop :=
  ∀ (b : Frame) (cs : List Frame), b.fn = f → b.kind = .normal → ∃ x w' fr, R x w' ∧ Steps P (lone (b.at a (its.map It.item)) cs w) (lone fr cs w') ∧ fr.fn = f ∧ fr.leaving P w' (.returned x)

/-- from here, in this state, the function returns this -/
def Fin (P : Program) (f : Nat) (pre post : Obs) (r : DV) (its : List It) (S : St) : Prop :=
  ∀ A : Amb, A.pre = pre → ∀ (a : Act) (w : World) (bo : Nat → Option Nat) (σ : Nat → Value) (kl : List Nat), Rel A S a.tmps w bo σ kl → a.defers = [] → Runs P f (Left A post r) its a w

section
variable {f : Nat} {R : Value → World → Prop} {its its' : List It} {a a' : Act} {w w' : World}

theorem Runs.head (h : Runs P f R its' a' w') (hs : ∀ (b : Frame) (cs : List Frame), step P (lone (b.at a (its.map It.item)) cs w) = .next (lone (b.at a' (its'.map It.item)) cs w')) : Runs P f R its a w := by
  intro b cs hb hk
  obtain ⟨x, w2, fr, h1, h2, h3⟩ := h b cs hb hk
  exact ⟨x, w2, fr, h1, .head (hs b cs) h2, h3⟩

theorem Runs.wp {c : Code} {k : List It} (h : c.wp P (fun e a' w' => e = .normal ∧ Runs P f R k a' w') a w) : Runs P f R (.code c :: k) a w := by
  intro b cs hb hk
  obtain ⟨e, a', w', ⟨rfl, hq⟩, harr⟩ := h b (k.map It.item) cs
  obtain ⟨x, w2, fr, h1, h2, h3⟩ := hq b cs hb hk
  exact ⟨x, w2, fr, h1, Steps.trans harr h2, h3⟩

/-- the loop's head, met again -/
theorem Runs.again {c : Code} {k : List It} (h : Runs P f R (.code (.loop c) :: k) a w) : Runs P f R (.lp c :: k) a w := by
  intro b cs hb hk
  obtain ⟨x, w2, fr, h1, ⟨n, h2⟩, h3⟩ := h b cs hb hk
  refine ⟨x, w2, fr, h1, ?_, h3⟩
  have e1 : step P (lone (b.at a ((It.code (.loop c) :: k).map It.item)) cs w) = .next (lone (b.at a (.code c :: .inLoop c :: k.map It.item)) cs w) := step_loop
  have e2 : step P (lone (b.at a ((It.lp c :: k).map It.item)) cs w) = .next (lone (b.at a (.code c :: .inLoop c :: k.map It.item)) cs w) := step_inLoop
  cases n with
  | zero =>
    exfalso
    simp only [runN] at h2
    have h4 : lone (b.at a ((It.code (.loop c) :: k).map It.item)) cs w = lone fr cs w2 := by injection h2
    have h5 : b.at a ((It.code (.loop c) :: k).map It.item) = fr := by
      have := congrArg (fun m => m.gs[0]?.map (·.frame)) h4
      simpa [lone] using this
    have h6 := h3.2.1
    rw [← h5] at h6
    simp [Frame.at] at h6
  | succ n =>
    simp only [runN, e1] at h2
    exact ⟨n + 1, by simp only [runN, e2]; exact h2⟩

theorem popTo_item {id : Nat} : ∀ {k k' : List It}, popTo id k = some k' → exitTo id (k.map It.item) = some (k'.map It.item)
  | .endb id' :: k, k', h => by
    simp only [popTo] at h
    simp only [List.map_cons, It.item, exitTo]
    split at h
    · rename_i hh; cases h; rw [if_pos hh]
    · rename_i hh; rw [if_neg hh]; exact popTo_item h
  | .code c :: k, k', h => by
    simp only [popTo] at h
    simp only [List.map_cons, It.item, exitTo]
    exact popTo_item h
  | .lp c :: k, k', h => by
    simp only [popTo] at h
    simp only [List.map_cons, It.item, exitTo]
    exact popTo_item h
  | [], k', h => by simp [popTo] at h
end

/-! results -/
theorem addr_run {x : Value} {ad : Addr} (h : x = .pointer (some ad)) (w : World) : (asAddr x).run P w = .ok ad w := by subst h; rfl

def resS (tmps : Array Value) : ResultVar → Sem Value
  | .tmp t => pure (tmps.getD t undef)
  | .cell a t => do loadVar t (← asAddr (tmps.getD a undef))

theorem nrm0_ok {E : Env} {d : DV} {x : Value} (h : RV0 E d x) : RV0 E (nrm0 d) x := by cases d <;> exact h
theorem nrm0_refs (d : DV) : refs0 (nrm0 d) = refs0 d := by cases d <;> rfl
theorem nrm1_ok {E : Env} {d : DV} {x : Value} (h : RV1 E d x) : RV1 E (nrm1 d) x := by
  cases d with
  | ag cs =>
    obtain ⟨vs, rfl, h2, h3⟩ := h
    refine ⟨vs, rfl, by simpa using h2, fun j hj => ?_⟩
    rw [List.length_map] at hj
    rw [getD_map0 cs j _ hj]
    exact ⟨nrm0_ok (h3 j hj).1, (h3 j hj).2⟩
  | _ => exact h
theorem nrm1_refs (d : DV) : refs1 (nrm1 d) = refs1 d := by
  cases d with
  | ag cs => simp only [nrm1, refs1, List.flatMap_map, nrm0_refs]
  | _ => rfl
theorem nrmO_ok {E : Env} {o : Nat} {x : Ob} (h : ObOk E o x) : ObOk E o (nrmO x) := by
  cases x with
  | box cs =>
    obtain ⟨b, T, vs, g1, g2, g3, g4⟩ := h
    refine ⟨b, T, vs, g1, g2, by simpa using g3, fun j hj => ?_⟩
    rw [List.length_map] at hj
    rw [getD_map0 cs j _ hj]
    exact ⟨nrm0_ok (g4 j hj).1, (g4 j hj).2⟩
  | row => exact h

theorem resD_ok {A : Amb} {S : St} {tm : Array Value} {w : World} {bo : Nat → Option Nat} {σ : Nat → Value} {kl : List Nat} (hR : Rel A S tm w bo σ kl) {x : ResultVar} {d : DV} (h : resD P S x = some d) :
    ∃ v, (resS tm x).run P w = .ok v w ∧ RV1 (A.env S w bo σ) d v ∧ ∀ o ∈ refs1 d, o ∈ kl := by
  unfold resD at h
  split at h
  · rename_i t
    split at h
    · cases h
    · rename_i hn
      cases h
      have h1 := hR.sl t
      have h2 := hR.rfs t
      refine ⟨tm.getD t undef', rfl, nrm1_ok ?_, ?_⟩
      · generalize hd : S.slot t = d at h1 hn
        cases d with
        | tu ds => exact absurd rfl (hn ds)
        | _ => exact h1
      · rw [nrm1_refs]
        generalize hd : S.slot t = d at h2 hn
        cases d with
        | tu ds => exact absurd rfl (hn ds)
        | _ => exact h2
  · rename_i s T
    split at h
    · rename_i o off hs
      split at h
      · rename_i cs hx
        have h1 := hR.sl s
        rw [hs] at h1
        obtain ⟨b, g5, g6⟩ := h1
        obtain ⟨b', T', vs, g1, g2, g3, g4⟩ := hR.ob o _ hx
        have hb : b = b' := Option.some.inj (g5.symm.trans g1)
        subst hb
        cases hpk : pickC P T cs off with
        | none => rw [hpk] at h; cases h
        | some d0 =>
        rw [hpk] at h
        cases h
        have h := hpk
        obtain ⟨v, r1, r2, r3⟩ := run_pick (P := P) (E := A.env S w bo σ) h ⟨b, 0, none⟩ (fun j => vs.getD j undef') (fun j hj => by
          rw [add_mk, Nat.zero_add]
          exact ⟨cell_of_heap g2 j (by omega), (g4 j hj).1, (g4 j hj).2⟩)
        rw [add_mk, Nat.zero_add] at r1
        refine ⟨v, ?_, ?_, fun q hq => ?_⟩
        · simp only [resS, Sem.run_bind]
          rw [addr_run (by exact g6)]
          exact r1
        · refine nrm1_ok ?_
          unfold pickC at h
          split at h
          · split at h
            · split at h
              · cases h; exact r2
              · have hd : d0 ∈ cs := List.mem_of_getElem? h
                cases d0 with
                | tu ds =>
                  obtain ⟨j, hj, he⟩ := List.getElem_of_mem hd
                  have := (g4 j hj).1
                  have e : cs.getD j .un = .tu ds := by simp [List.getD_eq_getElem?_getD, hj, he]
                  rw [e] at this
                  exact this.elim
                | _ => exact r2
            · cases h
          · cases h
        · rw [nrm1_refs] at hq
          have hq' : q ∈ refs d0 := by
            cases d0 with
            | tu ds => simp [refs1, refs0] at hq
            | _ => exact hq
          obtain ⟨e, he, hqe⟩ := r3 q hq'
          exact (hR.orf o _ hx).2 q (by simp only [orefs, List.mem_flatMap]; exact ⟨e, he, hqe⟩)
      · cases h
    · cases h

theorem resDs_ok {A : Amb} {S : St} {tm : Array Value} {w : World} {bo : Nat → Option Nat} {σ : Nat → Value} {kl : List Nat} (hR : Rel A S tm w bo σ kl) : ∀ {xs : List ResultVar} {ds : List DV}, resDs P S xs = some ds →
    ∃ vs : List Value, (xs.mapM (resS tm)).run P w = .ok vs w ∧ vs.length = ds.length ∧ ∀ j, j < ds.length → RV1 (A.env S w bo σ) (ds.getD j .un) (vs.getD j undef') ∧ ∀ o ∈ refs1 (ds.getD j .un), o ∈ kl
  | [], ds, h => by simp [resDs] at h; subst h; exact ⟨[], by simp, rfl, fun j hj => by simp at hj⟩
  | x :: xs, ds, h => by
    simp only [resDs] at h
    split at h
    · rename_i d ds' h1 h2
      cases h
      obtain ⟨v, r1, r2, r3⟩ := resD_ok hR h1
      obtain ⟨vs, q1, q2, q3⟩ := resDs_ok hR h2
      refine ⟨v :: vs, ?_, by simp [q2], fun j hj => ?_⟩
      · simp only [List.mapM_cons, Sem.run_bind, r1, Result.andThen_ok, q1, Sem.run_pure]
      · cases j with
        | zero => exact ⟨by simpa using r2, by simpa using r3⟩
        | succ j => simpa using q3 j (by simpa using hj)
    · cases h

theorem result_ok {A : Amb} {S : St} {tm : Array Value} {w : World} {bo : Nat → Option Nat} {σ : Nat → Value} {kl : List Nat} (hR : Rel A S tm w bo σ kl) {fn : Func} {r : DV} (h : result P fn S = some r) :
    ∃ v, (results fn tm).run P w = .ok v w ∧ RV (A.env S w bo σ) r v ∧ ∀ o ∈ refs r, o ∈ kl := by
  unfold result at h
  have hres : ∀ (vs : List Value), (fn.results.toList.mapM (resS tm)).run P w = .ok vs w → (results fn tm).run P w = .ok (if h : vs.toArray.size = 1 then vs.toArray[0] else .tuple vs.toArray) w := by
    intro vs hvs
    have e : results fn tm = (do
        let vs ← fn.results.mapM (resS tm)
        pure (if h : vs.size = 1 then vs[0] else .tuple vs)) := by
      unfold results
      congr 1
    rw [e]
    have e2 : (fn.results.mapM (resS tm)).run P w = .ok vs.toArray w := by
      rw [Array.mapM_eq_mapM_toList]
      simp [hvs]
    simp only [Sem.run_bind, e2, Result.andThen_ok, Sem.run_pure]
  split at h
  · rename_i d hd
    cases h
    obtain ⟨vs, q1, q2, q3⟩ := resDs_ok hR hd
    have : vs.length = 1 := q2
    obtain ⟨v, rfl⟩ : ∃ v, vs = [v] := List.length_eq_one_iff.1 this
    have := q3 0 (by simp)
    refine ⟨v, by rw [hres _ q1]; simp, ?_, ?_⟩
    · have h1 : RV1 (A.env S w bo σ) r v := by simpa using this.1
      cases r with
      | tu ds => exact h1.elim
      | _ => exact h1
    · have h1 : ∀ o ∈ refs1 r, o ∈ kl := by simpa using this.2
      have h2 : RV1 (A.env S w bo σ) r v := by simpa using (q3 0 (by simp)).1
      cases r with
      | tu ds => exact h2.elim
      | _ => exact h1
  · rename_i ds hn hd
    cases h
    obtain ⟨vs, q1, q2, q3⟩ := resDs_ok hR hd
    have hne : vs.toArray.size ≠ 1 := by
      intro e
      have e1 : ds.length = 1 := by rw [← q2]; simpa using e
      obtain ⟨d, rfl⟩ := List.length_eq_one_iff.1 e1
      exact hn d rfl
    refine ⟨.tuple vs.toArray, by rw [hres _ q1, dif_neg hne], ⟨vs, rfl, q2, fun j hj => (q3 j hj).1⟩, fun o ho => ?_⟩
    simp only [refs, List.mem_flatMap] at ho
    obtain ⟨d, hd, ho⟩ := ho
    obtain ⟨j, hj, rfl⟩ := List.getElem_of_mem hd
    have := (q3 j hj).2 o
    have e : ds.getD j .un = ds[j] := by simp [List.getD_eq_getElem?_getD, hj]
    rw [e] at this
    exact this ho
  · cases h

theorem end_ok {f : Nat} {fn : Func} (hf : P.funcs[f]? = some fn) {A : Amb} {S : St} {a : Act} {w : World} {bo : Nat → Option Nat} {σ : Nat → Value} {kl : List Nat} (hR : Rel A S a.tmps w bo σ kl) (hd : a.defers = []) {po : List Nat} {r : DV} {post : Obs}
    (h : result P fn S = some r) (hp : post = po.filterMap fun o => (S.obj o).map fun x => (o, nrmO x)) : ∃ x, (results fn a.tmps).run P w = .ok x w ∧ Left A post r x w := by
  obtain ⟨x, h1, h2, h3⟩ := result_ok hR h
  have hpo : ∀ p ∈ post, ∃ y, S.obj p.1 = some y ∧ p.2 = nrmO y := by
    intro p hp'
    rw [hp, List.mem_filterMap] at hp'
    obtain ⟨o, -, ho⟩ := hp'
    cases hx : S.obj o with
    | none => rw [hx] at ho; cases ho
    | some y => rw [hx] at ho; cases ho; exact ⟨y, hx, rfl⟩
  have hmono : ∀ k, (A.env S w bo σ).ok k → okAfter A.w0 w A.ok A.bo A.pre bo post k ∧ w.heap[k]? = w.heap[k]? := fun k hk => ⟨⟨hk.1, hk.2.1, fun p hp' => by obtain ⟨y, hy, -⟩ := hpo p hp'; exact hk.2.2 p.1 y hy⟩, rfl⟩
  refine ⟨x, h1, bo, σ, hR.keep, h2.mono hmono fun _ _ => ⟨rfl, rfl⟩, fun p hp' => ?_, fun p hp' b hb => ?_, fun p hp' q hq b hb hb' => ?_, hR.pre⟩
  · obtain ⟨y, hy, e⟩ := hpo p hp'
    rw [e]
    exact nrmO_ok ((hR.ob p.1 y hy).mono hmono (fun _ _ => rfl) ⟨rfl, rfl⟩ fun _ _ => ⟨rfl, rfl⟩)
  · obtain ⟨y, hy, -⟩ := hpo p hp'
    exact hR.live p.1 y b hy hb
  · obtain ⟨y, hy, -⟩ := hpo p hp'
    obtain ⟨z, hz, -⟩ := hpo q hq
    exact hR.inj p.1 q.1 y z b hy hz hb hb'

/-! the state, told by other names -/
theorem ren0_ok {E E' : Env} {to : List (Nat × Nat)} (hw : E'.w = E.w) (hok : ∀ k, E.ok k → E'.ok k) (hb : ∀ p ∈ to, E'.bo p.2 = E.bo p.1 ∧ E'.σ p.2 = E.σ p.1) {d : DV} {x : Value} (h : RV0 E d x) : RV0 E' (ren0 to d) x := by
  cases d with
  | ow o =>
    simp only [ren0]
    split
    · rename_i k hk
      obtain ⟨h1, h2⟩ := h
      exact ⟨by rw [(hb _ (fwd_mem hk)).2]; exact h1, h2⟩
    · trivial
  | bx o off =>
    simp only [ren0]
    split
    · rename_i k hk
      obtain ⟨b, h1, h2⟩ := h
      exact ⟨b, by rw [(hb _ (fwd_mem hk)).1]; exact h1, h2⟩
    · trivial
  | pw => trivial
  | cl f cs =>
    simp only [ren0]
    split
    · rename_i r hr
      obtain ⟨k1, k2⟩ := mapC_spec hr
      obtain ⟨vs, h1, h2, h3⟩ := h
      refine ⟨vs, h1, by rw [h2, k1], fun j hj => ?_⟩
      rw [k1] at hj
      obtain ⟨b, h4, h5⟩ := h3 j hj
      obtain ⟨k3, k4⟩ := k2 j hj
      exact ⟨b, by rw [(hb _ (fwd_mem k3)).1]; exact h4, by rw [k4]; exact h5⟩
    · trivial
  | ro fl esz n L => exact RP.mono h fun k hk => ⟨hok k hk, by rw [hw]⟩
  | pe cs off =>
    obtain ⟨a0, h1, h2, h3⟩ := h
    refine ⟨a0, hok _ h1, h2, fun j hj => ?_⟩
    obtain ⟨y, h4, h5, h6⟩ := h3 j hj
    exact ⟨y, by rw [hw]; exact h4, h5, h6.mono fun k hk => ⟨hok k hk, by rw [hw]⟩⟩
  | un => trivial
  | v y => exact h
  | lb b => exact h
  | nl => exact h
  | ag cs => exact h.elim
  | tu vs => exact h.elim

theorem ren0_refs {to : List (Nat × Nat)} {d : DV} : ∀ o ∈ refs0 (ren0 to d), o ∈ to.map (·.2) := by
  intro o ho
  cases d with
  | ow k =>
    simp only [ren0] at ho
    split at ho
    · rename_i o' h'
      simp [refs0] at ho; subst ho; exact List.mem_map.2 ⟨_, fwd_mem h', rfl⟩
    · simp [refs0] at ho
  | bx k off =>
    simp only [ren0] at ho
    split at ho
    · rename_i o' h'
      simp [refs0] at ho; subst ho; exact List.mem_map.2 ⟨_, fwd_mem h', rfl⟩
    · simp [refs0] at ho
  | cl f cs =>
    simp only [ren0] at ho
    split at ho
    · rename_i r hr
      obtain ⟨k1, k2⟩ := mapC_spec hr
      simp only [refs0, List.mem_map] at ho
      obtain ⟨q, hq, rfl⟩ := ho
      obtain ⟨j, hj, rfl⟩ := List.getElem_of_mem hq
      have := (k2 j (by omega)).1
      have e : r.getD j (0, 0) = r[j] := by simp [List.getD_eq_getElem?_getD, hj]
      rw [e] at this
      exact List.mem_map.2 ⟨_, fwd_mem this, rfl⟩
    · simp [refs0] at ho
  | _ => simp [ren0, refs0] at ho

theorem ren1_ok {E E' : Env} {to : List (Nat × Nat)} (hw : E'.w = E.w) (hok : ∀ k, E.ok k → E'.ok k) (hb : ∀ p ∈ to, E'.bo p.2 = E.bo p.1 ∧ E'.σ p.2 = E.σ p.1) {d : DV} {x : Value} (h : RV E d x) : RV E' (ren1 to d) x := by
  cases d with
  | ag cs =>
    obtain ⟨vs, rfl, h2, h3⟩ := h
    refine ⟨vs, rfl, by simpa using h2, fun j hj => ?_⟩
    rw [List.length_map] at hj
    rw [getD_map0 cs j _ hj]
    exact ⟨ren0_ok hw hok hb (h3 j hj).1, (h3 j hj).2⟩
  | tu ds => trivial
  | ow k =>
    have := ren0_ok (d := .ow k) hw hok hb h
    simp only [ren1, ren0] at this ⊢
    split <;> rename_i hh <;> simp only [hh] at this <;> exact this
  | bx k off =>
    have := ren0_ok (d := .bx k off) hw hok hb h
    simp only [ren1, ren0] at this ⊢
    split <;> rename_i hh <;> simp only [hh] at this <;> exact this
  | un => trivial
  | v y => exact ren0_ok (d := .v y) hw hok hb h
  | lb y => exact ren0_ok (d := .lb y) hw hok hb h
  | nl => exact ren0_ok (d := .nl) hw hok hb h
  | pw o i e f => trivial
  | ro f e n L => exact ren0_ok (d := .ro f e n L) hw hok hb h
  | pe cs f => exact ren0_ok (d := .pe cs f) hw hok hb h
  | cl f cs =>
    have := ren0_ok (d := .cl f cs) hw hok hb h
    simp only [ren1, ren0] at this ⊢
    split <;> rename_i hh <;> simp only [hh] at this <;> exact this

theorem ren1_refs {to : List (Nat × Nat)} {d : DV} : ∀ o ∈ refs (ren1 to d), o ∈ to.map (·.2) := by
  intro o ho
  cases d with
  | ag cs =>
    simp only [ren1, refs, refs1, List.mem_flatMap, List.mem_map] at ho
    obtain ⟨_, ⟨e, _, rfl⟩, ho⟩ := ho
    exact ren0_refs o ho
  | tu ds => simp [ren1, refs, refs1, refs0] at ho
  | ow k =>
    refine ren0_refs (d := .ow k) o ?_
    simp only [ren1, ren0] at ho ⊢
    split at ho <;> exact ho
  | bx k off =>
    refine ren0_refs (d := .bx k off) o ?_
    simp only [ren1, ren0] at ho ⊢
    split at ho <;> exact ho
  | cl f cs =>
    refine ren0_refs (d := .cl f cs) o ?_
    simp only [ren1, ren0] at ho ⊢
    cases hm : mapC (fwd to) cs with
    | some r => simp only [hm, refs, refs1] at ho ⊢; exact ho
    | none => simp only [hm, refs, refs1] at ho ⊢; exact ho
  | _ => simp [ren1, ren0, refs, refs1, refs0] at ho

theorem keepS_len (ks : List Nat) : ∀ (i : Nat) (l : List DV), (keepS ks i l).length = l.length
  | _, [] => rfl
  | i, d :: l => by simp only [keepS, List.length_cons]; rw [keepS_len ks]

theorem keepS_get (ks : List Nat) : ∀ (i : Nat) (l : List DV) (t : Nat), (keepS ks i l).getD t .un = l.getD t .un ∨ (keepS ks i l).getD t .un = .un
  | _, [], t => .inl rfl
  | i, d :: l, 0 => by
    simp only [keepS, List.getD_cons_zero]
    split
    · exact .inl rfl
    · exact .inr rfl
  | i, d :: l, t + 1 => by
    simp only [keepS, List.getD_cons_succ]
    exact keepS_get ks (i + 1) l t

theorem lk_mem : ∀ {l : Obs} {o : Nat} {x : Ob}, lk o l = some x → (o, x) ∈ l
  | (k, y) :: l, o, x, h => by
    simp only [lk] at h
    split at h
    · rename_i hk
      cases h
      have : k = o := by simpa using hk
      simp [this]
    · simp [lk_mem h]

theorem renS_obj {ks : List Nat} {to : List (Nat × Nat)} {S : St} {k : Nat} {y : Ob} (h : (renS ks to S).obj k = some y) : ∃ o x, (o, k) ∈ to ∧ S.obj o = some x ∧ y = renO to x := by
  have := lk_mem h
  simp only [renS, List.mem_filterMap, Option.map_eq_some_iff] at this
  obtain ⟨p, hp, x, hx, he⟩ := this
  obtain ⟨a, b⟩ := p
  cases he
  exact ⟨a, x, hp, hx, rfl⟩

theorem ren_ok {A : Amb} {S : St} {tm : Array Value} {w : World} {bo : Nat → Option Nat} {σ : Nat → Value} {kl : List Nat} (hR : Rel A S tm w bo σ kl) {pi : List Nat} (hpi : pi = A.pre.map (·.1)) {to : List (Nat × Nat)} (h : renOk pi to = true) (ks : List Nat) :
    ∃ bo' σ' kl', Rel A (renS ks to S) tm w bo' σ' kl' := by
  simp only [renOk, Bool.and_eq_true, List.all_eq_true, Bool.or_eq_true, Bool.not_eq_true', beq_iff_eq] at h
  obtain ⟨⟨t1, t2⟩, t3⟩ := h
  have hn1 := nodupB_spec t1
  have hn2 := nodupB_spec t2
  let bo' : Nat → Option Nat := fun k => match bwd to k with | some o => bo o | none => bo k
  let σ' : Nat → Value := fun k => match bwd to k with | some o => σ o | none => σ k
  have hb : ∀ p ∈ to, bo' p.2 = bo p.1 ∧ σ' p.2 = σ p.1 := by
    rintro ⟨o, k⟩ hp
    have := mem_bwd hn2 hp
    simp only [bo', σ', this]; exact ⟨trivial, trivial⟩
  have hpre : ∀ p ∈ A.pre, bo' p.1 = bo p.1 ∧ σ' p.1 = σ p.1 := by
    intro p hp
    cases hbw : bwd to p.1 with
    | none => simp only [bo', σ', hbw]; exact ⟨trivial, trivial⟩
    | some o =>
      have hm := bwd_mem hbw
      have := t3 _ hm
      rcases this with h | h
      · have e : o = p.1 := h
        simp only [bo', σ', hbw, e]; exact ⟨trivial, trivial⟩
      · exfalso
        have h1 := h.1
        rw [List.any_eq_false] at h1
        exact h1 p.1 (by rw [hpi]; exact List.mem_map.2 ⟨p, hp, rfl⟩) (by simp)
  have hok : ∀ k, okS A S w bo k → okS A (renS ks to S) w bo' k := fun k hk => ⟨hk.1, hk.2.1, fun o' y hy hbb => by
    obtain ⟨o, x, hm, hx, -⟩ := renS_obj hy
    rw [(hb _ hm).1] at hbb
    exact hk.2.2 o x hx hbb⟩
  refine ⟨bo', σ', A.pre.map (·.1) ++ to.map (·.2), hR.keep, ?_, fun t => ?_, fun k y hy => ?_, fun k y b hy hbb => ?_, fun k k' y y' b hy hy' hbb hbb' => ?_, fun p hp => ?_, fun p hp => List.mem_append.2 (.inl (List.mem_map.2 ⟨p, hp, rfl⟩)), fun t o ho => ?_, fun k y hy => ?_, hR.axo⟩
  · rw [hR.sz]; simp [renS, keepS_len]
  · have e : (renS ks to S).slot t = ren1 to ((keepS ks 0 S.fr).getD t .un) := by
      unfold St.slot renS
      simp only [List.getD_eq_getElem?_getD, List.getElem?_map]
      cases (keepS ks 0 S.fr)[t]? <;> rfl
    rw [e]
    rcases keepS_get ks 0 S.fr t with h | h
    · rw [h]; exact ren1_ok (E := A.env S w bo σ) (E' := A.env (renS ks to S) w bo' σ') rfl hok hb (hR.sl t)
    · rw [h]; trivial
  · obtain ⟨o, x, hm, hx, rfl⟩ := renS_obj hy
    have ho := hR.ob o x hx
    have hbo := hb _ hm
    cases x with
    | box cs =>
      obtain ⟨b, T, vs, g1, g2, g3, g4⟩ := ho
      refine ⟨b, T, vs, by show bo' k = _; rw [hbo.1]; exact g1, g2, by simpa using g3, fun j hj => ?_⟩
      rw [List.length_map] at hj
      rw [getD_map0 cs j _ hj]
      exact ⟨ren0_ok (E := A.env S w bo σ) (E' := A.env (renS ks to S) w bo' σ') rfl hok hb (g4 j hj).1, (g4 j hj).2⟩
    | row fl T esz n L =>
      obtain ⟨g1, g2, g3, g4, g5, vs, g6, g7⟩ := ho
      refine ⟨g1, g2, g3, g4, by show bo' k = (σ' k).ownBlock; rw [hbo.1, hbo.2]; exact g5, vs, by show World.ownsRow w 0 T esz (σ' k) n vs; rw [hbo.2]; exact g6, fun i j hi hj => ⟨(g7 i j hi hj).1.mono fun k hk => ⟨hok k hk, rfl⟩, (g7 i j hi hj).2⟩⟩
  · obtain ⟨o, x, hm, hx, rfl⟩ := renS_obj hy
    rw [(hb _ hm).1] at hbb
    exact hR.live o x b hx hbb
  · obtain ⟨o, x, hm, hx, -⟩ := renS_obj hy
    obtain ⟨o', x', hm', hx', -⟩ := renS_obj hy'
    rw [(hb _ hm).1] at hbb
    rw [(hb _ hm').1] at hbb'
    have := hR.inj o o' x x' b hx hx' hbb hbb'
    subst this
    have e1 := mem_fwd hn1 hm
    have e2 := mem_fwd hn1 hm'
    rw [e1] at e2; exact Option.some.inj e2
  · rw [(hpre p hp).1, (hpre p hp).2]; exact hR.pre p hp
  · have e : (renS ks to S).slot t = ren1 to ((keepS ks 0 S.fr).getD t .un) := by
      unfold St.slot renS
      simp only [List.getD_eq_getElem?_getD, List.getElem?_map]
      cases (keepS ks 0 S.fr)[t]? <;> rfl
    rw [e] at ho
    exact List.mem_append.2 (.inr (ren1_refs o ho))
  · obtain ⟨o, x, hm, hx, rfl⟩ := renS_obj hy
    refine ⟨List.mem_append.2 (.inr (List.mem_map.2 ⟨_, hm, rfl⟩)), fun q hq => List.mem_append.2 (.inr ?_)⟩
    cases x with
    | box cs =>
      simp only [renO, orefs, List.mem_flatMap, List.mem_map] at hq
      obtain ⟨_, ⟨e, _, rfl⟩, hq⟩ := hq
      exact List.mem_map.2 (List.mem_map.1 (ren0_refs q hq))
    | row => simp [renO, orefs] at hq

/-! one cell, told otherwise -/
theorem refs0_in {S : St} {A : Amb} {tm : Array Value} {w : World} {bo : Nat → Option Nat} {σ : Nat → Value} {kl : List Nat} (hR : Rel A S tm w bo σ kl) {t : Nat} {cs : List DV} (hs : S.slot t = .ag cs) {e : DV} (he : e ∈ cs) : ∀ o ∈ refs0 e, o ∈ kl := fun o ho =>
  hR.rfs t o (by rw [hs]; simp only [refs, refs1, List.mem_flatMap]; exact ⟨e, he, ho⟩)

theorem setIn_same (tm : Array Value) (t : Nat) : putT tm (some t) (tm.getD t undef') = tm := by
  show tm.setIfInBounds t (tm.getD t undef') = tm
  apply Array.ext (by simp)
  intro i h1 h2
  rw [Array.getElem_setIfInBounds h2]
  split
  · rename_i h; subst h; simp [h2]
  · rfl

theorem cell_set {E : Env} {cs : List DV} {vs : List Value} {j0 : Nat} {d0 d : DV} (h : ∀ j, j < cs.length → RV0 E (cs.getD j .un) (vs.getD j undef') ∧ (vs.getD j undef').oneCell' = true) (hj0 : cs[j0]? = some d0) (hd : ∀ x, RV0 E d0 x → RV0 E d x) :
    ∀ j, j < (cs.set j0 d).length → RV0 E ((cs.set j0 d).getD j .un) (vs.getD j undef') ∧ (vs.getD j undef').oneCell' = true := by
  intro j hj
  rw [List.length_set] at hj
  refine ⟨?_, (h j hj).2⟩
  by_cases hjj : j0 = j
  · subst hjj
    have e1 : (cs.set j0 d).getD j0 .un = d := by simp [List.getD_eq_getElem?_getD, hj]
    have e2 : cs.getD j0 .un = d0 := by simp [List.getD_eq_getElem?_getD, hj0]
    rw [e1]
    have := (h j0 hj).1
    rw [e2] at this
    exact hd _ this
  · have e1 : (cs.set j0 d).getD j .un = cs.getD j .un := by simp [List.getD_eq_getElem?_getD, List.getElem?_set, hjj]
    rw [e1]; exact (h j hj).1

theorem cell_refs {cs : List DV} {j0 : Nat} {d : DV} {kl : List Nat} {ks : List Nat} (h : ∀ e ∈ cs, ∀ o ∈ refs0 e, o ∈ kl) (hd : ∀ o ∈ refs0 d, o ∈ ks) : ∀ e ∈ cs.set j0 d, ∀ o ∈ refs0 e, o ∈ ks ++ kl := by
  intro e he o ho
  rcases List.mem_or_eq_of_mem_set he with h1 | rfl
  · exact List.mem_append.2 (.inr (h e h1 o ho))
  · exact List.mem_append.2 (.inl (hd o ho))

/-- the general form: a cell is told otherwise, an object comes or goes that bears on no block of ours -/
theorem Rel.cell {A : Amb} {S : St} {tm : Array Value} {w : World} {bo bo' : Nat → Option Nat} {σ σ' : Nat → Value} {kl : List Nat} (hR : Rel A S tm w bo σ kl) {pl : Pl} {d0 d : DV} {sl : List (Nat × DV)} {ob ob2 : List (Nat × Option Ob)} {new : List Nat}
    (hg : getP S pl = some d0) (hp : putP S d pl = some (sl, ob)) (hbo : ∀ o ∈ kl, bo' o = bo o ∧ σ' o = σ o)
    (hne : ∀ o ∈ ob.map (·.1), o ∉ ob2.map (·.1))
    (hd : ∀ x, RV0 (A.env (S.app ⟨sl, ob ++ ob2, new⟩) w bo' σ') d0 x → RV0 (A.env (S.app ⟨sl, ob ++ ob2, new⟩) w bo' σ') d x) (hrefs : ∀ o ∈ refs0 d, o ∈ new ++ kl) (hag : d0 = .nl ∨ ∃ o, d0 = .ow o)
    (hob2 : ∀ o x, o ∈ ob2.map (·.1) → (S.app ⟨sl, ob ++ ob2, new⟩).obj o = some x → ObOk (A.env (S.app ⟨sl, ob ++ ob2, new⟩) w bo' σ') o x ∧ o ∈ new ++ kl ∧ orefs x = [] ∧ bo' o = none)
    (hmono : ∀ k, okS A S w bo k → okS A (S.app ⟨sl, ob ++ ob2, new⟩) w bo' k) :
    Rel A (S.app ⟨sl, ob ++ ob2, new⟩) tm w bo' σ' (new ++ kl) := by
  have hkeep : ∀ X, Keep w w X := fun X => Keep.refl _ _
  have hE : ∀ {d : DV} {x : Value}, (∀ o ∈ refs0 d, o ∈ kl) → RV0 (A.env S w bo σ) d x → RV0 (A.env (S.app ⟨sl, ob ++ ob2, new⟩) w bo' σ') d x := fun hr h => RV0.mono h (fun k hk => ⟨hmono k hk, rfl⟩) fun o ho => hbo o (hr o ho)
  have hagd : ∀ (x : Value), RV0 (A.env (S.app ⟨sl, ob ++ ob2, new⟩) w bo' σ') d x → RV (A.env (S.app ⟨sl, ob ++ ob2, new⟩) w bo' σ') d x := by
    intro x h
    cases d with
    | ag cs => exact h.elim
    | tu cs => exact h.elim
    | _ => exact h
  have hrefsd : ∀ o ∈ refs d, o ∈ new ++ kl ∨ ∃ cs, d = .ag cs ∨ d = .tu cs := by
    intro o ho
    cases d with
    | ag cs => exact .inr ⟨cs, .inl rfl⟩
    | tu cs => exact .inr ⟨cs, .inr rfl⟩
    | _ => exact .inl (hrefs o ho)
  cases pl with
  | sl t =>
    simp only [getP, Option.some.injEq] at hg
    simp only [putP, Option.some.injEq, Prod.mk.injEq] at hp
    obtain ⟨rfl, rfl⟩ := hp
    have hx := hR.sl t
    have hx0 : RV0 (A.env S w bo σ) d0 (tm.getD t undef') := by
      rw [hg] at hx
      rcases hag with rfl | ⟨o, rfl⟩ <;> exact hx
    have hr0 : ∀ o ∈ refs0 d0, o ∈ kl := fun o ho => hR.rfs t o (by rw [hg]; rcases hag with rfl | ⟨o', rfl⟩ <;> exact ho)
    have hx1 := hd _ (hE hr0 hx0)
    have h := hR.step (w' := w) (bo' := bo') (σ' := σ') ⟨[(t, d)], [] ++ ob2, new⟩ (some t) (tm.getD t undef') (hkeep _) hbo
      (.inr ⟨t, d, rfl, rfl, hagd _ hx1, fun o ho => by
        rcases hrefsd o ho with h | ⟨cs, rfl | rfl⟩
        · exact h
        · exact hx1.elim
        · exact hx1.elim⟩)
      (fun o x ho hx => by
        obtain ⟨h1, h2, h3, h4⟩ := hob2 o x ho hx
        exact ⟨h1, h2, fun p hp => (by rw [h3] at hp; cases hp), fun b hb => (by rw [h4] at hb; cases hb)⟩)
      (fun o1 o2 x1 x2 b ho1 ho2 hx1 hx2 hb1 hb2 => by
        have := (hob2 o1 x1 ho1 hx1).2.2.2
        rw [this] at hb1; cases hb1)
    rw [setIn_same] at h
    exact h
  | sc t j =>
    simp only [getP] at hg
    simp only [putP] at hp
    split at hg
    · rename_i cs hs
      rw [hs] at hp
      simp only [Option.some.injEq, Prod.mk.injEq] at hp
      obtain ⟨rfl, rfl⟩ := hp
      have hx := hR.sl t
      rw [hs] at hx
      obtain ⟨vs, hv, h2, h3⟩ := hx
      have hrcs : ∀ e ∈ cs, ∀ o ∈ refs0 e, o ∈ kl := fun e he => refs0_in hR hs he
      have h3' : ∀ j', j' < cs.length → RV0 (A.env (S.app ⟨[(t, .ag (cs.set j d))], [] ++ ob2, new⟩) w bo' σ') (cs.getD j' .un) (vs.getD j' undef') ∧ (vs.getD j' undef').oneCell' = true :=
        fun j' hj' => ⟨hE (hrcs _ (getD_mem cs j' _ hj')) (h3 j' hj').1, (h3 j' hj').2⟩
      have h := hR.step (w' := w) (bo' := bo') (σ' := σ') ⟨[(t, .ag (cs.set j d))], [] ++ ob2, new⟩ (some t) (tm.getD t undef') (hkeep _) hbo
        (.inr ⟨t, _, rfl, rfl, ⟨vs, hv, by rw [List.length_set]; exact h2, cell_set h3' hg hd⟩, fun o ho => by
          simp only [refs, refs1, List.mem_flatMap] at ho
          obtain ⟨e, he, ho⟩ := ho
          have := cell_refs (ks := new ++ kl) hrcs (fun o ho => hrefs o ho) e he o ho
          rcases List.mem_append.1 this with h | h
          · exact h
          · exact List.mem_append.2 (.inr h)⟩)
        (fun o x ho hx => by
          obtain ⟨h1, h2, h3, h4⟩ := hob2 o x ho hx
          exact ⟨h1, h2, fun p hp => (by rw [h3] at hp; cases hp), fun b hb => (by rw [h4] at hb; cases hb)⟩)
        (fun o1 o2 x1 x2 b ho1 ho2 hx1 hx2 hb1 hb2 => by
          have := (hob2 o1 x1 ho1 hx1).2.2.2
          rw [this] at hb1; cases hb1)
      rw [setIn_same] at h
      exact h
    · cases hg
  | ob o j =>
    simp only [getP] at hg
    simp only [putP] at hp
    split at hg
    · rename_i cs hs
      rw [hs] at hp
      simp only [Option.some.injEq, Prod.mk.injEq] at hp
      obtain ⟨rfl, rfl⟩ := hp
      have hko := hR.orf o _ hs
      have hrcs : ∀ e ∈ cs, ∀ p ∈ refs0 e, p ∈ kl := fun e he p hp => hko.2 p (by simp only [orefs, List.mem_flatMap]; exact ⟨e, he, hp⟩)
      obtain ⟨b0, T, vs, g1, g2, g3, g4⟩ := hR.ob o _ hs
      have g4' : ∀ j', j' < cs.length → RV0 (A.env (S.app ⟨[], [(o, some (.box (cs.set j d)))] ++ ob2, new⟩) w bo' σ') (cs.getD j' .un) (vs.getD j' undef') ∧ (vs.getD j' undef').oneCell' = true :=
        fun j' hj' => ⟨hE (hrcs _ (getD_mem cs j' _ hj')) (g4 j' hj').1, (g4 j' hj').2⟩
      have hoo : (S.app ⟨[], [(o, some (.box (cs.set j d)))] ++ ob2, new⟩).obj o = some (.box (cs.set j d)) := by
        rw [app_obj]
        have : wrOb ([(o, some (Ob.box (cs.set j d)))] ++ ob2) o (S.obj o) = wrOb ob2 o (some (Ob.box (cs.set j d))) := by simp [wrOb]
        rw [this, wrOb_not (hne o (by simp))]
      have hb0 : bo' o = some b0 := by rw [(hbo o hko.1).1]; exact g1
      refine hR.step (w' := w) (bo' := bo') (σ' := σ') ⟨[], [(o, some (.box (cs.set j d)))] ++ ob2, new⟩ none undef (hkeep _) hbo (.inl ⟨rfl, rfl⟩) ?_ ?_
      · intro o' x ho' hx
        by_cases hoo' : o' = o
        · subst hoo'
          rw [hoo] at hx; cases hx
          refine ⟨⟨b0, T, vs, hb0, g2, by rw [List.length_set]; exact g3, cell_set g4' hg hd⟩, List.mem_append.2 (.inr hko.1), fun p hp => ?_, fun b hb => ?_⟩
          · simp only [orefs, List.mem_flatMap] at hp
            obtain ⟨e, he, hp⟩ := hp
            have := cell_refs (ks := new ++ kl) hrcs (fun o ho => hrefs o ho) e he p hp
            rcases List.mem_append.1 this with h | h
            · exact h
            · exact List.mem_append.2 (.inr h)
          · rw [hb0] at hb
            have := Option.some.inj hb
            subst this
            exact ⟨(hR.live o' _ b0 hs g1).1, fun _ => ⟨o', by simp, _, hs, g1⟩⟩
        · have ho2 : o' ∈ ob2.map (·.1) := by
            simp only [List.map_append, List.map_cons, List.map_nil, List.mem_append, List.mem_singleton] at ho'
            exact ho'.resolve_left hoo'
          obtain ⟨h1, h2, h3, h4⟩ := hob2 o' x ho2 hx
          exact ⟨h1, h2, fun p hp => (by rw [h3] at hp; cases hp), fun b hb => (by rw [h4] at hb; cases hb)⟩
      · intro o1 o2 x1 x2 b ho1 ho2 hx1 hx2 hb1 hb2
        have aux : ∀ o' x, o' ∈ (([(o, some (Ob.box (cs.set j d)))] ++ ob2).map (·.1)) → (S.app ⟨[], [(o, some (.box (cs.set j d)))] ++ ob2, new⟩).obj o' = some x → bo' o' = some b → o' = o := by
          intro o' x ho' hx hb
          by_cases hoo' : o' = o
          · exact hoo'
          · exfalso
            have ho2 : o' ∈ ob2.map (·.1) := by
              simp only [List.map_append, List.map_cons, List.map_nil, List.mem_append, List.mem_singleton] at ho'
              exact ho'.resolve_left hoo'
            rw [(hob2 o' x ho2 hx).2.2.2] at hb; cases hb
        rw [aux o1 x1 ho1 hx1 hb1, aux o2 x2 ho2 hx2 hb2]
    · cases hg

theorem getP_refs {S : St} {A : Amb} {tm : Array Value} {w : World} {bo : Nat → Option Nat} {σ : Nat → Value} {kl : List Nat} (hR : Rel A S tm w bo σ kl) {pl : Pl} {d : DV} (h : getP S pl = some d) : ∀ o ∈ refs0 d, o ∈ kl := by
  cases pl with
  | sl t =>
    simp only [getP, Option.some.injEq] at h
    intro o ho
    refine hR.rfs t o ?_
    rw [h]
    cases d with
    | ag cs => simp [refs0] at ho
    | tu cs => simp [refs0] at ho
    | _ => exact ho
  | sc t j =>
    simp only [getP] at h
    split at h
    · rename_i cs hs
      exact refs0_in hR hs (List.mem_of_getElem? h)
    · cases h
  | ob o j =>
    simp only [getP] at h
    split at h
    · rename_i cs hs
      intro p hp
      exact (hR.orf o _ hs).2 p (by simp only [orefs, List.mem_flatMap]; exact ⟨d, List.mem_of_getElem? h, hp⟩)
    · cases h

/-- the places that a cell's telling touches -/
theorem putP_keys {S : St} {d : DV} {pl : Pl} {sl : List (Nat × DV)} {ob : List (Nat × Option Ob)} (h : putP S d pl = some (sl, ob)) : (∀ o ∈ ob.map (·.1), ∃ cs, S.obj o = some (.box cs)) ∧ ∀ p ∈ ob, ∃ x, p.2 = some x := by
  cases pl with
  | sl t => simp only [putP, Option.some.injEq, Prod.mk.injEq] at h; obtain ⟨rfl, rfl⟩ := h; exact ⟨fun o ho => by simp at ho, fun p hp => by cases hp⟩
  | sc t j =>
    simp only [putP] at h
    split at h
    · simp only [Option.some.injEq, Prod.mk.injEq] at h; obtain ⟨rfl, rfl⟩ := h; exact ⟨fun o ho => by simp at ho, fun p hp => by cases hp⟩
    · cases h
  | ob o j =>
    simp only [putP] at h
    split at h
    · rename_i cs hs
      simp only [Option.some.injEq, Prod.mk.injEq] at h; obtain ⟨rfl, rfl⟩ := h
      exact ⟨fun o' ho => by simp at ho; subst ho; exact ⟨cs, hs⟩, fun p hp => by simp at hp; subst hp; exact ⟨_, rfl⟩⟩
    · cases h

theorem adj_ok {A : Amb} {S : St} {tm : Array Value} {w : World} {bo : Nat → Option Nat} {σ : Nat → Value} {kl : List Nat} (hR : Rel A S tm w bo σ kl) {c : Adj} {u : Upd} (h : adjU S kl c = some u) : ∃ bo' σ', Rel A (S.app u) tm w bo' σ' (u.new ++ kl) := by
  have wr : ∀ (ob : List (Nat × Option Ob)) (o : Nat) (x : Ob) (c : Option Ob), wrOb ob o c = some x → (∀ p ∈ ob, ∃ x, p.2 = some x) → o ∈ ob.map (·.1) ∨ c = some x := by
    intro ob o x c h _
    rcases wrOb_some h with h1 | ⟨_, h2⟩
    · exact .inl (List.mem_map.2 ⟨_, h1, rfl⟩)
    · exact .inr h2
  cases c with
  | own pl k T esz fl =>
    simp only [adjU] at h
    split at h
    · rename_i sl ob hg hp
      split at h
      · rename_i hc
        cases h
        simp only [Bool.and_eq_true, decide_eq_true_eq, Bool.not_eq_true', List.any_eq_false, beq_iff_eq] at hc
        have hk : k ∉ kl := fun hm => hc.2 k hm rfl
        have hkeys := putP_keys hp
        have hkob : k ∉ ob.map (·.1) := fun hm => by
          obtain ⟨cs, hcs⟩ := hkeys.1 k hm
          exact hk (hR.orf k _ hcs).1
        refine ⟨upd bo k none, upd σ k (.slice none 0 0), hR.cell (ob2 := [(k, some (.row fl T esz 0 []))]) hg hp (fun o ho => ?_) (fun o ho ho2 => ?_) (fun x hx => ?_) (fun o ho => ?_) (.inl rfl) (fun o x ho hx => ?_) (fun q hq => ⟨hq.1, hq.2.1, fun o x hx hb => ?_⟩)⟩
        · have : o ≠ k := fun e => hk (e ▸ ho)
          exact ⟨upd_ne _ _ this, upd_ne _ _ this⟩
        · simp at ho2; subst ho2; exact hkob ho
        · have hx' : x = .slice none 0 0 := hx
          exact ⟨by rw [hx']; exact upd_same _ _ _, none, 0, 0, hx'⟩
        · simp [refs0] at ho; simp [ho]
        · simp at ho; subst ho
          rw [app_obj] at hx
          have e : wrOb (ob ++ [(o, some (Ob.row fl T esz 0 []))]) o (S.obj o) = some (.row fl T esz 0 []) := by simp [wrOb, List.foldl_append]
          rw [e] at hx; cases hx
          refine ⟨⟨rfl, hc.1, fun l hl => (by cases hl), fun _ l hl => (by cases hl), ?_, [], ?_, fun i j hi => by omega⟩, by simp, rfl, upd_same _ _ _⟩
          · show upd bo o none o = (upd σ o (.slice none 0 0) o).ownBlock
            rw [upd_same, upd_same]; rfl
          · show World.ownsRow w 0 T esz (upd σ o (.slice none 0 0) o) 0 []
            rw [upd_same]; exact World.ownsRow_nil _ _ _ _
        · by_cases hok : o = k
          · subst hok; rw [upd_same] at hb; cases hb
          · rw [upd_ne _ _ hok] at hb
            rw [app_obj] at hx
            have e : wrOb (ob ++ [(k, some (Ob.row fl T esz 0 []))]) o (S.obj o) = wrOb ob o (S.obj o) := by
              have : ¬ k = o := fun e => hok e.symm
              simp [wrOb, List.foldl_append, this]
            rw [e] at hx
            rcases wr ob o x _ hx hkeys.2 with h1 | h1
            · obtain ⟨cs, hcs⟩ := hkeys.1 o h1
              exact hq.2.2 o _ hcs hb
            · exact hq.2.2 o x h1 hb
      · cases h
    · cases h
  | nro pl esz fl =>
    simp only [adjU] at h
    split at h
    · rename_i sl ob hg hp
      cases h
      have hkeys := putP_keys hp
      refine ⟨bo, σ, ?_⟩
      have := hR.cell (bo' := bo) (σ' := σ) (ob2 := []) (new := []) hg hp (fun o ho => ⟨rfl, rfl⟩) (fun o ho ho2 => by simp at ho2) (fun x hx => ?_) (fun o ho => by simp [refs0] at ho) (.inl rfl) (fun o x ho hx => by simp at ho) (fun q hq => ⟨hq.1, hq.2.1, fun o x hx hb => ?_⟩)
      · simpa using this
      · have hx' : x = .slice none 0 0 := hx
        subst hx'
        exact .ro fl esz 0 [] none 0 ⟨0, 0, none⟩ (fun _ _ => undef') rfl (Nat.le_refl _) (by simp [maxLen]) (.inl rfl) (fun l hl => by cases hl) (fun _ l hl => by cases hl) (fun i j hi => by omega) (fun i j hi => by omega) (fun i j hi => by omega)
      · rw [app_obj] at hx
        rcases wr _ o x _ hx (by simpa using hkeys.2) with h1 | h1
        · obtain ⟨cs, hcs⟩ := hkeys.1 o (by simpa using h1)
          exact hq.2.2 o _ hcs hb
        · exact hq.2.2 o x h1 hb
    · cases h
  | frz pl =>
    simp only [adjU] at h
    split at h
    · rename_i o0 hg
      split at h
      · rename_i fl T esz n L hx0
        split at h
        · rename_i sl ob hp
          cases h
          have hkeys := putP_keys hp
          have hnot : o0 ∉ ob.map (·.1) := fun hm => by
            obtain ⟨cs, hcs⟩ := hkeys.1 o0 hm
            rw [hx0] at hcs; cases hcs
          have hobj : ∀ o x, (S.app ⟨sl, ob ++ [(o0, none)], []⟩).obj o = some x → o ≠ o0 ∧ ∃ y, S.obj o = some y := by
            intro o x hx
            rw [app_obj] at hx
            have e : wrOb (ob ++ [(o0, none)]) o (S.obj o) = if o0 = o then none else wrOb ob o (S.obj o) := by simp [wrOb, List.foldl_append]
            rw [e] at hx
            by_cases ho : o0 = o
            · rw [if_pos ho] at hx; cases hx
            · rw [if_neg ho] at hx
              refine ⟨fun e => ho e.symm, ?_⟩
              rcases wr ob o x _ hx hkeys.2 with h1 | h1
              · obtain ⟨cs, hcs⟩ := hkeys.1 o h1; exact ⟨_, hcs⟩
              · exact ⟨_, h1⟩
          have hmono : ∀ k, okS A S w bo k → okS A (S.app ⟨sl, ob ++ [(o0, none)], []⟩) w bo k := fun q hq => ⟨hq.1, hq.2.1, fun o x hx hb => by
            obtain ⟨-, y, hy⟩ := hobj o x hx
            exact hq.2.2 o y hy hb⟩
          refine ⟨bo, σ, ?_⟩
          have := hR.cell (bo' := bo) (σ' := σ) (ob2 := [(o0, none)]) (new := []) hg hp (fun o ho => ⟨rfl, rfl⟩) (fun o ho ho2 => by simp at ho2; subst ho2; exact hnot ho) (fun x hx => ?_) (fun o ho => by simp [refs0] at ho) (.inr ⟨o0, rfl⟩) (fun o x ho hx => by
            simp at ho; subst ho
            exact absurd rfl (hobj _ x hx).1) hmono
          · exact this
          · have hx' : RV0 (A.env S w bo σ) (.ow o0) x := hx
            refine row_rp (hR.ob o0 _ hx0) hx' hmono fun b hb => ?_
            have hl := hR.live o0 _ b hx0 hb
            refine ⟨hl.1, fun h => .inr (hl.2 h), fun o y hy hb2 => ?_⟩
            obtain ⟨hne, z, hz⟩ := hobj o y hy
            exact hne (hR.inj o o0 z _ b hz hx0 hb2 hb)
        · cases h
      · cases h
    · cases h

end Go.Eng
