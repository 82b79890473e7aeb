import Derived.Test.YtdfepbmcglnhcaaEngP
set_option linter.unusedSimpArgs false
set_option linter.unusedVariables false
/-! Soundness, 14: calls, the other half. -/
namespace Go.Eng
open Go
variable {P : Program} {Φ : List It → St → Prop}

section
variable {E E' : Env} {to : List (Nat × Nat)} {lent : Bool}

theorem rp_back (hw : E'.w = E.w) (hok : lent = false → ∀ k, E.ok k → E'.ok k) {d : DV} {x : Value} (hf : lent = true → flatD d = true) (h : RP E.w E.ok d x) : RP E'.w E'.ok d x := by
  cases hl : lent with
  | true => exact h.flat (hf hl)
  | false => rw [hw]; exact h.mono fun k hk => ⟨hok hl k hk, rfl⟩

theorem back0_ok (hw : E'.w = E.w) (hok : lent = false → ∀ k, E.ok k → E'.ok k) (hb : ∀ p ∈ to, E'.bo p.1 = E.bo p.2 ∧ E'.σ p.1 = E.σ p.2) {d : DV} {x : Value} (hf : lent = true → roFree0 d = true) (h : RV0 E d x) : RV0 E' (back0 to d) x := by
  cases d with
  | ow k =>
    simp only [back0]
    split
    · rename_i o ho
      obtain ⟨h1, h2⟩ := h
      exact ⟨by rw [(hb _ (bwd_mem ho)).2]; exact h1, h2⟩
    · trivial
  | bx k off =>
    simp only [back0]
    split
    · rename_i o ho
      obtain ⟨b, h1, h2⟩ := h
      exact ⟨b, by rw [(hb _ (bwd_mem ho)).1]; exact h1, h2⟩
    · trivial
  | pw => trivial
  | cl => trivial
  | ro fl esz n L =>
    cases hl : lent with
    | true => have := hf hl; simp [roFree0] at this
    | false => exact RP.mono h fun k hk => ⟨hok hl k hk, by rw [hw]⟩
  | pe cs off =>
    cases hl : lent with
    | true => have := hf hl; simp [roFree0] at this
    | false =>
      obtain ⟨a0, h1, h2, h3⟩ := h
      refine ⟨a0, hok hl _ h1, h2, fun j hj => ?_⟩
      obtain ⟨y, h4, h5, h6⟩ := h3 j hj
      exact ⟨y, by rw [hw]; exact h4, h5, h6.mono fun k hk => ⟨hok hl k hk, by rw [hw]⟩⟩
  | un => trivial
  | v y => exact h
  | lb b => exact h
  | nl => exact h
  | ag cs => exact h.elim
  | tu vs => exact h.elim

theorem getD_map0 (cs : List DV) (j : Nat) (f : DV → DV) (hj : j < cs.length) : (cs.map f).getD j .un = f (cs.getD j .un) := by
  simp [List.getD_eq_getElem?_getD, hj]

theorem back1_ok (hw : E'.w = E.w) (hok : lent = false → ∀ k, E.ok k → E'.ok k) (hb : ∀ p ∈ to, E'.bo p.1 = E.bo p.2 ∧ E'.σ p.1 = E.σ p.2) {d : DV} {x : Value} (hf : lent = true → roFree1 d = true) (h : RV1 E d x) : RV1 E' (back1 to d) x := by
  cases d with
  | ag cs =>
    obtain ⟨vs, rfl, h2, h3⟩ := h
    refine ⟨vs, rfl, by simpa using h2, fun j hj => ?_⟩
    rw [List.length_map] at hj
    rw [getD_map0 cs j _ hj]
    refine ⟨back0_ok hw hok hb (fun hl => ?_) (h3 j hj).1, (h3 j hj).2⟩
    have := hf hl
    simp only [roFree1, List.all_eq_true] at this
    exact this _ (getD_mem cs j _ hj)
  | tu vs => exact h.elim
  | ow k =>
    have := back0_ok (d := .ow k) hw hok hb hf h
    simp only [back1, back0] at this ⊢
    split <;> rename_i hh <;> simp only [hh] at this <;> exact this
  | bx k off =>
    have := back0_ok (d := .bx k off) hw hok hb hf h
    simp only [back1, back0] at this ⊢
    split <;> rename_i hh <;> simp only [hh] at this <;> exact this
  | un => trivial
  | v y => exact back0_ok (d := .v y) hw hok hb hf h
  | lb y => exact back0_ok (d := .lb y) hw hok hb hf h
  | nl => exact back0_ok (d := .nl) hw hok hb hf h
  | pw o i e f => exact back0_ok (d := .pw o i e f) hw hok hb hf h
  | ro f e n L => exact back0_ok (d := .ro f e n L) hw hok hb hf h
  | pe cs f => exact back0_ok (d := .pe cs f) hw hok hb hf h
  | cl f cs => trivial

theorem back_ok (hw : E'.w = E.w) (hok : lent = false → ∀ k, E.ok k → E'.ok k) (hb : ∀ p ∈ to, E'.bo p.1 = E.bo p.2 ∧ E'.σ p.1 = E.σ p.2) {d : DV} {x : Value} (hf : lent = true → roFree d = true) (h : RV E d x) : RV E' (back to d) x := by
  cases d with
  | tu ds =>
    obtain ⟨vs, rfl, h2, h3⟩ := h
    refine ⟨vs, rfl, by simpa using h2, fun j hj => ?_⟩
    rw [List.length_map] at hj
    rw [getD_map0 ds j _ hj]
    refine back1_ok hw hok hb (fun hl => ?_) (h3 j hj)
    have := hf hl
    simp only [roFree, List.all_eq_true] at this
    exact this _ (getD_mem ds j _ hj)
  | ow k =>
    have := back1_ok (d := .ow k) hw hok hb hf h
    simp only [back, back1, back0] at this ⊢
    split <;> rename_i hh <;> simp only [hh] at this <;> exact this
  | bx k off =>
    have := back1_ok (d := .bx k off) hw hok hb hf h
    simp only [back, back1, back0] at this ⊢
    split <;> rename_i hh <;> simp only [hh] at this <;> exact this
  | un => trivial
  | v y => exact back1_ok (d := .v y) hw hok hb hf h
  | lb y => exact back1_ok (d := .lb y) hw hok hb hf h
  | nl => exact back1_ok (d := .nl) hw hok hb hf h
  | pw o i e f => exact back1_ok (d := .pw o i e f) hw hok hb hf h
  | ro f e n L => exact back1_ok (d := .ro f e n L) hw hok hb hf h
  | pe cs f => exact back1_ok (d := .pe cs f) hw hok hb hf h
  | cl f cs => trivial
  | ag cs => exact back1_ok (d := .ag cs) hw hok hb hf h

theorem backO_ok (hw : E'.w = E.w) (hok : lent = false → ∀ k, E.ok k → E'.ok k) (hb : ∀ p ∈ to, E'.bo p.1 = E.bo p.2 ∧ E'.σ p.1 = E.σ p.2) {o k : Nat} (hok2 : (o, k) ∈ to) {x : Ob} (hf : lent = true → roFreeO x = true) (h : ObOk E k x) : ObOk E' o (backO to x) := by
  have hbo := hb _ hok2
  cases x with
  | box cs =>
    obtain ⟨b, T, vs, g1, g2, g3, g4⟩ := h
    refine ⟨b, T, vs, by rw [hbo.1]; exact g1, by rw [hw]; exact g2, by simpa using g3, fun j hj => ?_⟩
    rw [List.length_map] at hj
    rw [getD_map0 cs j _ hj]
    refine ⟨back0_ok hw hok hb (fun hl => ?_) (g4 j hj).1, (g4 j hj).2⟩
    have := hf hl
    simp only [roFreeO, List.all_eq_true] at this
    exact this _ (getD_mem cs j _ hj)
  | row fl T esz n L =>
    obtain ⟨g1, g2, g3, g4, g5, vs, g6, g7⟩ := h
    refine ⟨g1, g2, g3, g4, by rw [hbo.1, hbo.2]; exact g5, vs, by rw [hw, hbo.2]; exact g6, fun i j hi hj => ⟨rp_back (lent := lent) hw hok (fun hl => ?_) (g7 i j hi hj).1, (g7 i j hi hj).2⟩⟩
    have hfl : fl = true := hf hl
    have hli : i < L.length := by omega
    exact g4 hfl _ (getD_mem L i [] hli) _ (getD_mem _ j _ (by rw [g3 _ (getD_mem L i [] hli)]; exact hj))

theorem refs_back {d : DV} : ∀ o ∈ refs (back to d), ∃ k, (o, k) ∈ to := by
  have r0 : ∀ d : DV, ∀ o ∈ refs0 (back0 to d), ∃ k, (o, k) ∈ to := by
    intro d o ho
    cases d with
    | ow k =>
      simp only [back0] at ho
      split at ho
      · rename_i o' h'
        simp [refs0] at ho; subst ho; exact ⟨k, bwd_mem h'⟩
      · simp [refs0] at ho
    | bx k off =>
      simp only [back0] at ho
      split at ho
      · rename_i o' h'
        simp [refs0] at ho; subst ho; exact ⟨k, bwd_mem h'⟩
      · simp [refs0] at ho
    | _ => simp [back0, refs0] at ho
  have r1 : ∀ d : DV, ∀ o ∈ refs1 (back1 to d), ∃ k, (o, k) ∈ to := by
    intro d o ho
    cases d with
    | ag cs =>
      simp only [back1, refs1, List.mem_flatMap, List.mem_map] at ho
      obtain ⟨_, ⟨e, _, rfl⟩, ho⟩ := ho
      exact r0 e o ho
    | ow k =>
      refine r0 (.ow k) o ?_
      simp only [back1, back0] at ho ⊢
      split at ho <;> exact ho
    | bx k off =>
      refine r0 (.bx k off) o ?_
      simp only [back1, back0] at ho ⊢
      split at ho <;> exact ho
    | _ => simp [back1, back0, refs1, refs0] at ho
  intro o ho
  cases d with
  | tu ds =>
    simp only [back, refs, List.mem_flatMap, List.mem_map] at ho
    obtain ⟨_, ⟨e, _, rfl⟩, ho⟩ := ho
    exact r1 e o ho
  | ag cs => exact r1 (.ag cs) o ho
  | ow k =>
    refine r1 (.ow k) o ?_
    simp only [back, back1, back0] at ho ⊢
    split at ho <;> exact ho
  | bx k off =>
    refine r1 (.bx k off) o ?_
    simp only [back, back1, back0] at ho ⊢
    split at ho <;> exact ho
  | _ => simp [back, back1, back0, refs, refs1, refs0] at ho

theorem orefs_back {x : Ob} : ∀ o ∈ orefs (backO to x), ∃ k, (o, k) ∈ to := by
  intro o ho
  cases x with
  | box cs => exact refs_back (d := .ag cs) o (by simpa only [back, back1, refs, refs1, backO, orefs] using ho)
  | row => simp [backO, orefs] at ho
end

theorem wrOb_some {us : List (Nat × Option Ob)} {o : Nat} {x : Ob} : ∀ {c : Option Ob}, wrOb us o c = some x → (o, some x) ∈ us ∨ (o ∉ us.map (·.1) ∧ c = some x) := by
  induction us with
  | nil => intro c h; exact .inr ⟨by simp, h⟩
  | cons p us ih =>
    intro c h
    simp only [wrOb, List.foldl_cons] at h
    rcases ih h with h1 | ⟨h1, h2⟩
    · exact .inl (by simp [h1])
    · by_cases hp : p.1 = o
      · rw [if_pos hp] at h2
        obtain ⟨a, b⟩ := p
        simp at hp h2; subst hp; subst h2
        exact .inl (by simp)
      · rw [if_neg hp] at h2
        refine .inr ⟨?_, h2⟩
        simp only [List.map_cons, List.mem_cons, not_or]
        exact ⟨fun e => hp e.symm, h1⟩

theorem callD_ok {A : Amb} {o : Oper} {S : St} {kl : List Nat} {f : Nat} {ds : List DV} {u : Upd} {os os' : List (Ora P Φ)} {R D}
    (h : (callD o.dst f ds : RD P Φ Upd).go S os = some (u, R, D, os')) (hs : ∀ d ∈ D, Sat P Φ d) {a : Act} {w : World} {bo : Nat → Option Nat} {σ : Nat → Value} (hR : Rel A S a.tmps w bo σ kl) (hnew : ∀ n ∈ u.new, n ∉ kl)
    {K : Act → World → Prop} {Q : Exit → Act → World → Prop} (hK : ∀ v w' bo' σ', Rel A (S.app u) (putT a.tmps o.dst v) w' bo' σ' (u.new ++ kl) → K (a.put o.dst v) w')
    {xs : List Value} (k0 : ds.length = xs.length) (k1 : ∀ j, j < xs.length → RV (A.env S w bo σ) (ds.getD j .un) (xs.getD j undef'))
    (hrun : callable P f = true → (execOp a.eval o).run P w = .ok (.enter f xs.toArray) w) : o.wp P a w K Q := by
  unfold callD at h
  by_cases hcall : callable P f = true
  case neg => rw [if_neg hcall] at h; exact (go_fail h).elim
  rw [if_pos hcall] at h
  obtain ⟨q, os2, rfl, h3⟩ := go_peek h
  split at h3
  · rename_i to f' as0 pre post r hF
    obtain ⟨as, R3, D3, os3, R4, D4, h4, h5, rfl, rfl⟩ := go_bind _ _ h3
    obtain ⟨pre', R5, D5, os5, R6, D6, h6, h7, rfl, rfl⟩ := go_bind _ _ h5
    by_cases hto : toOk to pre post = true
    case neg => rw [if_neg hto] at h7; exact (go_fail h7).elim
    rw [if_pos hto] at h7
    obtain ⟨_, os7, D7, -, h8, rfl⟩ := go_req h7
    obtain ⟨rfl, -, -, -⟩ := go_ret h8
    simp only [Bool.and_eq_true, toOk] at hto
    obtain ⟨⟨⟨⟨⟨t1, t2⟩, t3⟩, t4⟩, t5⟩, t6⟩ := hto
    have hn1 := nodupB_spec t1
    have hn2 := nodupB_spec t2
    generalize hlent : ds.flatMap (lentIds1 to) = lent
    generalize hrf : (roFree r && post.all fun p => roFreeO p.2) = rf
    have hro : rf = true → roFree r = true ∧ ∀ p ∈ post, roFreeO p.2 = true := by
      intro hl
      rw [hl] at hrf
      simpa [List.all_eq_true] using hrf
    generalize hcons : consumed to ds r post = cons at *
    have hcons1 : ∀ o, o ∈ cons.map (·.1) → o ∈ lent := by
      intro o ho
      rw [← hcons] at ho
      unfold consumed at ho
      split at ho
      · cases ho
      · rw [hlent] at ho; simpa using ho
    have hcons2 : rf = false → ∀ o ∈ lent, o ∈ cons.map (·.1) := by
      intro hl o ho
      rw [← hcons]
      unfold consumed
      rw [hrf, hl, hlent]
      simpa using ho
    have hcons3 : ∀ p ∈ cons, p.2 = none := by
      intro p hp
      rw [← hcons] at hp
      unfold consumed at hp
      split at hp
      · cases hp
      · obtain ⟨o, -, rfl⟩ := List.mem_map.1 hp; rfl
    obtain ⟨rfl, rfl, a1, a2⟩ := argsOf_ok (lent := lent) hR hn2 h4
    obtain ⟨rfl, rfl, p1, p2, p3⟩ := preOf_ok (lent := lent) hR hn2 h6
    have hFn : Fn P f as pre' post r := hs (.call f as pre' post r) (by simp)
    have hpre : ∀ p ∈ pre', ∃ o x, bwd to p.1 = some o ∧ S.obj o = some x := fun p hp => p2 p.1 (by rw [← p1]; exact List.mem_map.2 ⟨p, hp, rfl⟩)
    have hboC : ∀ {k o : Nat}, bwd to k = some o → boC to bo k = bo o := fun hb => by unfold boC; rw [hb]; rfl
    have hσC : ∀ {k o : Nat}, bwd to k = some o → σC to σ k = σ o := fun hb => by unfold σC; rw [hb]
    have hcalls := hFn w (boC to bo) (σC to σ) (okC A S w bo to lent) xs (by omega)
      (fun j hj => by
        have := a2 (fun o h => by rw [← hlent]; exact h) j (xs.getD j undef') (by omega) (k1 j (by omega))
        exact this)
      p3
      (fun p hp b hb => by
        obtain ⟨o', x', hb', hx'⟩ := hpre p hp
        rw [hboC hb'] at hb
        have hl := hR.live o' x' b hx' hb
        refine ⟨hl.1, fun hk => hk.2.2 o' x' hx' (.inl ?_) hb⟩
        rw [mem_fwd hn1 (bwd_mem hb')]; rfl)
      (fun p hp q hq b hb hb2 => by
        obtain ⟨o1, x1, hb1, hx1⟩ := hpre p hp
        obtain ⟨o2, x2, hb3, hx2⟩ := hpre q hq
        rw [hboC hb1] at hb
        rw [hboC hb3] at hb2
        have := hR.inj o1 o2 x1 x2 b hx1 hx2 hb hb2
        subst this
        have e1 := mem_fwd hn1 (bwd_mem hb1)
        have e2 := mem_fwd hn1 (bwd_mem hb3)
        rw [e1] at e2
        exact Option.some.inj e2)
      (fun b hb => hb.1)
    have hrun := hrun hcall
    unfold Oper.wp
    rw [hrun, Oper.upon_enter]
    refine calls_mono hcalls fun e w' he => ?_
    obtain ⟨x, bo', σ', rfl, hkeep, hrv, hpo, hpb, hpi, hps⟩ := he
    -- the names
    have hpost' : ∀ p ∈ post, ∀ o', bwd to p.1 = some o' → (isPre pre p.1 = true → o' ∈ kl) ∧ (isPre pre p.1 = false → o' ∉ kl ∧ o' ∈ (postUpd to pre post).2) := by
      intro p hp o' ho'
      refine ⟨fun hpp => ?_, fun hpp => ?_⟩
      · unfold isPre at hpp
        simp only [List.any_eq_true, beq_iff_eq] at hpp
        obtain ⟨q, hq, hqp⟩ := hpp
        obtain ⟨o2, x2, hb2, hx2⟩ := p2 q.1 (List.mem_map.2 ⟨q, hq, rfl⟩)
        rw [hqp, ho'] at hb2
        cases hb2
        exact (hR.orf o' x2 hx2).1
      · have hm : o' ∈ (postUpd to pre post).2 := by
          unfold postUpd
          simp only [List.mem_filterMap]
          exact ⟨p, hp, by simp [hpp, ho']⟩
        exact ⟨hnew o' hm, hm⟩
    let bo'' : Nat → Option Nat := fun o => if o ∈ kl then bo o else match fwd to o with | some k => bo' k | none => none
    let σ'' : Nat → Value := fun o => if o ∈ kl then σ o else match fwd to o with | some k => σ' k | none => undef'
    have hback : ∀ p ∈ to, bo'' p.1 = bo' p.2 ∧ σ'' p.1 = σ' p.2 := by
      rintro ⟨o', k⟩ hp
      have hb := mem_bwd hn2 hp
      have hf := mem_fwd hn1 hp
      have hid := subB_spec t6 k (List.mem_map.2 ⟨_, hp, rfl⟩)
      by_cases hkp : isPre pre k = true
      · have hkp' := hkp
        unfold isPre at hkp
        simp only [List.any_eq_true, beq_iff_eq] at hkp
        obtain ⟨q, hq, rfl⟩ := hkp
        obtain ⟨o2, x2, hb2, hx2⟩ := p2 q.1 (List.mem_map.2 ⟨q, hq, rfl⟩)
        rw [hb] at hb2; cases hb2
        have hkl : o' ∈ kl := (hR.orf o' x2 hx2).1
        obtain ⟨q', hq', hqe⟩ : ∃ q' ∈ pre', q'.1 = q.1 := by
          have : q.1 ∈ pre'.map (·.1) := by rw [p1]; exact List.mem_map.2 ⟨q, hq, rfl⟩
          obtain ⟨q', hq', e⟩ := List.mem_map.1 this
          exact ⟨q', hq', e⟩
        have := hps q' hq'
        rw [hqe, hboC hb, hσC hb] at this
        exact ⟨by simp only [bo'', if_pos hkl]; exact this.1.symm, by simp only [σ'', if_pos hkl]; exact this.2.symm⟩
      · have hkp0 : isPre pre k = false := by simpa using hkp
        have hpo2 : ∃ p ∈ post, p.1 = k := by
          rcases List.mem_append.1 hid with h | h
          · obtain ⟨q, hq, e⟩ := List.mem_map.1 h
            exact absurd (by unfold isPre; simp only [List.any_eq_true, beq_iff_eq]; exact ⟨q, hq, e⟩) hkp
          · obtain ⟨q, hq, e⟩ := List.mem_map.1 h; exact ⟨q, hq, e⟩
        obtain ⟨p, hp', rfl⟩ := hpo2
        have := (hpost' p hp' o' hb).2 hkp0
        exact ⟨by simp only [bo'', if_neg this.1, hf], by simp only [σ'', if_neg this.1, hf]⟩
    have hkeys : ∀ o' : Nat, o' ∈ (postUpd to pre post).1.map (·.1) ↔ (∃ p ∈ pre, bwd to p.1 = some o') ∨ ∃ p ∈ post, bwd to p.1 = some o' := by
      intro o'
      unfold postUpd
      simp only [List.map_append, List.mem_append, List.mem_map, List.mem_filterMap, Option.map_eq_some_iff]
      constructor
      · rintro (⟨_, ⟨p, hp, o2, hb, rfl⟩, rfl⟩ | ⟨_, ⟨p, hp, o2, hb, rfl⟩, rfl⟩)
        · exact .inl ⟨p, hp, hb⟩
        · exact .inr ⟨p, hp, hb⟩
      · rintro (⟨p, hp, hb⟩ | ⟨p, hp, hb⟩)
        · exact .inl ⟨_, ⟨p, hp, o', hb, rfl⟩, rfl⟩
        · exact .inr ⟨_, ⟨p, hp, o', hb, rfl⟩, rfl⟩
    have hpreK : ∀ p ∈ pre', ∃ o' x', bwd to p.1 = some o' ∧ S.obj o' = some x' ∧ o' ∈ (postUpd to pre post).1.map (·.1) := by
      intro p hp
      obtain ⟨o', x', hb, hx⟩ := hpre p hp
      refine ⟨o', x', hb, hx, (hkeys o').2 (.inl ?_)⟩
      have : p.1 ∈ pre.map (·.1) := by rw [← p1]; exact List.mem_map.2 ⟨p, hp, rfl⟩
      obtain ⟨q, hq, e⟩ := List.mem_map.1 this
      exact ⟨q, hq, by rw [e]; exact hb⟩
    generalize hU : ({ sl := (one o.dst (back to r)).sl, ob := cons ++ (postUpd to pre post).1, new := (postUpd to pre post).2 } : Upd) = U at hK hnew
    have hUob : U.ob = cons ++ (postUpd to pre post).1 := by rw [← hU]
    have hUnew : U.new = (postUpd to pre post).2 := by rw [← hU]
    -- what a key holds afterwards came back
    have hkeyob : ∀ o' x', o' ∈ U.ob.map (·.1) → (S.app U).obj o' = some x' → ∃ p ∈ post, bwd to p.1 = some o' ∧ x' = backO to p.2 := by
      intro o' x' ho' hx'
      rw [app_obj] at hx'
      rcases wrOb_some hx' with h | ⟨h, -⟩
      · rw [hUob] at h
        unfold postUpd at h
        simp only [List.mem_append, List.mem_filterMap, Option.map_eq_some_iff] at h
        rcases h with h | ⟨p, hp, o2, hb, he⟩ | ⟨p, hp, o2, hb, he⟩
        · have := hcons3 _ h; cases this
        · cases he
        · cases he; exact ⟨p, hp, hb, rfl⟩
      · exact absurd ho' h
    have hnotkey : ∀ o', o' ∉ U.ob.map (·.1) → (S.app U).obj o' = S.obj o' := fun o' h => by rw [app_obj, wrOb_not h]
    have hinkl : ∀ o' k, (o', k) ∈ to → o' ∈ U.new ++ kl := by
      intro o' k hp
      have hb := mem_bwd hn2 hp
      have hid := subB_spec t6 k (List.mem_map.2 ⟨_, hp, rfl⟩)
      by_cases hkp : isPre pre k = true
      · unfold isPre at hkp
        simp only [List.any_eq_true, beq_iff_eq] at hkp
        obtain ⟨q, hq, rfl⟩ := hkp
        obtain ⟨o2, x2, hb2, hx2⟩ := p2 q.1 (List.mem_map.2 ⟨q, hq, rfl⟩)
        rw [hb] at hb2; cases hb2
        exact List.mem_append.2 (.inr (hR.orf o' x2 hx2).1)
      · rcases List.mem_append.1 hid with h | h
        · obtain ⟨q, hq, e⟩ := List.mem_map.1 h
          exact absurd (by unfold isPre; simp only [List.any_eq_true, beq_iff_eq]; exact ⟨q, hq, e⟩) hkp
        · obtain ⟨p, hp', rfl⟩ := List.mem_map.1 h
          exact List.mem_append.2 (.inl (by rw [hUnew]; exact ((hpost' p hp' o' hb).2 (by simpa using hkp)).2))
    -- what may be read
    have hok : rf = false → ∀ k, okAfter w w' (okC A S w bo to lent) (boC to bo) pre' bo' post k → okS A (S.app U) w' bo'' k := by
      intro hl k ⟨g1, g2, g3⟩
      refine ⟨g1, fun hk => ?_, fun o' x' hx' hb' => ?_⟩
      · rcases g2 (Nat.lt_of_lt_of_le hk hR.keep.size) with h | ⟨q, hq, hb⟩
        · exact h.2.1 hk
        · obtain ⟨o2, x2, hb2, hx2⟩ := hpre q hq
          rw [hboC hb2] at hb
          exact .inr ((hR.live o2 x2 k hx2 hb).2 hk)
      · by_cases hkey : o' ∈ U.ob.map (·.1)
        · obtain ⟨p, hp, hb, -⟩ := hkeyob o' x' hkey hx'
          rw [(hback _ (bwd_mem hb)).1] at hb'
          exact g3 p hp hb'
        · rw [hnotkey o' hkey] at hx'
          have hkl := (hR.orf o' x' hx').1
          simp only [bo'', if_pos hkl] at hb'
          have hlt := (hR.live o' x' k hx' hb').1
          rcases g2 hlt with h | ⟨q, hq, hb⟩
          · exact h.2.2 o' x' hx' (.inr fun hm => hkey (by rw [hUob, List.map_append]; exact List.mem_append.2 (.inl (hcons2 hl o' hm)))) hb'
          · obtain ⟨o2, x2, hb2, hx2, hk2⟩ := hpreK q hq
            rw [hboC hb2] at hb
            have := hR.inj o' o2 x' x2 k hx' hx2 hb' hb
            subst this
            exact hkey (by rw [hUob, List.map_append]; exact List.mem_append.2 (.inr hk2))
    have hst := hR.step (w' := w') (bo' := bo'') (σ' := σ'') U o.dst x
      ⟨hkeep.os, hkeep.tape, hkeep.output, hkeep.size, fun k hk hn => hkeep.block k hk fun ⟨p, hp, hb⟩ => by
        obtain ⟨o', x', hb', hx', hk'⟩ := hpreK p hp
        rw [hboC hb'] at hb
        exact hn ⟨o', by rw [hUob, List.map_append]; exact List.mem_append.2 (.inr hk'), x', hx', hb⟩⟩
      (fun o' ho' => ⟨by simp only [bo'', if_pos ho'], by simp only [σ'', if_pos ho']⟩)
      (by
        cases hd : o.dst with
        | none => exact .inl ⟨by rw [← hU, hd]; rfl, rfl⟩
        | some t =>
          refine .inr ⟨t, back to r, by rw [← hU, hd]; rfl, rfl, ?_, fun o' ho' => ?_⟩
          · exact back_ok (lent := rf) (E := ⟨w', bo', σ', okAfter w w' (okC A S w bo to lent) (boC to bo) pre' bo' post⟩) (E' := A.env (S.app U) w' bo'' σ'') rfl hok hback (fun hl => (hro hl).1) hrv
          · obtain ⟨k, hk⟩ := refs_back o' ho'
            exact hinkl o' k hk)
      (fun o' x' ho' hx' => by
        obtain ⟨p, hp, hb, rfl⟩ := hkeyob o' x' ho' hx'
        refine ⟨backO_ok (lent := rf) (E := ⟨w', bo', σ', okAfter w w' (okC A S w bo to lent) (boC to bo) pre' bo' post⟩) (E' := A.env (S.app U) w' bo'' σ'') rfl hok hback (bwd_mem hb) (fun hl => (hro hl).2 p hp) (hpo p hp), hinkl o' p.1 (bwd_mem hb), fun q hq => ?_, fun b hbb => ?_⟩
        · obtain ⟨k, hk⟩ := orefs_back q hq
          exact hinkl q k hk
        · rw [(hback _ (bwd_mem hb)).1] at hbb
          obtain ⟨g1, g2⟩ := hpb p hp b hbb
          refine ⟨g1, fun hlt => ?_⟩
          obtain ⟨q, hq, hqb⟩ := g2 hlt
          obtain ⟨o2, x2, hb2, hx2, hk2⟩ := hpreK q hq
          rw [hboC hb2] at hqb
          exact ⟨o2, by rw [hUob, List.map_append]; exact List.mem_append.2 (.inr hk2), x2, hx2, hqb⟩)
      (fun o1 o2 x1 x2 b ho1 ho2 hx1 hx2 hb1 hb2 => by
        obtain ⟨p, hp, hbp, -⟩ := hkeyob o1 x1 ho1 hx1
        obtain ⟨q, hq, hbq, -⟩ := hkeyob o2 x2 ho2 hx2
        rw [(hback _ (bwd_mem hbp)).1] at hb1
        rw [(hback _ (bwd_mem hbq)).1] at hb2
        have := hpi p hp q hq b hb1 hb2
        rw [this, hbq] at hbp
        exact (Option.some.inj hbp).symm)
    exact hK x w' bo'' σ'' hst
  · exact (go_fail h3).elim

theorem callable_run {f : Nat} (hcall : callable P f = true) (args : Array Value) (w : World) : (callFunc f args).run P w = .ok (.enter f args) w := by
  unfold callable at hcall
  split at hcall
  · rename_i fn hfn
    simp only [Bool.and_eq_true, Bool.not_eq_true', beq_eq_false_iff_ne] at hcall
    have hb : fn.body.isNone = false := by
      have := hcall.1
      cases hbb : fn.body <;> simp [hbb] at this ⊢
    have hn : (fn.name == "runtime.NumGoroutine") = false := by simpa using hcall.2
    simp only [callFunc, run_program, Sem.run_bind, Result.andThen_ok, hfn]
    rw [hn, hb]
    simp
  · cases hcall

theorem call_ok {A : Amb} {o : Oper} {S : St} {kl : List Nat} {c : Call} {f : Nat} (ho : o.op = .call c) (hc : c.callee = .value (.func f)) {u : Upd} {os os' : List (Ora P Φ)} {R D}
    (h : (callE o.dst f c.args.toList : RD P Φ Upd).go S os = some (u, R, D, os')) (hs : ∀ d ∈ D, Sat P Φ d) : OpOk P A o S u kl := by
  intro a w bo σ hR hnew K Q hK
  unfold callE at h
  obtain ⟨ds, R1, D1, os1, R2, D2, h1, h2, rfl, rfl⟩ := go_bind _ _ h
  obtain ⟨k0, rfl, rfl, k1, k2⟩ := opds_ok hR h1
  refine callD_ok h2 (fun d hd => hs d (by simp [hd])) hR hnew hK (xs := c.args.toList.map a.eval) (by simp [k0]) (fun j hj => k1 j (by simpa using hj)) fun hcall => ?_
  have hargs : (c.args.toList.map a.eval).toArray = c.args.map a.eval := by apply Array.ext'; simp
  have he : a.eval (.func f) = .func (.func f) #[] #[] := rfl
  rw [hargs]
  simp [execOp, ho, resolve, hc, he, Deferred.ofValue, invoke, callable_run hcall]

theorem callV_ok {A : Amb} {o : Oper} {S : St} {kl : List Nat} {c : Call} {x : Operand} (ho : o.op = .call c) (hc : c.callee = .value x) {u : Upd} {os os' : List (Ora P Φ)} {R D}
    (h : (callV o.dst x c.args.toList : RD P Φ Upd).go S os = some (u, R, D, os')) (hs : ∀ d ∈ D, Sat P Φ d) : OpOk P A o S u kl := by
  intro a w bo σ hR hnew K Q hK
  unfold callV at h
  obtain ⟨dx, R0, D0, os0, R1, D1, h0, h1, rfl, rfl⟩ := go_bind _ _ h
  obtain ⟨kx, rfl, rfl, -⟩ := opd_ok hR h0
  split at h1
  · rename_i f cs
    obtain ⟨ds, R2, D2, os2, R3, D3, h2, h3, rfl, rfl⟩ := go_bind _ _ h1
    obtain ⟨k0, rfl, rfl, k1, k2⟩ := opds_ok hR h2
    obtain ⟨vs, e1, e2, e3⟩ := kx
    refine callD_ok h3 (fun d hd => hs d (by simp [hd])) hR hnew hK (xs := c.args.toList.map a.eval ++ vs) (by simp [k0, e2]) (fun j hj => ?_) fun hcall => ?_
    · by_cases hlt : j < ds.length
      · have := k1 j (by omega)
        have a1 : (ds ++ cs.map fun p => DV.bx p.1 p.2).getD j .un = ds.getD j .un := by simp [List.getD_eq_getElem?_getD, List.getElem?_append, hlt]
        have a2 : (c.args.toList.map a.eval ++ vs).getD j undef' = (c.args.toList.map a.eval).getD j undef' := by
          have : j < c.args.size := by simpa [k0] using hlt
          simp [List.getD_eq_getElem?_getD, List.getElem?_append, this]
        rw [a1, a2]; exact this
      · have hj2 : j - ds.length < cs.length := by simp [e2] at hj; simp at k0; omega
        obtain ⟨b, b1, b2⟩ := e3 _ hj2
        have a1 : (ds ++ cs.map fun p => DV.bx p.1 p.2).getD j .un = .bx (cs.getD (j - ds.length) (0, 0)).1 (cs.getD (j - ds.length) (0, 0)).2 := by
          simp [List.getD_eq_getElem?_getD, List.getElem?_append, hlt, hj2]
        have a2 : (c.args.toList.map a.eval ++ vs).getD j undef' = vs.getD (j - ds.length) undef' := by
          have h4 : ¬ j < c.args.size := by simp at k0; omega
          have h5 : c.args.size = ds.length := by simp at k0; omega
          simp [List.getD_eq_getElem?_getD, List.getElem?_append, h4, h5, hlt]
        rw [a1, a2]
        exact ⟨b, b1, b2⟩
    · have hargs : (c.args.toList.map a.eval ++ vs).toArray = c.args.map a.eval ++ vs.toArray := by apply Array.ext'; simp
      rw [hargs]
      simp [execOp, ho, resolve, hc, e1, Deferred.ofValue, invoke, callable_run hcall]
  · exact (go_fail h1).elim

theorem capsOf_spec : ∀ {ds : List DV} {cs : List (Nat × Nat)}, capsOf ds = some cs → ds = cs.map fun p => DV.bx p.1 p.2
  | [], cs, h => by simp [capsOf] at h; subst h; rfl
  | d :: l, cs, h => by
    cases d with
    | bx o off =>
      simp only [capsOf, Option.map_eq_some_iff] at h
      obtain ⟨r, h1, rfl⟩ := h
      rw [capsOf_spec h1]; rfl
    | _ => simp [capsOf] at h

theorem makeFunc_ok {A : Amb} {o : Oper} {S : St} {kl : List Nat} {f : Nat} {first caps : Array Operand} (ho : o.op = .makeFunc (.func f) first caps) (hf : first.isEmpty = true) {d : DV} {os os' : List (Ora P Φ)} {R D}
    (h : ((opds caps.toList).bind fun ds => (ofO (capsOf ds)).bind fun cs => .ret (.cl f cs) : RD P Φ DV).go S os = some (d, R, D, os')) (a : Act) (w : World) (bo : Nat → Option Nat) (σ : Nat → Value) (hR : Rel A S a.tmps w bo σ kl) :
    ∃ v, (execOp a.eval o).run P w = .ok (.value v) w ∧ RV (A.env S w bo σ) d v ∧ ∀ p ∈ refs d, p ∈ kl := by
  obtain ⟨ds, R1, D1, os1, R2, D2, h1, h2, rfl, rfl⟩ := go_bind _ _ h
  obtain ⟨k0, rfl, rfl, k1, k2⟩ := opds_ok hR h1
  obtain ⟨cs, R3, D3, os3, R4, D4, h3, h4, rfl, rfl⟩ := go_bind _ _ h2
  obtain ⟨h5, -⟩ := go_ofO h3
  obtain ⟨rfl, -, -, -⟩ := go_ret h4
  have hds := capsOf_spec h5
  have hfe : first = #[] := by simpa using hf
  refine ⟨.func (.func f) #[] (caps.map a.eval), ?_, ⟨caps.toList.map a.eval, ?_, ?_, fun j hj => ?_⟩, fun p hp => ?_⟩
  · simp [execOp, ho, Instr.makeFunc, hfe]
  · congr 1; apply Array.ext'; simp
  · rw [List.length_map, ← k0, hds, List.length_map]
  · have h6 := k1 j (by rw [← k0, hds]; simpa using hj)
    have e : ds.getD j .un = .bx (cs.getD j (0, 0)).1 (cs.getD j (0, 0)).2 := by rw [hds]; simp [List.getD_eq_getElem?_getD, hj]
    rw [e] at h6
    exact h6
  · simp only [refs, refs1, refs0, List.mem_map] at hp
    obtain ⟨c, hc, rfl⟩ := hp
    exact k2 (.bx c.1 c.2) (by rw [hds]; exact List.mem_map.2 ⟨c, hc, rfl⟩) c.1 (by simp [refs, refs1, refs0])

end Go.Eng
