import Derived.Test.YtdfepbmcglnhcaaGreatPtEB
import Derived.Laws.Slices
import Derived.Laws.OwnMore
import Derived.Laws.IdiomStrings
import Derived.Orders
import Derived.Below
import Derived.Laws.Rows
import GoSem.Claim
section
set_option linter.unusedSimpArgs false
set_option linter.unusedVariables false
/-! Soundness, 14: calls, the other half. -/
namespace Go.Eng
open Go
variable {P : Program} {Φ : List It → St → Prop}

section
variable {E E' : Env} {to : List (Nat × Nat)} {lent : Bool}

theorem rp_back (hw : E'.w = E.w) (hok : lent = false → ∀ k, E.ok k → E'.ok k) {d : DV} {x : Value} (hf : lent = true → flatD d = true) (h : RP E.w E.ok d x) : RP E'.w E'.ok d x := by
  cases hl : lent with
  | true => exact h.flat (hf hl)
  | false => rw [hw]; exact h.mono fun k hk => ⟨hok hl k hk, rfl⟩

theorem back0_ok (hw : E'.w = E.w) (hok : lent = false → ∀ k, E.ok k → E'.ok k) (hb : ∀ p ∈ to, E'.bo p.1 = E.bo p.2 ∧ E'.σ p.1 = E.σ p.2) {d : DV} {x : Value} (hf : lent = true → roFree0 d = true) (h : RV0 E d x) : RV0 E' (back0 to d) x := by
  cases d with
  | ow k =>
    simp only [back0]
    split
    · rename_i o ho
      obtain ⟨h1, h2⟩ := h
      exact ⟨by rw [(hb _ (bwd_mem ho)).2]; exact h1, h2⟩
    · trivial
  | bx k off =>
    simp only [back0]
    split
    · rename_i o ho
      obtain ⟨b, h1, h2⟩ := h
      exact ⟨b, by rw [(hb _ (bwd_mem ho)).1]; exact h1, h2⟩
    · trivial
  | pw => trivial
  | cl => trivial
  | ro fl esz n L =>
    cases hl : lent with
    | true => have := hf hl; simp [roFree0] at this
    | false => exact RP.mono h fun k hk => ⟨hok hl k hk, by rw [hw]⟩
  | pe cs off =>
    cases hl : lent with
    | true => have := hf hl; simp [roFree0] at this
    | false =>
      obtain ⟨a0, h1, h2, h3⟩ := h
      refine ⟨a0, hok hl _ h1, h2, fun j hj => ?_⟩
      obtain ⟨y, h4, h5, h6⟩ := h3 j hj
      exact ⟨y, by rw [hw]; exact h4, h5, h6.mono fun k hk => ⟨hok hl k hk, by rw [hw]⟩⟩
  | un => trivial
  | v y => exact h
  | lb b => exact h
  | nl => exact h
  | ag cs => exact h.elim
  | tu vs => exact h.elim

theorem getD_map0 (cs : List DV) (j : Nat) (f : DV → DV) (hj : j < cs.length) : (cs.map f).getD j .un = f (cs.getD j .un) := by
  simp [List.getD_eq_getElem?_getD, hj]

theorem back1_ok (hw : E'.w = E.w) (hok : lent = false → ∀ k, E.ok k → E'.ok k) (hb : ∀ p ∈ to, E'.bo p.1 = E.bo p.2 ∧ E'.σ p.1 = E.σ p.2) {d : DV} {x : Value} (hf : lent = true → roFree1 d = true) (h : RV1 E d x) : RV1 E' (back1 to d) x := by
  cases d with
  | ag cs =>
    obtain ⟨vs, rfl, h2, h3⟩ := h
    refine ⟨vs, rfl, by simpa using h2, fun j hj => ?_⟩
    rw [List.length_map] at hj
    rw [getD_map0 cs j _ hj]
    refine ⟨back0_ok hw hok hb (fun hl => ?_) (h3 j hj).1, (h3 j hj).2⟩
    have := hf hl
    simp only [roFree1, List.all_eq_true] at this
    exact this _ (getD_mem cs j _ hj)
  | tu vs => exact h.elim
  | ow k =>
    have := back0_ok (d := .ow k) hw hok hb hf h
    simp only [back1, back0] at this ⊢
    split <;> rename_i hh <;> simp only [hh] at this <;> exact this
  | bx k off =>
    have := back0_ok (d := .bx k off) hw hok hb hf h
    simp only [back1, back0] at this ⊢
    split <;> rename_i hh <;> simp only [hh] at this <;> exact this
  | un => trivial
  | v y => exact back0_ok (d := .v y) hw hok hb hf h
  | lb y => exact back0_ok (d := .lb y) hw hok hb hf h
  | nl => exact back0_ok (d := .nl) hw hok hb hf h
  | pw o i e f => exact back0_ok (d := .pw o i e f) hw hok hb hf h
  | ro f e n L => exact back0_ok (d := .ro f e n L) hw hok hb hf h
  | pe cs f => exact back0_ok (d := .pe cs f) hw hok hb hf h
  | cl f cs => trivial

theorem back_ok (hw : E'.w = E.w) (hok : lent = false → ∀ k, E.ok k → E'.ok k) (hb : ∀ p ∈ to, E'.bo p.1 = E.bo p.2 ∧ E'.σ p.1 = E.σ p.2) {d : DV} {x : Value} (hf : lent = true → roFree d = true) (h : RV E d x) : RV E' (back to d) x := by
  cases d with
  | tu ds =>
    obtain ⟨vs, rfl, h2, h3⟩ := h
    refine ⟨vs, rfl, by simpa using h2, fun j hj => ?_⟩
    rw [List.length_map] at hj
    rw [getD_map0 ds j _ hj]
    refine back1_ok hw hok hb (fun hl => ?_) (h3 j hj)
    have := hf hl
    simp only [roFree, List.all_eq_true] at this
    exact this _ (getD_mem ds j _ hj)
  | ow k =>
    have := back1_ok (d := .ow k) hw hok hb hf h
    simp only [back, back1, back0] at this ⊢
    split <;> rename_i hh <;> simp only [hh] at this <;> exact this
  | bx k off =>
    have := back1_ok (d := .bx k off) hw hok hb hf h
    simp only [back, back1, back0] at this ⊢
    split <;> rename_i hh <;> simp only [hh] at this <;> exact this
  | un => trivial
  | v y => exact back1_ok (d := .v y) hw hok hb hf h
  | lb y => exact back1_ok (d := .lb y) hw hok hb hf h
  | nl => exact back1_ok (d := .nl) hw hok hb hf h
  | pw o i e f => exact back1_ok (d := .pw o i e f) hw hok hb hf h
  | ro f e n L => exact back1_ok (d := .ro f e n L) hw hok hb hf h
  | pe cs f => exact back1_ok (d := .pe cs f) hw hok hb hf h
  | cl f cs => trivial
  | ag cs => exact back1_ok (d := .ag cs) hw hok hb hf h

theorem backO_ok (hw : E'.w = E.w) (hok : lent = false → ∀ k, E.ok k → E'.ok k) (hb : ∀ p ∈ to, E'.bo p.1 = E.bo p.2 ∧ E'.σ p.1 = E.σ p.2) {o k : Nat} (hok2 : (o, k) ∈ to) {x : Ob} (hf : lent = true → roFreeO x = true) (h : ObOk E k x) : ObOk E' o (backO to x) := by
  have hbo := hb _ hok2
  cases x with
  | box cs =>
    obtain ⟨b, T, vs, g1, g2, g3, g4⟩ := h
    refine ⟨b, T, vs, by rw [hbo.1]; exact g1, by rw [hw]; exact g2, by simpa using g3, fun j hj => ?_⟩
    rw [List.length_map] at hj
    rw [getD_map0 cs j _ hj]
    refine ⟨back0_ok hw hok hb (fun hl => ?_) (g4 j hj).1, (g4 j hj).2⟩
    have := hf hl
    simp only [roFreeO, List.all_eq_true] at this
    exact this _ (getD_mem cs j _ hj)
  | row fl T esz n L =>
    obtain ⟨g1, g2, g3, g4, g5, vs, g6, g7⟩ := h
    refine ⟨g1, g2, g3, g4, by rw [hbo.1, hbo.2]; exact g5, vs, by rw [hw, hbo.2]; exact g6, fun i j hi hj => ⟨rp_back (lent := lent) hw hok (fun hl => ?_) (g7 i j hi hj).1, (g7 i j hi hj).2⟩⟩
    have hfl : fl = true := hf hl
    have hli : i < L.length := by omega
    exact g4 hfl _ (getD_mem L i [] hli) _ (getD_mem _ j _ (by rw [g3 _ (getD_mem L i [] hli)]; exact hj))

theorem refs_back {d : DV} : ∀ o ∈ refs (back to d), ∃ k, (o, k) ∈ to := by
  have r0 : ∀ d : DV, ∀ o ∈ refs0 (back0 to d), ∃ k, (o, k) ∈ to := by
    intro d o ho
    cases d with
    | ow k =>
      simp only [back0] at ho
      split at ho
      · rename_i o' h'
        simp [refs0] at ho; subst ho; exact ⟨k, bwd_mem h'⟩
      · simp [refs0] at ho
    | bx k off =>
      simp only [back0] at ho
      split at ho
      · rename_i o' h'
        simp [refs0] at ho; subst ho; exact ⟨k, bwd_mem h'⟩
      · simp [refs0] at ho
    | _ => simp [back0, refs0] at ho
  have r1 : ∀ d : DV, ∀ o ∈ refs1 (back1 to d), ∃ k, (o, k) ∈ to := by
    intro d o ho
    cases d with
    | ag cs =>
      simp only [back1, refs1, List.mem_flatMap, List.mem_map] at ho
      obtain ⟨_, ⟨e, _, rfl⟩, ho⟩ := ho
      exact r0 e o ho
    | ow k =>
      refine r0 (.ow k) o ?_
      simp only [back1, back0] at ho ⊢
      split at ho <;> exact ho
    | bx k off =>
      refine r0 (.bx k off) o ?_
      simp only [back1, back0] at ho ⊢
      split at ho <;> exact ho
    | _ => simp [back1, back0, refs1, refs0] at ho
  intro o ho
  cases d with
  | tu ds =>
    simp only [back, refs, List.mem_flatMap, List.mem_map] at ho
    obtain ⟨_, ⟨e, _, rfl⟩, ho⟩ := ho
    exact r1 e o ho
  | ag cs => exact r1 (.ag cs) o ho
  | ow k =>
    refine r1 (.ow k) o ?_
    simp only [back, back1, back0] at ho ⊢
    split at ho <;> exact ho
  | bx k off =>
    refine r1 (.bx k off) o ?_
    simp only [back, back1, back0] at ho ⊢
    split at ho <;> exact ho
  | _ => simp [back, back1, back0, refs, refs1, refs0] at ho

theorem orefs_back {x : Ob} : ∀ o ∈ orefs (backO to x), ∃ k, (o, k) ∈ to := by
  intro o ho
  cases x with
  | box cs => exact refs_back (d := .ag cs) o (by simpa only [back, back1, refs, refs1, backO, orefs] using ho)
  | row => simp [backO, orefs] at ho
end

theorem wrOb_some {us : List (Nat × Option Ob)} {o : Nat} {x : Ob} : ∀ {c : Option Ob}, wrOb us o c = some x → (o, some x) ∈ us ∨ (o ∉ us.map (·.1) ∧ c = some x) := by
  induction us with
  | nil => intro c h; exact .inr ⟨by simp, h⟩
  | cons p us ih =>
    intro c h
    simp only [wrOb, List.foldl_cons] at h
    rcases ih h with h1 | ⟨h1, h2⟩
    · exact .inl (by simp [h1])
    · by_cases hp : p.1 = o
      · rw [if_pos hp] at h2
        obtain ⟨a, b⟩ := p
        simp at hp h2; subst hp; subst h2
        exact .inl (by simp)
      · rw [if_neg hp] at h2
        refine .inr ⟨?_, h2⟩
        simp only [List.map_cons, List.mem_cons, not_or]
        exact ⟨fun e => hp e.symm, h1⟩

theorem callD_ok {A : Amb} {o : Oper} {S : St} {kl : List Nat} {f : Nat} {ds : List DV} {u : Upd} {os os' : List (Ora P Φ)} {R D}
    (h : (callD o.dst f ds : RD P Φ Upd).go S os = some (u, R, D, os')) (hs : ∀ d ∈ D, Sat P Φ d) {a : Act} {w : World} {bo : Nat → Option Nat} {σ : Nat → Value} (hR : Rel A S a.tmps w bo σ kl) (hnew : ∀ n ∈ u.new, n ∉ kl)
    {K : Act → World → Prop} {Q : Exit → Act → World → Prop} (hK : ∀ v w' bo' σ', Rel A (S.app u) (putT a.tmps o.dst v) w' bo' σ' (u.new ++ kl) → K (a.put o.dst v) w')
    {xs : List Value} (k0 : ds.length = xs.length) (k1 : ∀ j, j < xs.length → RV (A.env S w bo σ) (ds.getD j .un) (xs.getD j undef'))
    (hrun : callable P f = true → (execOp a.eval o).run P w = .ok (.enter f xs.toArray) w) : o.wp P a w K Q := by
  unfold callD at h
  by_cases hcall : callable P f = true
  case neg => rw [if_neg hcall] at h; exact (go_fail h).elim
  rw [if_pos hcall] at h
  obtain ⟨q, os2, rfl, h3⟩ := go_peek h
  split at h3
  · rename_i to f' as0 pre post r hF
    obtain ⟨as, R3, D3, os3, R4, D4, h4, h5, rfl, rfl⟩ := go_bind _ _ h3
    obtain ⟨pre', R5, D5, os5, R6, D6, h6, h7, rfl, rfl⟩ := go_bind _ _ h5
    by_cases hto : toOk to pre post = true
    case neg => rw [if_neg hto] at h7; exact (go_fail h7).elim
    rw [if_pos hto] at h7
    obtain ⟨_, os7, D7, -, h8, rfl⟩ := go_req h7
    obtain ⟨rfl, -, -, -⟩ := go_ret h8
    simp only [Bool.and_eq_true, toOk] at hto
    obtain ⟨⟨⟨⟨⟨t1, t2⟩, t3⟩, t4⟩, t5⟩, t6⟩ := hto
    have hn1 := nodupB_spec t1
    have hn2 := nodupB_spec t2
    generalize hlent : ds.flatMap (lentIds1 to) = lent
    generalize hrf : (roFree r && post.all fun p => roFreeO p.2) = rf
    have hro : rf = true → roFree r = true ∧ ∀ p ∈ post, roFreeO p.2 = true := by
      intro hl
      rw [hl] at hrf
      simpa [List.all_eq_true] using hrf
    generalize hcons : consumed to ds r post = cons at *
    have hcons1 : ∀ o, o ∈ cons.map (·.1) → o ∈ lent := by
      intro o ho
      rw [← hcons] at ho
      unfold consumed at ho
      split at ho
      · cases ho
      · rw [hlent] at ho; simpa using ho
    have hcons2 : rf = false → ∀ o ∈ lent, o ∈ cons.map (·.1) := by
      intro hl o ho
      rw [← hcons]
      unfold consumed
      rw [hrf, hl, hlent]
      simpa using ho
    have hcons3 : ∀ p ∈ cons, p.2 = none := by
      intro p hp
      rw [← hcons] at hp
      unfold consumed at hp
      split at hp
      · cases hp
      · obtain ⟨o, -, rfl⟩ := List.mem_map.1 hp; rfl
    obtain ⟨rfl, rfl, a1, a2⟩ := argsOf_ok (lent := lent) hR hn2 h4
    obtain ⟨rfl, rfl, p1, p2, p3⟩ := preOf_ok (lent := lent) hR hn2 h6
    have hFn : Fn P f as pre' post r := hs (.call f as pre' post r) (by simp)
    have hpre : ∀ p ∈ pre', ∃ o x, bwd to p.1 = some o ∧ S.obj o = some x := fun p hp => p2 p.1 (by rw [← p1]; exact List.mem_map.2 ⟨p, hp, rfl⟩)
    have hboC : ∀ {k o : Nat}, bwd to k = some o → boC to bo k = bo o := fun hb => by unfold boC; rw [hb]; rfl
    have hσC : ∀ {k o : Nat}, bwd to k = some o → σC to σ k = σ o := fun hb => by unfold σC; rw [hb]
    have hcalls := hFn w (boC to bo) (σC to σ) (okC A S w bo to lent) xs (by omega)
      (fun j hj => by
        have := a2 (fun o h => by rw [← hlent]; exact h) j (xs.getD j undef') (by omega) (k1 j (by omega))
        exact this)
      p3
      (fun p hp b hb => by
        obtain ⟨o', x', hb', hx'⟩ := hpre p hp
        rw [hboC hb'] at hb
        have hl := hR.live o' x' b hx' hb
        refine ⟨hl.1, fun hk => hk.2.2 o' x' hx' (.inl ?_) hb⟩
        rw [mem_fwd hn1 (bwd_mem hb')]; rfl)
      (fun p hp q hq b hb hb2 => by
        obtain ⟨o1, x1, hb1, hx1⟩ := hpre p hp
        obtain ⟨o2, x2, hb3, hx2⟩ := hpre q hq
        rw [hboC hb1] at hb
        rw [hboC hb3] at hb2
        have := hR.inj o1 o2 x1 x2 b hx1 hx2 hb hb2
        subst this
        have e1 := mem_fwd hn1 (bwd_mem hb1)
        have e2 := mem_fwd hn1 (bwd_mem hb3)
        rw [e1] at e2
        exact Option.some.inj e2)
      (fun b hb => hb.1)
    have hrun := hrun hcall
    unfold Oper.wp
    rw [hrun, Oper.upon_enter]
    refine calls_mono hcalls fun e w' he => ?_
    obtain ⟨x, bo', σ', rfl, hkeep, hrv, hpo, hpb, hpi, hps⟩ := he
    -- the names
    have hpost' : ∀ p ∈ post, ∀ o', bwd to p.1 = some o' → (isPre pre p.1 = true → o' ∈ kl) ∧ (isPre pre p.1 = false → o' ∉ kl ∧ o' ∈ (postUpd to pre post).2) := by
      intro p hp o' ho'
      refine ⟨fun hpp => ?_, fun hpp => ?_⟩
      · unfold isPre at hpp
        simp only [List.any_eq_true, beq_iff_eq] at hpp
        obtain ⟨q, hq, hqp⟩ := hpp
        obtain ⟨o2, x2, hb2, hx2⟩ := p2 q.1 (List.mem_map.2 ⟨q, hq, rfl⟩)
        rw [hqp, ho'] at hb2
        cases hb2
        exact (hR.orf o' x2 hx2).1
      · have hm : o' ∈ (postUpd to pre post).2 := by
          unfold postUpd
          simp only [List.mem_filterMap]
          exact ⟨p, hp, by simp [hpp, ho']⟩
        exact ⟨hnew o' hm, hm⟩
    let bo'' : Nat → Option Nat := fun o => if o ∈ kl then bo o else match fwd to o with | some k => bo' k | none => none
    let σ'' : Nat → Value := fun o => if o ∈ kl then σ o else match fwd to o with | some k => σ' k | none => undef'
    have hback : ∀ p ∈ to, bo'' p.1 = bo' p.2 ∧ σ'' p.1 = σ' p.2 := by
      rintro ⟨o', k⟩ hp
      have hb := mem_bwd hn2 hp
      have hf := mem_fwd hn1 hp
      have hid := subB_spec t6 k (List.mem_map.2 ⟨_, hp, rfl⟩)
      by_cases hkp : isPre pre k = true
      · have hkp' := hkp
        unfold isPre at hkp
        simp only [List.any_eq_true, beq_iff_eq] at hkp
        obtain ⟨q, hq, rfl⟩ := hkp
        obtain ⟨o2, x2, hb2, hx2⟩ := p2 q.1 (List.mem_map.2 ⟨q, hq, rfl⟩)
        rw [hb] at hb2; cases hb2
        have hkl : o' ∈ kl := (hR.orf o' x2 hx2).1
        obtain ⟨q', hq', hqe⟩ : ∃ q' ∈ pre', q'.1 = q.1 := by
          have : q.1 ∈ pre'.map (·.1) := by rw [p1]; exact List.mem_map.2 ⟨q, hq, rfl⟩
          obtain ⟨q', hq', e⟩ := List.mem_map.1 this
          exact ⟨q', hq', e⟩
        have := hps q' hq'
        rw [hqe, hboC hb, hσC hb] at this
        exact ⟨by simp only [bo'', if_pos hkl]; exact this.1.symm, by simp only [σ'', if_pos hkl]; exact this.2.symm⟩
      · have hkp0 : isPre pre k = false := by simpa using hkp
        have hpo2 : ∃ p ∈ post, p.1 = k := by
          rcases List.mem_append.1 hid with h | h
          · obtain ⟨q, hq, e⟩ := List.mem_map.1 h
            exact absurd (by unfold isPre; simp only [List.any_eq_true, beq_iff_eq]; exact ⟨q, hq, e⟩) hkp
          · obtain ⟨q, hq, e⟩ := List.mem_map.1 h; exact ⟨q, hq, e⟩
        obtain ⟨p, hp', rfl⟩ := hpo2
        have := (hpost' p hp' o' hb).2 hkp0
        exact ⟨by simp only [bo'', if_neg this.1, hf], by simp only [σ'', if_neg this.1, hf]⟩
    have hkeys : ∀ o' : Nat, o' ∈ (postUpd to pre post).1.map (·.1) ↔ (∃ p ∈ pre, bwd to p.1 = some o') ∨ ∃ p ∈ post, bwd to p.1 = some o' := by
      intro o'
      unfold postUpd
      simp only [List.map_append, List.mem_append, List.mem_map, List.mem_filterMap, Option.map_eq_some_iff]
      constructor
      · rintro (⟨_, ⟨p, hp, o2, hb, rfl⟩, rfl⟩ | ⟨_, ⟨p, hp, o2, hb, rfl⟩, rfl⟩)
        · exact .inl ⟨p, hp, hb⟩
        · exact .inr ⟨p, hp, hb⟩
      · rintro (⟨p, hp, hb⟩ | ⟨p, hp, hb⟩)
        · exact .inl ⟨_, ⟨p, hp, o', hb, rfl⟩, rfl⟩
        · exact .inr ⟨_, ⟨p, hp, o', hb, rfl⟩, rfl⟩
    have hpreK : ∀ p ∈ pre', ∃ o' x', bwd to p.1 = some o' ∧ S.obj o' = some x' ∧ o' ∈ (postUpd to pre post).1.map (·.1) := by
      intro p hp
      obtain ⟨o', x', hb, hx⟩ := hpre p hp
      refine ⟨o', x', hb, hx, (hkeys o').2 (.inl ?_)⟩
      have : p.1 ∈ pre.map (·.1) := by rw [← p1]; exact List.mem_map.2 ⟨p, hp, rfl⟩
      obtain ⟨q, hq, e⟩ := List.mem_map.1 this
      exact ⟨q, hq, by rw [e]; exact hb⟩
    generalize hU : ({ sl := (one o.dst (back to r)).sl, ob := cons ++ (postUpd to pre post).1, new := (postUpd to pre post).2 } : Upd) = U at hK hnew
    have hUob : U.ob = cons ++ (postUpd to pre post).1 := by rw [← hU]
    have hUnew : U.new = (postUpd to pre post).2 := by rw [← hU]
    -- what a key holds afterwards came back
    have hkeyob : ∀ o' x', o' ∈ U.ob.map (·.1) → (S.app U).obj o' = some x' → ∃ p ∈ post, bwd to p.1 = some o' ∧ x' = backO to p.2 := by
      intro o' x' ho' hx'
      rw [app_obj] at hx'
      rcases wrOb_some hx' with h | ⟨h, -⟩
      · rw [hUob] at h
        unfold postUpd at h
        simp only [List.mem_append, List.mem_filterMap, Option.map_eq_some_iff] at h
        rcases h with h | ⟨p, hp, o2, hb, he⟩ | ⟨p, hp, o2, hb, he⟩
        · have := hcons3 _ h; cases this
        · cases he
        · cases he; exact ⟨p, hp, hb, rfl⟩
      · exact absurd ho' h
    have hnotkey : ∀ o', o' ∉ U.ob.map (·.1) → (S.app U).obj o' = S.obj o' := fun o' h => by rw [app_obj, wrOb_not h]
    have hinkl : ∀ o' k, (o', k) ∈ to → o' ∈ U.new ++ kl := by
      intro o' k hp
      have hb := mem_bwd hn2 hp
      have hid := subB_spec t6 k (List.mem_map.2 ⟨_, hp, rfl⟩)
      by_cases hkp : isPre pre k = true
      · unfold isPre at hkp
        simp only [List.any_eq_true, beq_iff_eq] at hkp
        obtain ⟨q, hq, rfl⟩ := hkp
        obtain ⟨o2, x2, hb2, hx2⟩ := p2 q.1 (List.mem_map.2 ⟨q, hq, rfl⟩)
        rw [hb] at hb2; cases hb2
        exact List.mem_append.2 (.inr (hR.orf o' x2 hx2).1)
      · rcases List.mem_append.1 hid with h | h
        · obtain ⟨q, hq, e⟩ := List.mem_map.1 h
          exact absurd (by unfold isPre; simp only [List.any_eq_true, beq_iff_eq]; exact ⟨q, hq, e⟩) hkp
        · obtain ⟨p, hp', rfl⟩ := List.mem_map.1 h
          exact List.mem_append.2 (.inl (by rw [hUnew]; exact ((hpost' p hp' o' hb).2 (by simpa using hkp)).2))
    -- what may be read
    have hok : rf = false → ∀ k, okAfter w w' (okC A S w bo to lent) (boC to bo) pre' bo' post k → okS A (S.app U) w' bo'' k := by
      intro hl k ⟨g1, g2, g3⟩
      refine ⟨g1, fun hk => ?_, fun o' x' hx' hb' => ?_⟩
      · rcases g2 (Nat.lt_of_lt_of_le hk hR.keep.size) with h | ⟨q, hq, hb⟩
        · exact h.2.1 hk
        · obtain ⟨o2, x2, hb2, hx2⟩ := hpre q hq
          rw [hboC hb2] at hb
          exact .inr ((hR.live o2 x2 k hx2 hb).2 hk)
      · by_cases hkey : o' ∈ U.ob.map (·.1)
        · obtain ⟨p, hp, hb, -⟩ := hkeyob o' x' hkey hx'
          rw [(hback _ (bwd_mem hb)).1] at hb'
          exact g3 p hp hb'
        · rw [hnotkey o' hkey] at hx'
          have hkl := (hR.orf o' x' hx').1
          simp only [bo'', if_pos hkl] at hb'
          have hlt := (hR.live o' x' k hx' hb').1
          rcases g2 hlt with h | ⟨q, hq, hb⟩
          · exact h.2.2 o' x' hx' (.inr fun hm => hkey (by rw [hUob, List.map_append]; exact List.mem_append.2 (.inl (hcons2 hl o' hm)))) hb'
          · obtain ⟨o2, x2, hb2, hx2, hk2⟩ := hpreK q hq
            rw [hboC hb2] at hb
            have := hR.inj o' o2 x' x2 k hx' hx2 hb' hb
            subst this
            exact hkey (by rw [hUob, List.map_append]; exact List.mem_append.2 (.inr hk2))
    have hst := hR.step (w' := w') (bo' := bo'') (σ' := σ'') U o.dst x
      ⟨hkeep.os, hkeep.tape, hkeep.output, hkeep.size, fun k hk hn => hkeep.block k hk fun ⟨p, hp, hb⟩ => by
        obtain ⟨o', x', hb', hx', hk'⟩ := hpreK p hp
        rw [hboC hb'] at hb
        exact hn ⟨o', by rw [hUob, List.map_append]; exact List.mem_append.2 (.inr hk'), x', hx', hb⟩⟩
      (fun o' ho' => ⟨by simp only [bo'', if_pos ho'], by simp only [σ'', if_pos ho']⟩)
      (by
        cases hd : o.dst with
        | none => exact .inl ⟨by rw [← hU, hd]; rfl, rfl⟩
        | some t =>
          refine .inr ⟨t, back to r, by rw [← hU, hd]; rfl, rfl, ?_, fun o' ho' => ?_⟩
          · exact back_ok (lent := rf) (E := ⟨w', bo', σ', okAfter w w' (okC A S w bo to lent) (boC to bo) pre' bo' post⟩) (E' := A.env (S.app U) w' bo'' σ'') rfl hok hback (fun hl => (hro hl).1) hrv
          · obtain ⟨k, hk⟩ := refs_back o' ho'
            exact hinkl o' k hk)
      (fun o' x' ho' hx' => by
        obtain ⟨p, hp, hb, rfl⟩ := hkeyob o' x' ho' hx'
        refine ⟨backO_ok (lent := rf) (E := ⟨w', bo', σ', okAfter w w' (okC A S w bo to lent) (boC to bo) pre' bo' post⟩) (E' := A.env (S.app U) w' bo'' σ'') rfl hok hback (bwd_mem hb) (fun hl => (hro hl).2 p hp) (hpo p hp), hinkl o' p.1 (bwd_mem hb), fun q hq => ?_, fun b hbb => ?_⟩
        · obtain ⟨k, hk⟩ := orefs_back q hq
          exact hinkl q k hk
        · rw [(hback _ (bwd_mem hb)).1] at hbb
          obtain ⟨g1, g2⟩ := hpb p hp b hbb
          refine ⟨g1, fun hlt => ?_⟩
          obtain ⟨q, hq, hqb⟩ := g2 hlt
          obtain ⟨o2, x2, hb2, hx2, hk2⟩ := hpreK q hq
          rw [hboC hb2] at hqb
          exact ⟨o2, by rw [hUob, List.map_append]; exact List.mem_append.2 (.inr hk2), x2, hx2, hqb⟩)
      (fun o1 o2 x1 x2 b ho1 ho2 hx1 hx2 hb1 hb2 => by
        obtain ⟨p, hp, hbp, -⟩ := hkeyob o1 x1 ho1 hx1
        obtain ⟨q, hq, hbq, -⟩ := hkeyob o2 x2 ho2 hx2
        rw [(hback _ (bwd_mem hbp)).1] at hb1
        rw [(hback _ (bwd_mem hbq)).1] at hb2
        have := hpi p hp q hq b hb1 hb2
        rw [this, hbq] at hbp
        exact (Option.some.inj hbp).symm)
    exact hK x w' bo'' σ'' hst
  · exact (go_fail h3).elim

theorem callable_run {f : Nat} (hcall : callable P f = true) (args : Array Value) (w : World) : (callFunc f args).run P w = .ok (.enter f args) w := by
  unfold callable at hcall
  split at hcall
  · rename_i fn hfn
    simp only [Bool.and_eq_true, Bool.not_eq_true', beq_eq_false_iff_ne] at hcall
    have hb : fn.body.isNone = false := by
      have := hcall.1
      cases hbb : fn.body <;> simp [hbb] at this ⊢
    have hn : (fn.name == "runtime.NumGoroutine") = false := by simpa using hcall.2
    simp only [callFunc, run_program, Sem.run_bind, Result.andThen_ok, hfn]
    rw [hn, hb]
    simp
  · cases hcall

theorem call_ok {A : Amb} {o : Oper} {S : St} {kl : List Nat} {c : Call} {f : Nat} (ho : o.op = .call c) (hc : c.callee = .value (.func f)) {u : Upd} {os os' : List (Ora P Φ)} {R D}
    (h : (callE o.dst f c.args.toList : RD P Φ Upd).go S os = some (u, R, D, os')) (hs : ∀ d ∈ D, Sat P Φ d) : OpOk P A o S u kl := by
  intro a w bo σ hR hnew K Q hK
  unfold callE at h
  obtain ⟨ds, R1, D1, os1, R2, D2, h1, h2, rfl, rfl⟩ := go_bind _ _ h
  obtain ⟨k0, rfl, rfl, k1, k2⟩ := opds_ok hR h1
  refine callD_ok h2 (fun d hd => hs d (by simp [hd])) hR hnew hK (xs := c.args.toList.map a.eval) (by simp [k0]) (fun j hj => k1 j (by simpa using hj)) fun hcall => ?_
  have hargs : (c.args.toList.map a.eval).toArray = c.args.map a.eval := by apply Array.ext'; simp
  have he : a.eval (.func f) = .func (.func f) #[] #[] := rfl
  rw [hargs]
  simp [execOp, ho, resolve, hc, he, Deferred.ofValue, invoke, callable_run hcall]

theorem callV_ok {A : Amb} {o : Oper} {S : St} {kl : List Nat} {c : Call} {x : Operand} (ho : o.op = .call c) (hc : c.callee = .value x) {u : Upd} {os os' : List (Ora P Φ)} {R D}
    (h : (callV o.dst x c.args.toList : RD P Φ Upd).go S os = some (u, R, D, os')) (hs : ∀ d ∈ D, Sat P Φ d) : OpOk P A o S u kl := by
  intro a w bo σ hR hnew K Q hK
  unfold callV at h
  obtain ⟨dx, R0, D0, os0, R1, D1, h0, h1, rfl, rfl⟩ := go_bind _ _ h
  obtain ⟨kx, rfl, rfl, -⟩ := opd_ok hR h0
  split at h1
  · rename_i f cs
    obtain ⟨ds, R2, D2, os2, R3, D3, h2, h3, rfl, rfl⟩ := go_bind _ _ h1
    obtain ⟨k0, rfl, rfl, k1, k2⟩ := opds_ok hR h2
    obtain ⟨vs, e1, e2, e3⟩ := kx
    refine callD_ok h3 (fun d hd => hs d (by simp [hd])) hR hnew hK (xs := c.args.toList.map a.eval ++ vs) (by simp [k0, e2]) (fun j hj => ?_) fun hcall => ?_
    · by_cases hlt : j < ds.length
      · have := k1 j (by omega)
        have a1 : (ds ++ cs.map fun p => DV.bx p.1 p.2).getD j .un = ds.getD j .un := by simp [List.getD_eq_getElem?_getD, List.getElem?_append, hlt]
        have a2 : (c.args.toList.map a.eval ++ vs).getD j undef' = (c.args.toList.map a.eval).getD j undef' := by
          have : j < c.args.size := by simpa [k0] using hlt
          simp [List.getD_eq_getElem?_getD, List.getElem?_append, this]
        rw [a1, a2]; exact this
      · have hj2 : j - ds.length < cs.length := by simp [e2] at hj; simp at k0; omega
        obtain ⟨b, b1, b2⟩ := e3 _ hj2
        have a1 : (ds ++ cs.map fun p => DV.bx p.1 p.2).getD j .un = .bx (cs.getD (j - ds.length) (0, 0)).1 (cs.getD (j - ds.length) (0, 0)).2 := by
          simp [List.getD_eq_getElem?_getD, List.getElem?_append, hlt, hj2]
        have a2 : (c.args.toList.map a.eval ++ vs).getD j undef' = vs.getD (j - ds.length) undef' := by
          have h4 : ¬ j < c.args.size := by simp at k0; omega
          have h5 : c.args.size = ds.length := by simp at k0; omega
          simp [List.getD_eq_getElem?_getD, List.getElem?_append, h4, h5, hlt]
        rw [a1, a2]
        exact ⟨b, b1, b2⟩
    · have hargs : (c.args.toList.map a.eval ++ vs).toArray = c.args.map a.eval ++ vs.toArray := by apply Array.ext'; simp
      rw [hargs]
      simp [execOp, ho, resolve, hc, e1, Deferred.ofValue, invoke, callable_run hcall]
  · exact (go_fail h1).elim

theorem capsOf_spec : ∀ {ds : List DV} {cs : List (Nat × Nat)}, capsOf ds = some cs → ds = cs.map fun p => DV.bx p.1 p.2
  | [], cs, h => by simp [capsOf] at h; subst h; rfl
  | d :: l, cs, h => by
    cases d with
    | bx o off =>
      simp only [capsOf, Option.map_eq_some_iff] at h
      obtain ⟨r, h1, rfl⟩ := h
      rw [capsOf_spec h1]; rfl
    | _ => simp [capsOf] at h

theorem makeFunc_ok {A : Amb} {o : Oper} {S : St} {kl : List Nat} {f : Nat} {first caps : Array Operand} (ho : o.op = .makeFunc (.func f) first caps) (hf : first.isEmpty = true) {d : DV} {os os' : List (Ora P Φ)} {R D}
    (h : ((opds caps.toList).bind fun ds => (ofO (capsOf ds)).bind fun cs => .ret (.cl f cs) : RD P Φ DV).go S os = some (d, R, D, os')) (a : Act) (w : World) (bo : Nat → Option Nat) (σ : Nat → Value) (hR : Rel A S a.tmps w bo σ kl) :
    ∃ v, (execOp a.eval o).run P w = .ok (.value v) w ∧ RV (A.env S w bo σ) d v ∧ ∀ p ∈ refs d, p ∈ kl := by
  obtain ⟨ds, R1, D1, os1, R2, D2, h1, h2, rfl, rfl⟩ := go_bind _ _ h
  obtain ⟨k0, rfl, rfl, k1, k2⟩ := opds_ok hR h1
  obtain ⟨cs, R3, D3, os3, R4, D4, h3, h4, rfl, rfl⟩ := go_bind _ _ h2
  obtain ⟨h5, -⟩ := go_ofO h3
  obtain ⟨rfl, -, -, -⟩ := go_ret h4
  have hds := capsOf_spec h5
  have hfe : first = #[] := by simpa using hf
  refine ⟨.func (.func f) #[] (caps.map a.eval), ?_, ⟨caps.toList.map a.eval, ?_, ?_, fun j hj => ?_⟩, fun p hp => ?_⟩
  · simp [execOp, ho, Instr.makeFunc, hfe]
  · congr 1; apply Array.ext'; simp
  · rw [List.length_map, ← k0, hds, List.length_map]
  · have h6 := k1 j (by rw [← k0, hds]; simpa using hj)
    have e : ds.getD j .un = .bx (cs.getD j (0, 0)).1 (cs.getD j (0, 0)).2 := by rw [hds]; simp [List.getD_eq_getElem?_getD, hj]
    rw [e] at h6
    exact h6
  · simp only [refs, refs1, refs0, List.mem_map] at hp
    obtain ⟨c, hc, rfl⟩ := hp
    exact k2 (.bx c.1 c.2) (by rw [hds]; exact List.mem_map.2 ⟨c, hc, rfl⟩) c.1 (by simp [refs, refs1, refs0])

end Go.Eng
end
section
set_option linter.unusedSimpArgs false
set_option linter.unusedVariables false
/-! Soundness, 14a: slices of slices and of strings. -/
namespace Go.Eng
open Go
variable {P : Program} {Φ : List It → St → Prop}

theorem optI_ok {A : Amb} {S : St} {a : Act} {w : World} {bo : Nat → Option Nat} {σ : Nat → Value} {kl : List Nat} (hR : Rel A S a.tmps w bo σ kl) {x : Option Operand} {d n : Int} {os os' : List (Ora P Φ)} {R D}
    (h : (optI x d : RD P Φ Int).go S os = some (n, R, D, os')) : D = [] ∧ os' = os ∧ ((x = none ∧ n = d) ∨ ∃ y k, x = some y ∧ a.eval y = .int k n) := by
  unfold optI at h
  split at h
  · obtain ⟨rfl, -, rfl, rfl⟩ := go_ret h
    exact ⟨rfl, rfl, .inl ⟨rfl, rfl⟩⟩
  · rename_i y
    obtain ⟨e, R1, D1, os1, R2, D2, h1, h2, rfl, rfl⟩ := go_bind _ _ h
    obtain ⟨k1, rfl, rfl, -⟩ := opd_ok hR h1
    obtain ⟨⟨k, rfl⟩, rfl, rfl⟩ := intOfD_ok h2
    exact ⟨rfl, rfl, .inr ⟨y, k, rfl, k1⟩⟩

theorem bounds_ok {ρ : Operand → Value} {lo hi : Option Operand} {l h : Int} {isS : Bool} {len cap : Nat} (hlo : (lo = none ∧ l = 0) ∨ ∃ y k, lo = some y ∧ ρ y = .int k l) (hhi : (hi = none ∧ h = (len : Int)) ∨ ∃ y k, hi = some y ∧ ρ y = .int k h)
    (h0 : 0 ≤ l) (h1 : l ≤ h) (h2 : h ≤ cap) (w : World) : (Instr.sliceBounds isS len cap (lo.map ρ) (hi.map ρ) none).run P w = .ok (l.toNat, h.toNat, cap) w := by
  have e1 : l ≤ (h.toNat : Int) := by omega
  rcases hlo with ⟨rfl, rfl⟩ | ⟨y, k, rfl, hy⟩ <;> rcases hhi with ⟨rfl, rfl⟩ | ⟨y', k', rfl, hy'⟩
  · simp [Instr.sliceBounds]
  · have h3 : 0 ≤ h := by omega
    simp [Instr.sliceBounds, hy', Instr.sliceBound, asIntOf, h3, h2]
  · have h3 : l ≤ (len : Int) := h1
    simp [Instr.sliceBounds, hy, Instr.sliceBound, asIntOf, h0, h3]
  · have h3 : 0 ≤ h := by omega
    have e2 : l ≤ max h 0 := by omega
    simp [Instr.sliceBounds, hy, hy', Instr.sliceBound, asIntOf, h0, h3, h2, e2]

theorem slice_ok {A : Amb} {o : Oper} {S : St} {kl : List Nat} {T : Nat} {x : Operand} {lo hi : Option Operand} (ho : o.op = .slice T x lo hi none) {d : DV} {os os' : List (Ora P Φ)} {R D}
    (h : (sliceE T x lo hi : RD P Φ DV).go S os = some (d, R, D, os')) (hs : ∀ d ∈ D, Sat P Φ d) (a : Act) (w : World) (bo : Nat → Option Nat) (σ : Nat → Value) (hR : Rel A S a.tmps w bo σ kl) :
    ∃ v, (execOp a.eval o).run P w = .ok (.value v) w ∧ RV (A.env S w bo σ) d v ∧ ∀ p ∈ refs d, p ∈ kl := by
  unfold sliceE at h
  obtain ⟨dx, R1, D1, os1, R2, D2, h1, h2, rfl, rfl⟩ := go_bind _ _ h
  obtain ⟨k1, rfl, rfl, k2⟩ := opd_ok hR h1
  split at h2
  · rename_i hu
    split at h2
    · rename_i s
      obtain ⟨l, R3, D3, os3, R4, D4, h3, h4, rfl, rfl⟩ := go_bind _ _ h2
      obtain ⟨hh, R5, D5, os5, R6, D6, h5, h6, rfl, rfl⟩ := go_bind _ _ h4
      obtain ⟨rfl, rfl, hlo⟩ := optI_ok hR h3
      obtain ⟨rfl, rfl, hhi⟩ := optI_ok hR h5
      obtain ⟨q, os7, rfl, h7⟩ := go_peek h6
      obtain ⟨_, os8, D8, -, h8, rfl⟩ := go_req h7
      obtain ⟨rfl, -, -, -⟩ := go_ret h8
      obtain ⟨b0, b1, b2⟩ : 0 ≤ l ∧ l ≤ hh ∧ hh ≤ (s.size : Int) := hs (.b3 l hh s.size) (by simp)
      have hx : a.eval x = .string s := k1
      have hb := bounds_ok (P := P) (ρ := a.eval) (isS := false) hlo hhi b0 b1 b2 w
      refine ⟨_, ?_, rfl, fun p hp => by simp [refs, refs1, refs0] at hp⟩
      simp [execOp, ho, hx, Instr.sliceAt, Instr.slice, under_run hu, hb]
    · exact (go_fail h2).elim
  · rename_i e hu
    split at h2
    · rename_i fl esz n L
      split at h2
      · rename_i hsz
        have hsz : tsize P e = some esz := by simpa using hsz
        obtain ⟨l, R3, D3, os3, R4, D4, h3, h4, rfl, rfl⟩ := go_bind _ _ h2
        obtain ⟨hh, R5, D5, os5, R6, D6, h5, h6, rfl, rfl⟩ := go_bind _ _ h4
        obtain ⟨rfl, rfl, hlo⟩ := optI_ok hR h3
        obtain ⟨rfl, rfl, hhi⟩ := optI_ok hR h5
        obtain ⟨q, os7, rfl, h7⟩ := go_peek h6
        split at h7
        · rename_i Lq L' lq hq nq n' hsg
          obtain ⟨_, os8, D8, -, h8, rfl⟩ := go_req h7
          obtain ⟨rfl, -, -, -⟩ := go_ret h8
          obtain ⟨b0, b1, b2, b3, b4⟩ : 0 ≤ l ∧ l ≤ hh ∧ hh ≤ (n : Int) ∧ (L.take hh.toNat).drop l.toNat = L' ∧ L'.length = n' := hs (.seg L L' l hh n n') (by simp)
          generalize hax : a.eval x = ax at k1
          have k1' : RP w (okS A S w bo) (.ro fl esz n L) ax := k1
          cases k1' with
          | ro _ _ _ _ Ad c ad f hL hc hm hA he hf hr h1' hp =>
            have hb := bounds_ok (P := P) (ρ := a.eval) (isS := true) (len := n) (cap := c) hlo hhi b0 b1 (by omega) w
            have hlen : (hh.toNat - l.toNat) = n' := by rw [← b4, ← b3, List.length_drop, List.length_take]; omega
            have hget : ∀ i, i < n' → L'.getD i [] = L.getD (l.toNat + i) [] := by
              intro i hi
              rw [← b3]
              have : l.toNat + i < hh.toNat := by omega
              simp [List.getD_eq_getElem?_getD, List.getElem?_drop, List.getElem?_take, this]
            have hsub : ∀ z ∈ L', z ∈ L := fun z hz => by
              rw [← b3] at hz; exact List.mem_of_mem_take (List.mem_of_mem_drop hz)
            refine ⟨.slice (if c = l.toNat then Ad else Ad.map (·.add (l.toNat * esz))) (hh.toNat - l.toNat) (c - l.toNat), ?_, ?_, fun p hp => by simp [refs, refs1, refs0] at hp⟩
            · simp [execOp, ho, hax, Instr.sliceAt, Instr.slice, under_run hu, hb, tsize_run hsz]
            · show RP w (okS A S w bo) (.ro fl esz n' L') _
              rw [hlen]
              by_cases h0 : n' = 0
              · subst h0
                exact .ro fl esz 0 L' _ _ ad f b4 (Nat.zero_le _) (by omega) (.inl rfl) (fun z hz => he z (hsub z hz)) (fun h z hz => hf h z (hsub z hz)) (fun i j hi => by omega) (fun i j hi => by omega) (fun i j hi => by omega)
              · have hcl : ¬ c = l.toNat := by omega
                rcases hA with hn | ⟨rfl, hok⟩
                · omega
                · rw [if_neg hcl]
                  refine .ro fl esz n' L' _ _ (ad.add (l.toNat * esz)) (fun i j => f (l.toNat + i) j) b4 (by omega) (by omega) (.inr ⟨rfl, by rw [add_block]; exact hok⟩) (fun z hz => he z (hsub z hz)) (fun h z hz => hf h z (hsub z hz)) (fun i j hi hj => ?_) (fun i j hi hj => h1' _ _ (by omega) hj) (fun i j hi hj => ?_)
                  · rw [add_add, ← Nat.add_assoc, ← Nat.add_mul]
                    exact hr _ _ (by omega) hj
                  · rw [hget i hi]
                    exact hp _ _ (by omega) hj
        · exact (go_fail h7).elim
      · exact (go_fail h2).elim
    · exact (go_fail h2).elim
  · exact (go_fail h2).elim

end Go.Eng
end
section
set_option linter.unusedSimpArgs false
set_option linter.unusedVariables false
/-! Soundness, 14b: bytes of strings, rows of zeros, bytes as strings, + on strings. -/
namespace Go.Eng
open Go
variable {P : Program} {Φ : List It → St → Prop}

theorem add_ok {A : Amb} {o : Oper} {S : St} {kl : List Nat} {T yT : Nat} {x y : Operand} (ho : o.op = .binOp .add T x y yT) {d : DV} {os os' : List (Ora P Φ)} {R D}
    (h : (addE T x y : RD P Φ DV).go S os = some (d, R, D, os')) (hs : ∀ d ∈ D, Sat P Φ d) (a : Act) (w : World) (bo : Nat → Option Nat) (σ : Nat → Value) (hR : Rel A S a.tmps w bo σ kl) :
    ∃ v, (execOp a.eval o).run P w = .ok (.value v) w ∧ RV (A.env S w bo σ) d v ∧ ∀ p ∈ refs d, p ∈ kl := by
  obtain ⟨dx, R1, D1, os1, R2, D2, h1, h2, rfl, rfl⟩ := go_bind _ _ h
  obtain ⟨k1, rfl, rfl, -⟩ := opd_ok hR h1
  split at h2
  · rename_i s
    obtain ⟨dy, R3, D3, os3, R4, D4, h3, h4, rfl, rfl⟩ := go_bind _ _ h2
    obtain ⟨k2, rfl, rfl, -⟩ := opd_ok hR h3
    split at h4
    · rename_i s'
      obtain ⟨q, os7, rfl, h7⟩ := go_peek h4
      obtain ⟨_, os8, D8, -, h8, rfl⟩ := go_req h7
      obtain ⟨rfl, -, -, -⟩ := go_ret h8
      have hle : s.size + s'.size ≤ 9223372036854775807 := hs (.le _ _) (by simp)
      have e1 : a.eval x = .string s := k1
      have e2 : a.eval y = .string s' := k2
      refine ⟨_, ?_, rfl, fun p hp => by simp [refs, refs1, refs0] at hp⟩
      have hlt : ¬ (((s.size + s'.size : Nat) : Int) > IntKind.i64.max) := by
        have : IntKind.i64.max = 9223372036854775807 := by decide
        rw [this]; omega
      simp only [execOp, ho, e1, e2]
      simp [eqGuard, binOp, Op.stringOp]
      have : IntKind.i64.max = 9223372036854775807 := by decide
      omega
    · exact (go_fail h4).elim
  · exact bin_ok ho h2 a w bo σ hR

theorem sh_ok {A : Amb} {o : Oper} {S : St} {kl : List Nat} {left : Bool} {T yT : Nat} {x y : Operand} (ho : o.op = .binOp (if left then .shl else .shr) T x y yT) {d : DV} {os os' : List (Ora P Φ)} {R D}
    (h : (shE left T x y : RD P Φ DV).go S os = some (d, R, D, os')) (hs : ∀ d ∈ D, Sat P Φ d) (a : Act) (w : World) (bo : Nat → Option Nat) (σ : Nat → Value) (hR : Rel A S a.tmps w bo σ kl) :
    ∃ v, (execOp a.eval o).run P w = .ok (.value v) w ∧ RV (A.env S w bo σ) d v ∧ ∀ p ∈ refs d, p ∈ kl := by
  unfold shE at h
  split at h
  · obtain ⟨dx, R1, D1, os1, R2, D2, h1, h2, rfl, rfl⟩ := go_bind _ _ h
    obtain ⟨k1, rfl, rfl, -⟩ := opd_ok hR h1
    obtain ⟨dy, R3, D3, os3, R4, D4, h3, h4, rfl, rfl⟩ := go_bind _ _ h2
    obtain ⟨k2, rfl, rfl, -⟩ := opd_ok hR h3
    split at h4
    · rename_i k va k' n
      split at h4
      · rename_i hk
        have hk : k.bits = 64 := by simpa using hk
        obtain ⟨q, os7, rfl, h7⟩ := go_peek h4
        obtain ⟨_, os8, D8, -, h8, rfl⟩ := go_req h7
        obtain ⟨rfl, -, -, -⟩ := go_ret h8
        obtain ⟨g1, g2⟩ : 0 ≤ n ∧ n < ((64 : Nat) : Int) := hs (.ib n 64) (by simp)
        have e1 := rv_int k1
        have e2 := rv_int k2
        have hm : min n.toNat 64 = n.toNat := by omega
        have hn : ¬ n < 0 := by omega
        refine ⟨_, ?_, rfl, fun p hp => by simp [refs, refs1, refs0] at hp⟩
        cases left <;> simp [execOp, ho, e1, e2, eqGuard, binOp, Op.shift, hn, hk, hm]
      · exact (go_fail h4).elim
    · exact (go_fail h4).elim
  · exact bin_ok ho h a w bo σ hR

theorem idx_ok {A : Amb} {o : Oper} {S : St} {kl : List Nat} {T : Nat} {x i : Operand} (ho : o.op = .index T x i) {d : DV} {os os' : List (Ora P Φ)} {R D}
    (h : (idxE T x i : RD P Φ DV).go S os = some (d, R, D, os')) (hs : ∀ d ∈ D, Sat P Φ d) (a : Act) (w : World) (bo : Nat → Option Nat) (σ : Nat → Value) (hR : Rel A S a.tmps w bo σ kl) :
    ∃ v, (execOp a.eval o).run P w = .ok (.value v) w ∧ RV (A.env S w bo σ) d v ∧ ∀ p ∈ refs d, p ∈ kl := by
  unfold idxE at h
  obtain ⟨dx, R1, D1, os1, R2, D2, h1, h2, rfl, rfl⟩ := go_bind _ _ h
  obtain ⟨k1, rfl, rfl, -⟩ := opd_ok hR h1
  obtain ⟨di, R3, D3, os3, R4, D4, h3, h4, rfl, rfl⟩ := go_bind _ _ h2
  obtain ⟨k2, rfl, rfl, -⟩ := opd_ok hR h3
  obtain ⟨n, R5, D5, os5, R6, D6, h5, h6, rfl, rfl⟩ := go_bind _ _ h4
  obtain ⟨⟨k, rfl⟩, rfl, rfl⟩ := intOfD_ok h5
  split at h6
  · rename_i hu
    split at h6
    · rename_i s
      obtain ⟨q, os7, rfl, h7⟩ := go_peek h6
      split at h7
      · obtain ⟨_, os8, D8, -, h8, rfl⟩ := go_req h7
        obtain ⟨rfl, -, -, -⟩ := go_ret h8
        rename_i b _ _
        obtain ⟨g1, g2⟩ : 0 ≤ n ∧ s[n.toNat]? = some b := hs (.sx n s b) (by simp)
        have e1 : a.eval x = .string s := k1
        have e2 : a.eval i = .int k n := k2
        refine ⟨_, ?_, rfl, fun p hp => by simp [refs, refs1, refs0] at hp⟩
        simp [execOp, ho, Instr.index, e1, e2, asIntOf, under_run hu, g1, g2]
      · exact (go_fail h7).elim
    · exact (go_fail h6).elim
  · exact (go_fail h6).elim

theorem cv_ok {A : Amb} {o : Oper} {S : St} {kl : List Nat} {s t : Nat} {x : Operand} (ho : o.op = .convert s t x) {d : DV} {os os' : List (Ora P Φ)} {R D}
    (h : (cvE s t x : RD P Φ DV).go S os = some (d, R, D, os')) (hs : ∀ d ∈ D, Sat P Φ d) (a : Act) (w : World) (bo : Nat → Option Nat) (σ : Nat → Value) (hR : Rel A S a.tmps w bo σ kl) :
    ∃ v, (execOp a.eval o).run P w = .ok (.value v) w ∧ RV (A.env S w bo σ) d v ∧ ∀ p ∈ refs d, p ∈ kl := by
  have key : ∀ {dx : DV} {os1 R2 D2}, (strE s t dx : RD P Φ DV).go S os1 = some (d, R2, D2, os') → (∀ d ∈ D2, Sat P Φ d) → RV (A.env S w bo σ) dx (a.eval x) →
      ∃ v, (execOp a.eval o).run P w = .ok (.value v) w ∧ RV (A.env S w bo σ) d v ∧ ∀ p ∈ refs d, p ∈ kl := by
    intro dx os1 R2 D2 h2 hs2 k1
    unfold strE at h2
    split at h2
    · rename_i e hu1 hu2
      split at h2
      · rename_i hu3
        obtain ⟨⟨fl, esz, n, L⟩, R3, D3, os3, R4, D4, h3, h4, rfl, rfl⟩ := go_bind _ _ h2
        obtain ⟨rfl, rfl, hL, he, -, Ad, c, hx, hrow⟩ := rowOf_ok hR k1 h3
        split at h4
        · rename_i he1
          have he1 : esz = 1 := by simpa using he1
          subst he1
          obtain ⟨q, os7, rfl, h7⟩ := go_peek h4
          split at h7
          · rename_i Lq b hb
            obtain ⟨_, os8, D8, -, h8, rfl⟩ := go_req h7
            obtain ⟨rfl, -, -, -⟩ := go_ret h8
            have hLb : L = b.data.toList.map fun c => [DV.v (.int .u8 (c.toNat : Int))] := hs2 (.str L b) (by simp)
            refine ⟨.string b, ?_, rfl, fun p hp => by simp [refs, refs1, refs0] at hp⟩
            have hn : n = b.data.size := by rw [← hL, hLb]; simp
            have hconv : (convert s t (a.eval x)).run P w = .ok (.string b) w := by
              rw [hx, run_convert_bytes_string w s t e Ad n c hu1 hu3 hu2]
              rcases hrow with h0 | ⟨ad, f, rfl, hc⟩
              · subst h0
                have hb0 : b = ByteArray.empty := by
                  have h1 : b.data = #[] := by apply Array.eq_empty_of_size_eq_zero; omega
                  cases b; simp at h1; subst h1; rfl
                subst hb0
                cases Ad with
                | none => simp [Conv.bytesToString]
                | some ad => 
                  have := run_bytesToString (P := P) w ad 0 c [] (by simp [loadCells, loadCellsFrom])
                  rw [this]; rfl
              · have hl : (loadCells ad n).run P w = .ok ((b.data.toList.map fun c => (c.toNat : Int)).map (Value.int .u8)).toArray w := by
                  have := run_loadCells (P := P) ad (fun j => f j 0) n 0 #[] w (fun j hj => by rw [Nat.zero_add]; simpa using (hc j 0 hj (by omega)).1)
                  rw [loadCells, this]
                  congr 1
                  apply Array.ext'
                  simp only [Array.empty_append, List.map_map]
                  apply List.ext_getElem
                  · simp [hn]
                  · intro j h1 h2
                    have hj : j < n := by simpa using h1
                    have h3 := (hc j 0 hj (by omega)).2.2
                    have hjb : j < b.data.size := by omega
                    have e3 : (L.getD j []).getD 0 .un = .v (.int .u8 ((b.data[j]'hjb).toNat : Int)) := by
                      rw [hLb]; simp [List.getD_eq_getElem?_getD, Array.getElem?_eq_getElem hjb]
                    rw [e3] at h3
                    have h4 : f j 0 = .int .u8 ((b.data[j]'hjb).toNat : Int) := by generalize f j 0 = y at h3; cases h3; rfl
                    simp [h4]
                rw [run_bytesToString w ad n c _ hl, foldl_push_byteCells]
                have e9 : (ByteArray.empty.data ++ b.data.toList.toArray) = b.data := by apply Array.ext'; simp [ByteArray.empty, ByteArray.emptyWithCapacity]; rfl
                rw [e9]
            simp only [execOp, ho, Sem.run_bind, hconv, Result.andThen_ok, Sem.run_pure]
          · exact (go_fail h7).elim
        · exact (go_fail h4).elim
      · exact (go_fail h2).elim
    · exact (go_fail h2).elim
  obtain ⟨dx, R1, D1, os1, R2, D2, h1, h2, rfl, rfl⟩ := go_bind _ _ h
  obtain ⟨k1, rfl, rfl, -⟩ := opd_ok hR h1
  split at h2
  · exact key h2 (fun d hd => hs d (by simp [hd])) k1
  · exact key h2 (fun d hd => hs d (by simp [hd])) k1
  · exact conv_ok ho h2 a w bo σ hR

theorem mk_ok {A : Amb} {o : Oper} {S : St} {kl : List Nat} {T : Nat} {len cap : Operand} (ho : o.op = .makeSlice T len cap) {u : Upd} {os os' : List (Ora P Φ)} {R D}
    (h : (mkE o.dst T len cap : RD P Φ Upd).go S os = some (u, R, D, os')) (hs : ∀ d ∈ D, Sat P Φ d) : OpOk P A o S u kl := by
  intro a w bo σ hR hnew K Q hK
  unfold mkE at h
  split at h
  · rename_i t e hd he
    split at h
    · rename_i i hi
      split at h
      · rename_i z hz
        by_cases hc : (okV z && (cellsOf (ofV z)).all zeroD && zeroOk P e i.size && decide (0 < i.size)) = true
        case neg => rw [if_neg hc] at h; exact (go_fail h).elim
        rw [if_pos hc] at h
        simp only [Bool.and_eq_true, decide_eq_true_eq] at hc
        obtain ⟨⟨⟨c1, c2⟩, c3⟩, c4⟩ := hc
        obtain ⟨da, R1, D1, os1, R2, D2, h1, h2, rfl, rfl⟩ := go_bind _ _ h
        obtain ⟨k1, rfl, rfl, -⟩ := opd_ok hR h1
        obtain ⟨n, R3, D3, os3, R4, D4, h3, h4, rfl, rfl⟩ := go_bind _ _ h2
        obtain ⟨⟨ka, rfl⟩, rfl, rfl⟩ := intOfD_ok h3
        obtain ⟨db, R5, D5, os5, R6, D6, h5, h6, rfl, rfl⟩ := go_bind _ _ h4
        obtain ⟨k2, rfl, rfl, -⟩ := opd_ok hR h5
        obtain ⟨m, R7, D7, os7, R8, D8, h7, h8, rfl, rfl⟩ := go_bind _ _ h6
        obtain ⟨⟨kb, rfl⟩, rfl, rfl⟩ := intOfD_ok h7
        obtain ⟨q, os9, rfl, h9⟩ := go_peek h8
        split at h9
        · rename_i nq mq k zq L hq
          obtain ⟨_, os10, D10, -, h10, rfl⟩ := go_req h9
          obtain ⟨q2, os11, rfl, h11⟩ := go_peek h10
          obtain ⟨_, os12, D12, -, h12, rfl⟩ := go_req h11
          obtain ⟨rfl, -, -, -⟩ := go_ret h12
          obtain ⟨rfl, rfl, rfl⟩ : n = (k : Int) ∧ m = (k : Int) ∧ List.replicate k (zeroL z) = L := hs (.mks n m k (zeroL z) L) (by simp)
          have hle : k * i.bytes ≤ 140737488355328 := hs (.le (k * i.bytes) 140737488355328) (by simp)
          obtain ⟨i', z', hi', hz1, hz2, hby, hzs⟩ := zeroOk_spec c3
          rw [hi] at hi'; cases hi'
          rw [hz] at hz2; cases hz2
          have hT := elemT_spec he
          have e1 : a.eval len = .int ka k := k1
          have e2 : a.eval cap = .int kb k := k2
          have hk : k ≤ 140737488355328 := Nat.le_trans (Nat.le_mul_of_pos_right k hby) hle
          have hb' : (i.bytes : Int) * (k : Int) ≤ 281474976710656 := by
            have h : ((k * i.bytes : Nat) : Int) ≤ 281474976710656 := by omega
            rw [Int.natCast_mul] at h
            rwa [Int.mul_comm]
          have hr := run_make (P := P) w T e i z hT hi hz ka kb k k (by omega) (Int.le_refl _) hb' (by omega)
          simp only [Int.toNat_natCast] at hr
          have hrun : (execOp a.eval o).run P w = .ok (.value (.slice (some ⟨w.heap.size, 0, none⟩) k k)) { w with heap := w.heap.push (.cells (madeCells z.cells (k * i.size)) e) } := by
            simp only [execOp, ho, e1, e2, Sem.run_bind, hr, Result.andThen_ok, Sem.run_pure]
            rfl
          refine wp_value hrun ?_
          rw [hd] at hK ⊢
          have hcr := cellsRel_ofV (A.env S w bo σ) c1
          have hzl : (zeroL z).length = i.size := by
            unfold zeroL; rw [List.length_map]
            have := hcr.1
            rw [hzs] at this
            omega
          have hmk : ∀ a j, a < k → j < i.size → (madeCells z.cells (k * i.size)).toList.getD (a * i.size + j) undef' = z.cells.toList.getD j undef' := by
            intro a j ha hj
            have hlt : a * i.size + j < k * i.size := by
              have : (a + 1) * i.size ≤ k * i.size := Nat.mul_le_mul_right _ (by omega)
              rw [Nat.succ_mul] at this
              omega
            have hmod : (a * i.size + j) % z.cells.size = j := by rw [hzs, (divmod a j i.size hj).2]
            unfold madeCells
            simp [List.getD_eq_getElem?_getD, hlt, hmod]
            have hjz : j < z.cells.size := by omega
            rw [getElem!_pos z.cells j hjz]
            simp [hjz]
          refine hK _ _ _ _ (row_new hR t _ [] ((zeroL z).all flatD) e i.size k _ (madeCells z.cells (k * i.size)).toList (hnew t (by simp)) (fun o ho => by cases ho) (Keep.new w _ _) (fun b hb => ?_) ⟨_, _, _, rfl⟩ (by simp) c4 (fun l hl => ?_) (fun hf l hl d hd => ?_)
            ⟨by simp [size_madeCells], .inr ⟨w.heap.size, k, madeCells z.cells (k * i.size), rfl, Nat.zero_le _, by simp, Nat.le_refl _, by simp only [maxLen]; omega, size_madeCells _ _, by rw [List.take_of_length_le]; simp [size_madeCells]⟩⟩ (fun b j hb hj => ?_))
          · simp [Value.ownBlock] at hb; exact .inl (by omega)
          · rw [List.mem_replicate] at hl
            rw [hl.2, hzl]
          · rw [List.mem_replicate] at hl
            rw [hl.2] at hd
            simp only [List.all_eq_true] at hf
            exact hf d hd
          · rw [hmk b j hb hj]
            have hjc : j < (cellsOf (ofV z)).length := by unfold zeroL at hzl; rw [List.length_map] at hzl; omega
            obtain ⟨g1, g2⟩ := hcr.2 j hjc
            refine ⟨g2, ?_⟩
            have e3 : ((List.replicate k (zeroL z)).getD b []).getD j .un = nrm0 ((cellsOf (ofV z)).getD j .un) := by
              simp [List.getD_eq_getElem?_getD, hb, zeroL, hjc]
            rw [e3]
            have hrp : zeroD ((cellsOf (ofV z)).getD j .un) = true := by
              simp only [List.all_eq_true] at c2
              exact c2 _ (getD_mem _ j _ hjc)
            generalize (cellsOf (ofV z)).getD j .un = dz at hrp g1
            generalize z.cells.toList.getD j undef' = xz at g1
            cases dz <;> simp [zeroD] at hrp <;> simp only [RV0] at g1 <;> subst g1
            · exact .v _
            · exact .v _
            · exact .nl
        · exact (go_fail h9).elim
      · exact (go_fail h).elim
    · exact (go_fail h).elim
  · exact (go_fail h).elim

theorem sl_ok {A : Amb} {o : Oper} {S : St} {kl : List Nat} {T : Nat} {x : Operand} {lo hi : Option Operand} (ho : o.op = .slice T x lo hi none) {u : Upd} {os os' : List (Ora P Φ)} {R D}
    (h : (slE o.dst T x lo hi : RD P Φ Upd).go S os = some (u, R, D, os')) (hs : ∀ d ∈ D, Sat P Φ d) : OpOk P A o S u kl := by
  unfold slE at h
  obtain ⟨dx, R1, D1, os1, R2, D2, h1, h2, rfl, rfl⟩ := go_bind _ _ h
  split at h2
  · rename_i o'
    intro a w bo σ hR hnew K Q hK
    obtain ⟨k1, rfl, rfl, k2⟩ := opd_ok hR h1
    unfold preE at h2
    split at h2
    · rename_i t e hd he
      obtain ⟨y, R3, hy, h3, -⟩ := go_obj h2
      split at h3
      · rename_i fl T' esz n L
        split at h3
        · rename_i hc
          simp only [Bool.and_eq_true, beq_iff_eq] at hc
          obtain ⟨rfl, hsz⟩ := hc
          obtain ⟨hh, R5, D5, os5, R6, D6, h5, h6, rfl, rfl⟩ := go_bind _ _ h3
          obtain ⟨rfl, rfl, hhi⟩ := optI_ok hR h5
          obtain ⟨q, os7, rfl, h7⟩ := go_peek h6
          split at h7
          · rename_i Lq L' lq hq nq n' hsg
            obtain ⟨_, os8, D8, -, h8, rfl⟩ := go_req h7
            obtain ⟨rfl, -, -, -⟩ := go_ret h8
            obtain ⟨b0, b1, b2, b3, b4⟩ : 0 ≤ (0 : Int) ∧ 0 ≤ hh ∧ hh ≤ (n : Int) ∧ (L.take hh.toNat).drop (0 : Int).toNat = L' ∧ L'.length = n' := hs (.seg L L' 0 hh n n') (by simp)
            obtain ⟨g1, g2, g3, g4, g5, vs, ⟨g6, hown⟩, g7⟩ := hR.ob o' _ hy
            have hT := elemT_spec he
            have hσ : σ o' = a.eval x := k1.1
            have hn' : n' = hh.toNat := by rw [← b4, ← b3]; simp; omega
            have hL' : L' = L.take hh.toNat := by rw [← b3]; simp
            have hle : hh.toNat ≤ n := by omega
            have hle2 : n' * esz ≤ n * esz := Nat.mul_le_mul_right _ (by omega)
            have hbo : bo o' = (σ o').ownBlock := g5
            have main : ∃ v, (execOp a.eval o).run P w = .ok (.value v) w ∧ w.ownsRow 0 T' esz v n' (vs.take (n' * esz)) ∧ v.ownBlock = (σ o').ownBlock ∧ ∃ A n c, v = .slice A n c := by
              have hown' : (σ o' = .slice none 0 0 ∧ n = 0) ∨ ∃ g cap cur, σ o' = .slice (some ⟨g, 0, none⟩) n cap ∧ 0 ≤ g ∧ w.heap[g]? = some (.cells cur T' (0, 0)) ∧ n ≤ cap ∧ cap ≤ maxLen ∧ cur.size = cap * esz ∧ cur.toList.take (n * esz) = vs := hown
              rcases hown' with ⟨hv, rfl⟩ | ⟨g, cap, cur, hv, hg0, hg, hnc, hm, hcs, htk⟩
              · have h0 : hh = 0 := by omega
                have hn0 : n' = 0 := by omega
                subst h0
                rw [hv] at hσ
                have hb := bounds_ok (P := P) (ρ := a.eval) (isS := true) (len := 0) (cap := 0) (lo := none) (.inl ⟨rfl, rfl⟩) hhi (Int.le_refl _) (Int.le_refl _) (by omega) w
                refine ⟨.slice none 0 0, ?_, ⟨by simp [hn0], .inl ⟨rfl, hn0⟩⟩, by rw [hv], none, 0, 0, rfl⟩
                simp at hb
                simp [execOp, ho, ← hσ, Instr.sliceAt, Instr.slice, under_run hT, hb, tsize_run hsz]
              · rw [hv] at hσ
                have hb := bounds_ok (P := P) (ρ := a.eval) (isS := true) (len := n) (cap := cap) (lo := none) (.inl ⟨rfl, rfl⟩) hhi (Int.le_refl _) b1 (by omega) w
                refine ⟨.slice (some ⟨g, 0, none⟩) n' cap, ?_, ⟨by rw [List.length_take, g6]; exact Nat.min_eq_left hle2, .inr ⟨g, cap, cur, rfl, hg0, hg, by omega, hm, hcs, ?_⟩⟩, by rw [hv]; rfl, _, _, _, rfl⟩
                · simp at hb
                  by_cases hc0 : cap = 0
                  · subst hc0
                    simp [execOp, ho, ← hσ, Instr.sliceAt, Instr.slice, under_run hT, hb, tsize_run hsz, hn']
                  · simp [execOp, ho, ← hσ, Instr.sliceAt, Instr.slice, under_run hT, hb, tsize_run hsz, hn', hc0, Addr.add]
                · rw [← htk, List.take_take, Nat.min_eq_left hle2]
            obtain ⟨v, hrun, hrow, hblk, hsl⟩ := main
            refine wp_value hrun ?_
            rw [hd] at hK ⊢
            refine hK _ _ _ _ (row_new hR t v [o'] fl T' esz n' L' (vs.take (n' * esz)) (hnew t (by simp)) (fun o2 ho2 => by simp at ho2; subst ho2; exact ⟨_, hy⟩) ⟨rfl, rfl, rfl, Nat.le_refl _, fun _ _ _ => rfl⟩
              (fun b hb => .inr ⟨o', by simp, by rw [hbo, ← hblk]; exact hb⟩) hsl b4 g2 (fun l hl => g3 l (by rw [hL'] at hl; exact List.mem_of_mem_take hl)) (fun hf l hl => g4 hf l (by rw [hL'] at hl; exact List.mem_of_mem_take hl)) hrow (fun i j hi hj => ?_))
            have hi2 : i < n := by omega
            obtain ⟨r1, r2⟩ := g7 i j hi2 hj
            have hlt : i * esz + j < n' * esz := by
              have : (i + 1) * esz ≤ n' * esz := Nat.mul_le_mul_right esz (by omega)
              rw [Nat.succ_mul] at this
              omega
            have e1 : (vs.take (n' * esz)).getD (i * esz + j) undef' = vs.getD (i * esz + j) undef' := by
              simp [List.getD_eq_getElem?_getD, List.getElem?_take, hlt]
            have e2 : L'.getD i [] = L.getD i [] := by
              rw [hL']; have : i < hh.toNat := by omega
              simp [List.getD_eq_getElem?_getD, List.getElem?_take, this]
            rw [e1, e2]
            exact ⟨r2, r1.mono fun k hk => ⟨⟨hk.1, hk.2.1, fun o2 x2 h2 _ => hk.2.2 o2 x2 h2, fun hb => hk.2.2 o' _ hy (by rw [hbo, ← hblk]; exact hb)⟩, rfl⟩⟩
          · exact (go_fail h7).elim
        · exact (go_fail h3).elim
      · exact (go_fail h3).elim
    · exact (go_fail h2).elim
  · exact ofDst_ok h2 (fun d hd => hs d (by simp [hd])) fun d os2 R3 D3 h3 hs3 a w bo σ hR => slice_ok ho h3 hs3 a w bo σ hR

end Go.Eng
end
section
set_option linter.unusedSimpArgs false
set_option linter.unusedVariables false
/-! Soundness, 15: any operation, guards. -/
namespace Go.Eng
open Go
variable {P : Program} {Φ : List It → St → Prop}

theorem known_ok {S : St} {d : DV} {b : Bool} {os os' : List (Ora P Φ)} {R D} (h : (known d : RD P Φ Bool).go S os = some (b, R, D, os')) (hs : ∀ d ∈ D, Sat P Φ d) {E : Env} {x : Value} (hx : RV E d x) : x = .bool b := by
  unfold known at h
  split at h
  · obtain ⟨rfl, -, -, -⟩ := go_ret h; exact hx
  · rename_i c
    obtain ⟨q, os1, rfl, h1⟩ := go_peek h
    split at h1
    · rename_i c' b' hb
      obtain ⟨_, os2, D2, -, h2, rfl⟩ := go_req h1
      obtain ⟨rfl, -, -, -⟩ := go_ret h2
      have : c = b := hs (.br c b) (by simp)
      subst this
      exact hx
    · exact (go_fail h1).elim
  · exact (go_fail h).elim

theorem pick_ok {A : Amb} {o : Oper} {S : St} {kl : List Nat} {c x y : Operand} (ho : o.op = .pick c x y) {d : DV} {os os' : List (Ora P Φ)} {R D}
    (h : ((opd c).bind fun d => (known d).bind fun t => if t then opd x else opd y : RD P Φ DV).go S os = some (d, R, D, os')) (hs : ∀ d ∈ D, Sat P Φ d)
    (a : Act) (w : World) (bo : Nat → Option Nat) (σ : Nat → Value) (hR : Rel A S a.tmps w bo σ kl) :
    ∃ v, (execOp a.eval o).run P w = .ok (.value v) w ∧ RV (A.env S w bo σ) d v ∧ ∀ p ∈ refs d, p ∈ kl := by
  obtain ⟨dc, R1, D1, os1, R2, D2, h1, h2, rfl, rfl⟩ := go_bind _ _ h
  obtain ⟨t, R3, D3, os3, R4, D4, h3, h4, rfl, rfl⟩ := go_bind _ _ h2
  obtain ⟨k1, rfl, rfl, -⟩ := opd_ok hR h1
  have hc := known_ok h3 (fun e he => hs e (by simp [he])) k1
  cases t with
  | true =>
    obtain ⟨k2, -, -, k3⟩ := opd_ok hR (by simpa using h4)
    exact ⟨a.eval x, by simp [execOp, ho, hc, asBool], k2, k3⟩
  | false =>
    obtain ⟨k2, -, -, k3⟩ := opd_ok hR (by simpa using h4)
    exact ⟨a.eval y, by simp [execOp, ho, hc, asBool], k2, k3⟩

theorem opE_ok {A : Amb} {o : Oper} {S : St} {kl : List Nat} {u : Upd} {os os' : List (Ora P Φ)} {R D}
    (h : (opE o : RD P Φ Upd).go S os = some (u, R, D, os')) (hs : ∀ d ∈ D, Sat P Φ d) : OpOk P A o S u kl := by
  have h0 := h
  unfold opE at h
  split at h
  · rename_i x ho
    exact move_ok (.inl ho) h
  · rename_i x ho
    exact move_ok (.inr ho) h
  · rename_i c x y ho
    exact ofDst_ok h hs fun d os1 R1 D1 h1 hs1 a w bo σ hR => pick_ok ho h1 hs1 a w bo σ hR
  · rename_i T ho
    exact alloc_ok ho h
  · rename_i T x ho
    exact box_ok ho h
  · rename_i T ps ho
    exact ofDst_ok h hs fun d os1 R1 D1 h1 hs1 a w bo σ hR => build_ok ho h1 a w bo σ hR
  · rename_i T n ps ho
    exact buildSlice_ok ho h0
  · rename_i T x ho
    exact ofDst_ok h hs fun d os1 R1 D1 h1 hs1 a w bo σ hR => load_ok ho h1 hs1 a w bo σ hR
  · rename_i T x y ho
    exact store_ok ho h hs
  · rename_i x ho
    exact ofDst_ok h hs fun d os1 R1 D1 h1 hs1 a w bo σ hR => nil_ok ho h1 a w bo σ hR
  · rename_i op T x y yT ho
    refine ofDst_ok h hs fun d os1 R1 D1 h1 hs1 a w bo σ hR => ?_
    split at h1
    · exact div_ok (quo := true) (by simpa using ho) h1 hs1 a w bo σ hR
    · exact div_ok (quo := false) (by simpa using ho) h1 hs1 a w bo σ hR
    · exact eq_ok (neg := false) (by simpa using ho) h1 a w bo σ hR
    · exact eq_ok (neg := true) (by simpa using ho) h1 a w bo σ hR
    · exact add_ok ho h1 hs1 a w bo σ hR
    · exact sh_ok (left := true) (by simpa using ho) h1 hs1 a w bo σ hR
    · exact sh_ok (left := false) (by simpa using ho) h1 hs1 a w bo σ hR
    · exact bin_ok ho h1 a w bo σ hR
  · rename_i op T x ho
    exact ofDst_ok h hs fun d os1 R1 D1 h1 hs1 a w bo σ hR => un_ok ho h1 a w bo σ hR
  · rename_i s t x ho
    exact ofDst_ok h hs fun d os1 R1 D1 h1 hs1 a w bo σ hR => cv_ok ho h1 hs1 a w bo σ hR
  · rename_i T x i ho
    exact ofDst_ok h hs fun d os1 R1 D1 h1 hs1 a w bo σ hR => idx_ok ho h1 hs1 a w bo σ hR
  · rename_i T len cap ho
    exact mk_ok ho h hs
  · rename_i T x f ho
    exact ofDst_ok h hs fun d os1 R1 D1 h1 hs1 a w bo σ hR => field_ok ho h1 a w bo σ hR
  · rename_i T x i ho
    exact ofDst_ok h hs fun d os1 R1 D1 h1 hs1 a w bo σ hR => index_ok ho h1 hs1 a w bo σ hR
  · rename_i T x lo hi mx ho
    split at h
    · rename_i hmx
      have : mx = none := by simpa using hmx
      subst this
      exact sl_ok ho h hs
    · exact (go_fail h).elim
  · rename_i x j ho
    exact ofDst_ok h hs fun d os1 R1 D1 h1 hs1 a w bo σ hR => extract_ok ho h1 a w bo σ hR
  · rename_i fn first caps ho
    split at h
    · rename_i f
      split at h
      · rename_i hf
        exact ofDst_ok h hs fun d os1 R1 D1 h1 hs1 a w bo σ hR => makeFunc_ok ho hf h1 a w bo σ hR
      · exact (go_fail h).elim
    · exact (go_fail h).elim
  · rename_i c ho
    split at h
    · rename_i f hc
      exact call_ok ho hc h hs
    · rename_i t hc
      exact callV_ok ho hc h hs
    · rename_i hc
      refine ofDst_ok h hs fun d os1 R1 D1 h1 hs1 a w bo σ hR => ?_
      split at h1
      · rename_i x T hx hT
        exact len_ok ho hc hx hT h1 a w bo σ hR
      · exact (go_fail h1).elim
    · rename_i hc
      split at h
      · rename_i x y T T' hx hT
        split at h
        · rename_i hTT
          have : T = T' := by simpa using hTT
          subst this
          exact append_ok ho hc hx hT h hs
        · exact (go_fail h).elim
      · exact (go_fail h).elim
    · rename_i hc
      exact ofDst_ok h hs fun d os1 R1 D1 h1 hs1 a w bo σ hR => max_ok (m := true) ho hc h1 a w bo σ hR
    · rename_i hc
      exact ofDst_ok h hs fun d os1 R1 D1 h1 hs1 a w bo σ hR => max_ok (m := false) ho hc h1 a w bo σ hR
    · exact (go_fail h).elim
  · exact (go_fail h).elim

/-- another telling of the same state -/
theorem Rel.tell {A : Amb} {S S' : St} {tm : Array Value} {w : World} {bo : Nat → Option Nat} {σ : Nat → Value} {kl kl' : List Nat} (hR : Rel A S tm w bo σ kl) (hob : ∀ o, S'.obj o = S.obj o) (hl : S'.fr.length = S.fr.length)
    (hsl : ∀ t, S'.slot t = S.slot t ∨ (RV (A.env S w bo σ) (S'.slot t) (tm.getD t undef') ∧ ∀ o ∈ refs (S'.slot t), o ∈ kl)) (hk : ∀ o ∈ kl, o ∈ kl') : Rel A S' tm w bo σ kl' := by
  have henv : A.env S' w bo σ = A.env S w bo σ := by
    unfold Amb.env
    have : okS A S' w bo = okS A S w bo := by funext k; unfold okS; simp only [hob]
    rw [this]
  refine ⟨hR.keep, by rw [hR.sz, hl], fun t => ?_, fun o x hx => ?_, fun o x b hx => ?_, fun o o' x x' b hx hx' => ?_, hR.pre, fun p hp => hk _ (hR.prk p hp), fun t o ho => ?_, fun o x hx => ?_, hR.axo⟩
  · rw [henv]
    rcases hsl t with h | ⟨h, -⟩
    · rw [h]; exact hR.sl t
    · exact h
  · rw [henv]; rw [hob] at hx; exact hR.ob o x hx
  · rw [hob] at hx; exact hR.live o x b hx
  · rw [hob] at hx hx'; exact hR.inj o o' x x' b hx hx'
  · rcases hsl t with h | ⟨-, h⟩
    · rw [h] at ho; exact hk _ (hR.rfs t o ho)
    · exact hk _ (h o ho)
  · rw [hob] at hx
    have := hR.orf o x hx
    exact ⟨hk _ this.1, fun p hp => hk _ (this.2 p hp)⟩

/-- a guarded operation -/
def GOk (P : Program) (A : Amb) (all : Array Oper) (o : Oper) (S : St) (u : Upd) (kl : List Nat) : Prop :=
  ∀ (a : Act) (w : World) (bo : Nat → Option Nat) (σ : Nat → Value), Rel A S a.tmps w bo σ kl → (∀ n ∈ u.new, n ∉ kl) →
    ∀ (K : Act → World → Prop) (Q : Exit → Act → World → Prop),
      (∀ v w' bo' σ', Rel A (S.app u) (putT a.tmps o.dst v) w' bo' σ' (u.new ++ kl) → K (a.put o.dst v) w') →
        if Region.wanted o (yielded all a.tmps) then o.wp P a w K Q else K (a.put o.dst undef) w

theorem Rel.known {A : Amb} {S : St} {u : Upd} {t : Nat} {d : DV} {b : Bool} {tm : Array Value} {w : World} {bo : Nat → Option Nat} {σ : Nat → Value} {kl : List Nat} (hu : u.sl = [(t, d)]) (hR : Rel A (S.app u) tm w bo σ kl)
    (hb : ∀ E x, RV E d x → x = .bool b) : Rel A (S.app ⟨[(t, .lb b)], u.ob, u.new⟩) tm w bo σ kl := by
  have h1 : ∀ t', (S.app u).slot t' = if t' = t ∧ t < S.fr.length then d else S.slot t' := fun t' => by unfold St.app; rw [hu]; exact slot_set S t t' d _
  have h2 : ∀ t', (S.app ⟨[(t, .lb b)], u.ob, u.new⟩).slot t' = if t' = t ∧ t < S.fr.length then .lb b else S.slot t' := fun t' => by unfold St.app; exact slot_set S t t' _ _
  refine hR.tell (fun o => by rw [app_obj, app_obj]) ?_ (fun t' => ?_) (fun _ h => h)
  · unfold St.app; rw [hu]; simp [St.put]
  · by_cases ht : t' = t ∧ t < S.fr.length
    · have h3 := hR.sl t'
      rw [h1, if_pos ht] at h3
      refine .inr ⟨?_, fun o ho => ?_⟩
      · rw [h2, if_pos ht]
        exact hb _ _ h3
      · rw [h2, if_pos ht] at ho; simp [refs, refs1, refs0] at ho
    · refine .inl ?_
      rw [h1, h2, if_neg ht, if_neg ht]

theorem opRun_ok {A : Amb} {o : Oper} {S : St} {kl : List Nat} {u : Upd} {g : Bool} {os os' : List (Ora P Φ)} {R D}
    (h : (opRun o g : RD P Φ Upd).go S os = some (u, R, D, os')) (hs : ∀ d ∈ D, Sat P Φ d) : OpOk P A o S u kl := by
  unfold opRun at h
  obtain ⟨v, R1, D1, os1, R2, D2, h1, h2, rfl, rfl⟩ := go_bind _ _ h
  have hok := opE_ok (A := A) (kl := kl) h1 (fun e he => hs e (by simp [he]))
  cases g with
  | false =>
    rw [if_neg (by simp)] at h2
    obtain ⟨rfl, -, -, -⟩ := go_ret h2
    exact hok
  | true =>
    rw [if_pos rfl] at h2
    split at h2
    · rename_i t d hsl
      obtain ⟨b, R3, D3, os3, R4, D4, h3, h4, rfl, rfl⟩ := go_bind _ _ h2
      obtain ⟨rfl, -, -, -⟩ := go_ret h4
      intro a w bo σ hR hnew K Q hK
      refine hok a w bo σ hR hnew K Q fun x w' bo' σ' hR' => hK x w' bo' σ' ?_
      exact hR'.known hsl fun E y hy => known_ok h3 (fun e he => hs e (by simp [he])) hy
    · exact (go_fail h2).elim

theorem go_slot {α : Type} {S : St} {t : Nat} {k : DV → RD P Φ α} {b : α} {os os' : List (Ora P Φ)} {R D} (h : (RD.slot t k).go S os = some (b, R, D, os')) :
    ∃ R1, (k (S.slot t)).go S os = some (b, R1, D, os') ∧ R = .sl t :: R1 := by
  simp only [RD.go] at h
  split at h
  · rename_i a R1 D1 os1 h1
    cases h
    exact ⟨R1, h1, rfl⟩
  · cases h

theorem opG_ok {A : Amb} {all : Array Oper} {o : Oper} {S : St} {kl : List Nat} {u : Upd} {g : Bool} {os os' : List (Ora P Φ)} {R D}
    (h : (opG o all.toList g : RD P Φ Upd).go S os = some (u, R, D, os')) (hs : ∀ d ∈ D, Sat P Φ d) : GOk P A all o S u kl := by
  intro a w bo σ hR hnew K Q hK
  unfold opG at h
  split at h
  · rename_i hg
    have hw : Region.wanted o (yielded all a.tmps) = true := by unfold Region.wanted; rw [hg]
    rw [if_pos hw]
    exact opRun_ok h hs a w bo σ hR hnew K Q hK
  · rename_i gi want hg
    split at h
    · rename_i og hog
      split at h
      · rename_i t ht
        obtain ⟨R1, h1, -⟩ := go_slot h
        split at h1
        · rename_i c hc
          have hv := hR.sl t
          rw [hc] at hv
          have hv' : a.tmps.getD t undef' = .bool c := hv
          have hy : yielded all a.tmps gi = some c := by
            unfold yielded
            have : all[gi]? = some og := by simpa using hog
            rw [this]
            simp only [Option.bind_some, ht]
            have htt : a.tmps[t]? = some (.bool c) := by
              rw [Array.getD_eq_getD_getElem?] at hv'
              cases hq : a.tmps[t]? with
              | none => rw [hq] at hv'; simp [undef'] at hv'
              | some y => rw [hq] at hv'; simp at hv'; rw [hv']
            rw [htt]
          have hw : Region.wanted o (yielded all a.tmps) = (c == want) := by
            unfold Region.wanted; rw [hg]; simp only [hy]; cases c <;> cases want <;> rfl
          rw [hw]
          split at h1
          · rename_i hcw
            rw [if_pos hcw]
            exact opRun_ok h1 hs a w bo σ hR hnew K Q hK
          · rename_i hcw
            rw [if_neg hcw]
            obtain ⟨rfl, -, -, -⟩ := go_ret h1
            exact hK _ w bo σ (hR.set o.dst (.v undef') undef (Keep.refl _ _) rfl (fun p hp => by simp [refs, refs1, refs0] at hp))
        · rename_i c hc
          have hv := hR.sl t
          rw [hc] at hv
          have hv' : a.tmps.getD t undef' = .tuple c := hv
          have hw : Region.wanted o (yielded all a.tmps) = false := by
            unfold Region.wanted
            rw [hg]
            have : yielded all a.tmps gi = none := by
              unfold yielded
              have : all[gi]? = some og := by simpa using hog
              rw [this]
              simp only [Option.bind_some, ht]
              rw [Array.getD_eq_getD_getElem?] at hv'
              cases hq : a.tmps[t]? with
              | none => rfl
              | some y => rw [hq] at hv'; simp at hv'; rw [hv']
            simp only [this]; cases want <;> rfl
          rw [hw, if_neg (by simp)]
          obtain ⟨rfl, -, -, -⟩ := go_ret h1
          exact hK _ w bo σ (hR.set o.dst (.v undef') undef (Keep.refl _ _) rfl (fun p hp => by simp [refs, refs1, refs0] at hp))
        · exact (go_fail h1).elim
      · exact (go_fail h).elim
    · exact (go_fail h).elim

end Go.Eng
end
section
set_option linter.unusedSimpArgs false
set_option linter.unusedVariables false
/-! Soundness, 16: regions, in the text's order and in any order. -/
namespace Go.Eng
open Go
variable {P : Program} {Φ : List It → St → Prop}

def Agree (S T : St) : Loc → Prop
  | .sl t => S.slot t = T.slot t
  | .ob o => S.obj o = T.obj o

/-- what an operation does depends on what it reads -/
theorem go_local {α : Type} {S T : St} (m : RD P Φ α) : ∀ {os : List (Ora P Φ)} {b R D os'}, m.go S os = some (b, R, D, os') → (∀ l ∈ R, Agree S T l) → m.go T os = some (b, R, D, os') := by
  induction m with
  | ret a => intro os b R D os' h _; exact h
  | slot t k ih =>
    intro os b R D os' h hag
    obtain ⟨R1, h1, rfl⟩ := go_slot h
    have e : S.slot t = T.slot t := hag (.sl t) (by simp)
    have := ih _ h1 fun l hl => hag l (by simp [hl])
    simp only [RD.go, ← e, this]
  | obj o k ih =>
    intro os b R D os' h hag
    obtain ⟨x, R1, hx, h1, rfl⟩ := go_obj h
    have e : S.obj o = T.obj o := hag (.ob o) (by simp)
    have := ih _ h1 fun l hl => hag l (by simp [hl])
    simp only [RD.go, ← e, hx, this]
  | peek k ih =>
    intro os b R D os' h hag
    obtain ⟨q, os1, rfl, h1⟩ := go_peek h
    have := ih q h1 hag
    simpa only [RD.go] using this
  | req d k ih =>
    intro os b R D os' h hag
    obtain ⟨q, os1, D1, rfl, h1, rfl⟩ := go_req h
    have := ih h1 hag
    simp only [RD.go, this]
  | fail => intro os b R D os' h; exact (go_fail h).elim

/-- an operation that goes alike in all states that agree where it reads -/
def Good (P : Program) (A : Amb) (all : Array Oper) (o : Oper) (S : St) (u : Upd) (R : List Loc) : Prop :=
  ∀ T kl, (∀ l ∈ R, Agree S T l) → GOk P A all o T u kl

def ith (us : List Upd) (m : Nat) : Upd := us.getD m ⟨[], [], []⟩

theorem ops_good {A : Amb} {all : Array Oper} : ∀ {l : List Oper} {i : Nat} {S S' : St} {kl kl' : List Nat} {os os' : List (Ora P Φ)} {I : List Info} {D},
    ops all.toList i l S kl os = some (S', kl', I, D, os') → (∀ d ∈ D, Sat P Φ d) →
    ∃ us : List Upd, us.length = l.length ∧ I.length = l.length ∧ S' = us.foldl St.app S ∧ (∀ x, x ∈ kl' ↔ x ∈ kl ∨ ∃ u ∈ us, x ∈ u.new) ∧
      (∀ m, m < l.length → (∀ x ∈ (ith us m).new, x ∉ kl ∧ ∀ m', m' < m → x ∉ (ith us m').new)) ∧
      ∀ m o, l[m]? = some o → (I.getD m ⟨[], []⟩).W = (ith us m).locs ∧ Good P A all o ((us.take m).foldl St.app S) (ith us m) (I.getD m ⟨[], []⟩).R
  | [], i, S, S', kl, kl', os, os', I, D, h, _ => by
    simp only [ops] at h
    cases h
    exact ⟨[], rfl, rfl, rfl, fun x => by simp, fun m hm => by simp at hm, fun m o hm => by simp at hm⟩
  | o :: l, i, S, S', kl, kl', os, os', I, D, h, hs => by
    simp only [ops] at h
    split at h
    · rename_i u R D1 os1 h1
      split at h
      · rename_i hfr
        split at h
        · rename_i S2 kl2 I2 D2 os2 h2
          cases h
          simp only [Bool.and_eq_true, List.all_eq_true, Bool.not_eq_true', List.any_eq_false, beq_iff_eq] at hfr
          obtain ⟨us, g1, g2, g3, g4, g5, g6⟩ := ops_good h2 (fun d hd => hs d (by simp [hd]))
          refine ⟨u :: us, by simp [g1], by simp [g2], g3, fun x => ?_, fun m hm => ?_, fun m o' hm => ?_⟩
          · rw [g4]; simp only [List.mem_append, List.mem_cons, exists_eq_or_imp]
            constructor
            · rintro ((h | h) | h)
              · exact .inr (.inl h)
              · exact .inl h
              · exact .inr (.inr h)
            · rintro (h | h | h)
              · exact .inl (.inr h)
              · exact .inl (.inl h)
              · exact .inr h
          · cases m with
            | zero =>
              intro x hx
              exact ⟨fun hk => hfr.2 x hx x hk rfl, fun m' hm' => by omega⟩
            | succ m =>
              intro x hx
              have := g5 m (by simpa using hm) x hx
              refine ⟨fun hk => this.1 (List.mem_append.2 (.inr hk)), fun m' hm' => ?_⟩
              cases m' with
              | zero => exact fun hk => this.1 (List.mem_append.2 (.inl hk))
              | succ m' => exact this.2 m' (by omega)
          · cases m with
            | zero =>
              simp at hm; subst hm
              refine ⟨rfl, fun T kl0 hag => ?_⟩
              exact opG_ok (go_local _ h1 hag) (fun d hd => hs d (by simp [hd]))
            | succ m =>
              exact g6 m o' (by simpa using hm)
        · cases h
      · cases h
    · cases h

theorem GOk.wpOp {A : Amb} {all : Array Oper} {o : Oper} {S : St} {u : Upd} {kl : List Nat} (h : GOk P A all o S u kl) {j : Nat} (hj : all[j]? = some o) {a : Act} {w : World} {bo : Nat → Option Nat} {σ : Nat → Value} (hR : Rel A S a.tmps w bo σ kl) (hn : ∀ n ∈ u.new, n ∉ kl)
    {K : Act → World → Prop} {Q : Exit → Act → World → Prop} (hK : ∀ v w' bo' σ', Rel A (S.app u) (putT a.tmps o.dst v) w' bo' σ' (u.new ++ kl) → K (a.put o.dst v) w') : wpOp P all Q j K a w := by
  have := h a w bo σ hR hn K Q hK
  unfold Go.wpOp
  rw [hj]
  simp only
  split
  · rename_i hw; rw [if_pos hw] at this; exact .inl this
  · rename_i hw; rw [if_neg hw] at this; exact this

theorem put_defers' (a : Act) (dst : Option Nat) (v : Value) : (a.put dst v).defers = a.defers := by cases dst <;> rfl

/-- in the text's order -/
theorem ops_seq {A : Amb} {all : Array Oper} {Q : Exit → Act → World → Prop} : ∀ {l : List Oper} {i : Nat} {S S' : St} {kl kl' : List Nat} {os os' : List (Ora P Φ)} {I : List Info} {D},
    ops all.toList i l S kl os = some (S', kl', I, D, os') → (∀ d ∈ D, Sat P Φ d) → all.toList.drop i = l →
    ∀ (a : Act) (w : World) (bo : Nat → Option Nat) (σ : Nat → Value), Rel A S a.tmps w bo σ kl →
      (∀ a' w' bo' σ', a'.defers = a.defers → Rel A S' a'.tmps w' bo' σ' kl' → Q .normal a' w') → wpOps P all Q (List.range' i l.length) a w
  | [], i, S, S', kl, kl', os, os', I, D, h, _, _, a, w, bo, σ, hR, hQ => by
    simp only [ops] at h
    cases h
    exact hQ a w bo σ rfl hR
  | o :: l, i, S, S', kl, kl', os, os', I, D, h, hs, hl, a, w, bo, σ, hR, hQ => by
    simp only [ops] at h
    split at h
    · rename_i u R D1 os1 h1
      split at h
      · rename_i hfr
        split at h
        · rename_i S2 kl2 I2 D2 os2 h2
          cases h
          simp only [Bool.and_eq_true, List.all_eq_true, Bool.not_eq_true', List.any_eq_false, beq_iff_eq] at hfr
          have hi : all[i]? = some o := by
            have : (all.toList.drop i)[0]? = some o := by rw [hl]; rfl
            simpa using this
          have hl' : all.toList.drop (i + 1) = l := by
            rw [← List.drop_drop, hl]; rfl
          simp only [List.length_cons, List.range'_succ, wpOps_cons]
          refine (opG_ok (A := A) (kl := kl) h1 (fun d hd => hs d (by simp [hd]))).wpOp hi hR (fun n hn hk => hfr.2 n hn n hk rfl) fun v w' bo' σ' hR' => ?_
          refine ops_seq h2 (fun d hd => hs d (by simp [hd])) hl' _ w' bo' σ' (by rw [put_tmps]; exact hR') fun a' w2 bo2 σ2 hd hR2 => hQ a' w2 bo2 σ2 (by rw [hd, put_defers']) hR2
        · cases h
      · cases h
    · cases h

/-! in any order -/
def mixF (L : Nat → Bool) : Nat → List Upd → St → St
  | _, [], S => S
  | i, u :: us, S => mixF L (i + 1) us (if L i then S.app u else S)

theorem app_len (S : St) (u : Upd) : (S.app u).fr.length = S.fr.length := put_len S u.sl

theorem mixF_len (L : Nat → Bool) : ∀ (us : List Upd) (i : Nat) (S : St), (mixF L i us S).fr.length = S.fr.length
  | [], _, _ => rfl
  | u :: us, i, S => by
    simp only [mixF]; rw [mixF_len L us]; split
    · exact app_len S u
    · rfl

theorem slot_put_not (S : St) (l : List (Nat × DV)) (t : Nat) (h : t ∉ l.map (·.1)) : (S.put l).slot t = S.slot t := by
  induction l generalizing S with
  | nil => rfl
  | cons p l ih =>
    obtain ⟨a, d⟩ := p
    simp only [List.map_cons, List.mem_cons, not_or] at h
    simp only [St.put]
    rw [ih _ h.2, slot_set]
    have : ¬ (t = a ∧ a < S.fr.length) := fun e => h.1 e.1
    rw [if_neg this]

theorem slot_put_both {S T : St} (l : List (Nat × DV)) (t : Nat) (hl : S.fr.length = T.fr.length) (h : t ∈ l.map (·.1) ∨ S.slot t = T.slot t) : (S.put l).slot t = (T.put l).slot t := by
  induction l generalizing S T with
  | nil => rcases h with h | h
           · simp at h
           · exact h
  | cons p l ih =>
    obtain ⟨a, d⟩ := p
    simp only [St.put]
    refine ih (by simp [hl]) ?_
    rw [slot_set, slot_set, hl]
    by_cases ht : t = a
    · refine .inr ?_
      subst ht
      by_cases hlt : t < T.fr.length
      · rw [if_pos ⟨rfl, hlt⟩, if_pos ⟨rfl, hlt⟩]
      · have : ¬ (t = t ∧ t < T.fr.length) := fun e => hlt e.2
        rw [if_neg this, if_neg this]
        have e1 : S.slot t = .un := by unfold St.slot; rw [List.getD_eq_getElem?_getD, List.getElem?_eq_none (by omega)]; rfl
        have e2 : T.slot t = .un := by unfold St.slot; rw [List.getD_eq_getElem?_getD, List.getElem?_eq_none (by omega)]; rfl
        rw [e1, e2]
    · have : ∀ n : Nat, ¬ (t = a ∧ a < n) := fun n e => ht e.1
      rw [if_neg (this _), if_neg (this _)]
      rcases h with h | h
      · simp only [List.map_cons, List.mem_cons] at h
        exact .inl (h.resolve_left ht)
      · exact .inr h

theorem wrOb_in {us : List (Nat × Option Ob)} {o : Nat} : ∀ {c c' : Option Ob}, (o ∈ us.map (·.1) ∨ c = c') → wrOb us o c = wrOb us o c' := by
  induction us with
  | nil => intro c c' h; rcases h with h | h
           · simp at h
           · rw [h]
  | cons p us ih =>
    intro c c' h
    simp only [wrOb, List.foldl_cons]
    refine ih ?_
    by_cases hp : p.1 = o
    · exact .inr (by simp [hp])
    · rcases h with h | h
      · simp only [List.map_cons, List.mem_cons] at h
        exact .inl (h.resolve_left fun e => hp e.symm)
      · exact .inr (by rw [h])

theorem mem_locs_sl {u : Upd} {t : Nat} : Loc.sl t ∈ u.locs ↔ t ∈ u.sl.map (·.1) := by
  simp only [Upd.locs, List.mem_append, List.mem_map]
  constructor
  · rintro (⟨p, hp, h⟩ | ⟨p, _, h⟩)
    · cases h; exact ⟨p, hp, rfl⟩
    · cases h
  · rintro ⟨p, hp, rfl⟩; exact .inl ⟨p, hp, rfl⟩

theorem mem_locs_ob {u : Upd} {o : Nat} : Loc.ob o ∈ u.locs ↔ o ∈ u.ob.map (·.1) := by
  simp only [Upd.locs, List.mem_append, List.mem_map]
  constructor
  · rintro (⟨p, _, h⟩ | ⟨p, hp, h⟩)
    · cases h
    · cases h; exact ⟨p, hp, rfl⟩
  · rintro ⟨p, hp, rfl⟩; exact .inr ⟨p, hp, rfl⟩

theorem agree_app_not {S : St} {u : Upd} {l : Loc} (h : l ∉ u.locs) : Agree (S.app u) S l := by
  cases l with
  | sl t => exact slot_put_not S u.sl t fun e => h (mem_locs_sl.2 e)
  | ob o =>
    show (S.app u).obj o = S.obj o
    rw [app_obj, wrOb_not fun e => h (mem_locs_ob.2 e)]

theorem agree_app_both {S T : St} {u : Upd} {l : Loc} (hl : S.fr.length = T.fr.length) (h : l ∈ u.locs ∨ Agree S T l) : Agree (S.app u) (T.app u) l := by
  cases l with
  | sl t => exact slot_put_both u.sl t hl (h.imp mem_locs_sl.1 id)
  | ob o =>
    show (S.app u).obj o = (T.app u).obj o
    rw [app_obj, app_obj]
    exact wrOb_in (h.imp mem_locs_ob.1 id)

theorem Agree.trans {S T U : St} {l : Loc} (h : Agree S T l) (k : Agree T U l) : Agree S U l := by cases l <;> exact Eq.trans h k
theorem Agree.symm {S T : St} {l : Loc} (h : Agree S T l) : Agree T S l := by cases l <;> exact Eq.symm h
theorem Agree.refl (S : St) (l : Loc) : Agree S S l := by cases l <;> rfl

/-- two mixes, updates that differ not touching the place -/
theorem mixF_agree {L L' : Nat → Bool} {l : Loc} : ∀ (us : List Upd) (i : Nat) (S T : St), S.fr.length = T.fr.length → Agree S T l → (∀ m, m < us.length → L (i + m) = L' (i + m) ∨ l ∉ (ith us m).locs) → Agree (mixF L i us S) (mixF L' i us T) l
  | [], _, _, _, _, h, _ => h
  | u :: us, i, S, T, hl, h, hm => by
    simp only [mixF]
    refine mixF_agree us (i + 1) _ _ ?_ ?_ (fun m hmm => ?_)
    · split <;> split <;> simp [app_len, hl]
    · rcases hm 0 (by simp) with h0 | h0
      · simp only [Nat.add_zero] at h0
        rw [h0]
        split
        · exact agree_app_both hl (.inr h)
        · exact h
      · have h0' : l ∉ u.locs := h0
        split <;> split
        · exact agree_app_both hl (.inr h)
        · exact (agree_app_not h0').trans h
        · exact h.trans (agree_app_not h0').symm
        · exact h
    · have := hm (m + 1) (by simpa using hmm)
      rw [show i + 1 + m = i + (m + 1) from by omega]
      exact this

theorem mixF_split (L : Nat → Bool) : ∀ (us vs : List Upd) (i : Nat) (S : St), mixF L i (us ++ vs) S = mixF L (i + us.length) vs (mixF L i us S)
  | [], vs, i, S => rfl
  | u :: us, vs, i, S => by
    simp only [List.cons_append, mixF, List.length_cons]
    rw [mixF_split L us vs]
    congr 1; omega

theorem mixF_all : ∀ (us : List Upd) (i : Nat) (S : St), mixF (fun _ => true) i us S = us.foldl St.app S
  | [], _, _ => rfl
  | u :: us, i, S => by simp only [mixF, if_true, List.foldl_cons]; exact mixF_all us _ _

theorem mixF_none : ∀ (us : List Upd) (i : Nat) (S : St), mixF (fun _ => false) i us S = S
  | [], _, _ => rfl
  | u :: us, i, S => by simp only [mixF, Bool.false_eq_true, if_false]; exact mixF_none us _ _

theorem mixF_cong {L L' : Nat → Bool} : ∀ (us : List Upd) (i : Nat) (S : St), (∀ m, m < us.length → L (i + m) = L' (i + m)) → mixF L i us S = mixF L' i us S
  | [], _, _, _ => rfl
  | u :: us, i, S, h => by
    simp only [mixF]
    rw [show L i = L' i from h 0 (by simp)]
    exact mixF_cong us _ _ fun m hm => by rw [show i + 1 + m = i + (m + 1) from by omega]; exact h (m + 1) (by simpa using hm)

/-- the beginning of the text, told as a mix -/
theorem prefix_mix (us : List Upd) (j : Nat) (S : St) : (us.take j).foldl St.app S = mixF (fun m => decide (m < j)) 0 us S := by
  have h : mixF (fun m => decide (m < j)) 0 us S = mixF (fun m => decide (m < j)) (0 + (us.take j).length) (us.drop j) (mixF (fun m => decide (m < j)) 0 (us.take j) S) := by
    rw [← mixF_split, List.take_append_drop]
  rw [h]
  have h1 : mixF (fun m => decide (m < j)) 0 (us.take j) S = mixF (fun _ => true) 0 (us.take j) S := mixF_cong _ _ _ fun m hm => by
    have : m < j := by simp at hm; omega
    simp [this]
  have h2 : ∀ T, mixF (fun m => decide (m < j)) (0 + (us.take j).length) (us.drop j) T = mixF (fun _ => false) (0 + (us.take j).length) (us.drop j) T := fun T => mixF_cong _ _ _ fun m hm => by
    have : j ≤ us.length := by
      rcases Nat.lt_or_ge j us.length with h | h
      · omega
      · simp at hm; omega
    have : ¬ 0 + (us.take j).length + m < j := by simp; omega
    simp only [decide_eq_false_iff_not]; exact this
  rw [h2, mixF_none, h1, mixF_all]

theorem ancs_len : ∀ (l : List Oper) (acc : List (List Nat)), (ancs l acc).length = acc.length + l.length
  | [], acc => by simp [ancs]
  | o :: l, acc => by simp only [ancs]; rw [ancs_len]; simp; omega

theorem ancs_old : ∀ (l : List Oper) (acc : List (List Nat)) (m : Nat), m < acc.length → (ancs l acc).getD m [] = acc.getD m []
  | [], acc, m, _ => rfl
  | o :: l, acc, m, h => by
    simp only [ancs]
    rw [ancs_old l _ m (by simp; omega)]
    simp [List.getD_eq_getElem?_getD, List.getElem?_append, h]

theorem ancs_new : ∀ (l : List Oper) (acc : List (List Nat)) (i : Nat) (o : Oper), l[i]? = some o → ∀ x ∈ (ancs l acc).getD (acc.length + i) [], ∃ e ∈ o.after, Region.binds .any e = true ∧ (x = e.on ∨ x ∈ (ancs l acc).getD e.on [])
  | [], acc, i, o, h => by simp at h
  | o' :: l, acc, 0, o, h => by
    simp at h; subst h
    intro x hx
    simp only [ancs] at hx ⊢
    rw [ancs_old _ _ _ (by simp)] at hx
    simp only [Nat.add_zero, List.getD_eq_getElem?_getD, List.getElem?_append, Nat.lt_irrefl, if_false, Nat.sub_self, List.getElem?_cons_zero, Option.getD_some, List.mem_flatMap, Array.mem_toList_iff] at hx
    obtain ⟨e, he, hx⟩ := hx
    split at hx
    · rename_i hb
      refine ⟨e, he, hb, ?_⟩
      rcases List.mem_cons.1 hx with h | h
      · exact .inl h
      · refine .inr ?_
        have hlt : e.on < acc.length := by
          rcases Nat.lt_or_ge e.on acc.length with h' | h'
          · exact h'
          · rw [List.getElem?_eq_none h'] at h; simp at h
        rw [ancs_old _ _ _ (by simp; omega)]
        simpa [List.getD_eq_getElem?_getD, List.getElem?_append, hlt] using h
    · simp at hx
  | o' :: l, acc, i + 1, o, h => by
    intro x hx
    simp only [ancs] at hx ⊢
    have := ancs_new l (acc ++ [o'.after.toList.flatMap fun e => if Region.binds .any e then e.on :: acc.getD e.on [] else []]) i o (by simpa using h) x (by
      rw [show (acc ++ [o'.after.toList.flatMap fun e => if Region.binds .any e then e.on :: acc.getD e.on [] else []]).length + i = acc.length + (i + 1) from by simp; omega]
      exact hx)
    exact this

theorem Loc.eqb_iff {a b : Loc} : a.eqb b = true ↔ a = b := by
  cases a <;> cases b <;> simp [Loc.eqb]

theorem meetB_false {l m : List Loc} (h : meetB l m = false) {x : Loc} (hl : x ∈ l) (hm : x ∈ m) : False := by
  have : meetB l m = true := by simp only [meetB, List.any_eq_true]; exact ⟨x, hl, x, hm, Loc.eqb_iff.2 rfl⟩
  rw [this] at h; cases h

structure Draw (l : List Oper) (I : List Info) : Prop where
  dep : ∀ j o, l[j]? = some o → ∀ e ∈ o.after, Region.binds .any e = true → e.on < j
  con : ∀ i j, i < j → j < l.length → ((ancs l []).getD j []).any (· == i) = false → ∀ x,
    ¬ (x ∈ (I.getD i ⟨[], []⟩).W ∧ x ∈ (I.getD j ⟨[], []⟩).R) ∧ ¬ (x ∈ (I.getD i ⟨[], []⟩).R ∧ x ∈ (I.getD j ⟨[], []⟩).W) ∧ ¬ (x ∈ (I.getD i ⟨[], []⟩).W ∧ x ∈ (I.getD j ⟨[], []⟩).W)

theorem drawOk_spec {l : List Oper} {I : List Info} (h : drawOk l I = true) : Draw l I := by
  simp only [drawOk, List.all_eq_true, List.mem_range, Bool.and_eq_true, Bool.or_eq_true, Bool.not_eq_true', decide_eq_true_eq] at h
  refine ⟨fun j o hj e he hb => ?_, fun i j hij hj hno x => ?_⟩
  · have hlt : j < l.length := by
      rcases Nat.lt_or_ge j l.length with h' | h'
      · exact h'
      · rw [List.getElem?_eq_none h'] at hj; cases hj
    have h1 := (h j hlt).1
    have e1 : l.getD j default = o := by simp [List.getD_eq_getElem?_getD, hj]
    rw [e1] at h1
    rcases h1 e (by simpa using he) with h2 | h2
    · rw [hb] at h2; cases h2
    · exact h2
  · have h1 := (h j hj).2 i hij
    rcases h1 with h2 | h2
    · rw [hno] at h2; cases h2
    · exact ⟨fun e => meetB_false h2.1.1 e.1 e.2, fun e => meetB_false h2.1.2 e.1 e.2, fun e => meetB_false h2.2 e.1 e.2⟩

/-- how many have not been done -/
def open_ (n : Nat) (L : Nat → Bool) : Nat := ((List.range n).filter fun m => !L m).length

theorem any_ok {A : Amb} {all : Array Oper} {Q : Exit → Act → World → Prop} {us : List Upd} {I : List Info} {S0 : St} {kl0 klF : List Nat} {df : List Deferred}
    (hul : us.length = all.size) (hdraw : Draw all.toList I)
    (hkl : ∀ x, (x ∈ kl0 ∨ ∃ u ∈ us, x ∈ u.new) → x ∈ klF)
    (hfresh : ∀ m, m < all.size → (∀ x ∈ (ith us m).new, x ∉ kl0 ∧ ∀ m', m' < m → x ∉ (ith us m').new))
    (hgood : ∀ m o, all.toList[m]? = some o → (I.getD m ⟨[], []⟩).W = (ith us m).locs ∧ Good P A all o ((us.take m).foldl St.app S0) (ith us m) (I.getD m ⟨[], []⟩).R)
    (hQ : ∀ a w bo σ, a.defers = df → Rel A (us.foldl St.app S0) a.tmps w bo σ klF → Q .normal a w) :
    ∀ (fuel : Nat) (listed : Array Bool) (a : Act) (w : World) (T : St) (kl : List Nat) (bo : Nat → Option Nat) (σ : Nat → Value),
      listed.size = all.size → (∀ m o, listed.getD m false = true → all[m]? = some o → ∀ x ∈ (ancs all.toList []).getD m [], listed.getD x false = true) →
      (∀ l, Agree T (mixF (fun m => listed.getD m false) 0 us S0) l) → T.fr.length = S0.fr.length →
      (∀ x ∈ kl, x ∈ kl0 ∨ ∃ m, m < all.size ∧ listed.getD m false = true ∧ x ∈ (ith us m).new) →
      open_ all.size (fun m => listed.getD m false) ≤ fuel → a.defers = df → Rel A T a.tmps w bo σ kl → wpAny P .any all Q fuel listed a w := by
  have final : ∀ (listed : Array Bool) (a : Act) (w : World) (T : St) (kl : List Nat) (bo : Nat → Option Nat) (σ : Nat → Value),
      listed.size = all.size → (∀ l, Agree T (mixF (fun m => listed.getD m false) 0 us S0) l) → T.fr.length = S0.fr.length →
      (∀ x ∈ kl, x ∈ kl0 ∨ ∃ m, m < all.size ∧ listed.getD m false = true ∧ x ∈ (ith us m).new) → (∀ m, m < all.size → listed.getD m false = true) → a.defers = df → Rel A T a.tmps w bo σ kl → Q .normal a w := by
    intro listed a w T kl bo σ hsz hT hTl hk hall hd hR
    have hmix : mixF (fun m => listed.getD m false) 0 us S0 = us.foldl St.app S0 := by
      rw [← mixF_all us 0 S0]
      exact mixF_cong _ _ _ fun m hm => by rw [Nat.zero_add]; exact hall m (by omega)
    rw [hmix] at hT
    refine hQ a w bo σ hd (hR.tell (fun o => ((hT (.ob o)) : T.obj o = _).symm) ?_ (fun t => .inl ((hT (.sl t)) : T.slot t = _).symm) fun x hx => ?_)
    · rw [hTl, ← hmix, mixF_len]
    · refine hkl x ?_
      rcases hk x hx with h | ⟨m, h1, _, h3⟩
      · exact .inl h
      · exact .inr ⟨ith us m, by unfold ith; exact getD_mem us m _ (by omega), h3⟩
  -- while one is open, one is ready
  have ready : ∀ (listed : Array Bool), listed.size = all.size → Region.ready .any all listed = [] → ∀ m, m < all.size → listed.getD m false = true := by
    intro listed hsz hr m
    induction m using Nat.strongRecOn with
    | _ m ih =>
      intro hm
      rcases hb : listed.getD m false with _ | _
      · exfalso
        have hmem : m ∈ Region.ready .any all listed := by
          rw [mem_ready]
          refine ⟨?_, all[m], by simp [hm], fun e he hb' => ih e.on (hdraw.dep m all[m] (by simp [hm]) e he hb') ?_⟩
          · have : m < listed.size := by omega
            simp [this] at hb ⊢; exact hb
          · have := hdraw.dep m all[m] (by simp [hm]) e he hb'
            omega
        rw [hr] at hmem; cases hmem
      · rfl
  intro fuel
  induction fuel with
  | zero =>
    intro listed a w T kl bo σ hsz hcl hT hTl hk hf hd hR
    have hall : ∀ m, m < all.size → listed.getD m false = true := by
      intro m hm
      have h0 : (List.range all.size).filter (fun m => !(listed.getD m false)) = [] := List.eq_nil_of_length_eq_zero (Nat.le_zero.1 hf)
      rw [List.filter_eq_nil_iff] at h0
      have := h0 m (by simpa using hm)
      simpa using this
    refine ⟨?_, final listed a w T kl bo σ hsz hT hTl hk hall hd hR⟩
    apply List.eq_nil_iff_forall_not_mem.2
    intro j hj
    rw [mem_ready] at hj
    obtain ⟨h1, o, ho, -⟩ := hj
    have hlt : j < all.size := (Array.getElem?_eq_some_iff.1 ho).1
    have := hall j hlt
    have : j < listed.size := by omega
    simp_all
  | succ fuel ih =>
    intro listed a w T kl bo σ hsz hcl hT hTl hk hf hd hR
    refine ⟨fun hr => final listed a w T kl bo σ hsz hT hTl hk (ready listed hsz hr) hd hR, fun j hj => ?_⟩
    rw [mem_ready] at hj
    obtain ⟨h1, o, ho, hdep⟩ := hj
    have hlt : j < all.size := (Array.getElem?_eq_some_iff.1 ho).1
    have hjl : j < listed.size := by omega
    have hjn : listed.getD j false = false := by simp [hjl] at h1 ⊢; exact h1
    have hol : all.toList[j]? = some o := by simpa using ho
    obtain ⟨hW, hG⟩ := hgood j o hol
    -- all that lie ahead of j have been done
    have hanc : ∀ x ∈ (ancs all.toList []).getD j [], listed.getD x false = true := by
      intro x hx
      obtain ⟨e, he, hb, hh⟩ := ancs_new all.toList [] j o hol x (by simpa using hx)
      have hon := hdep e he hb
      rcases hh with rfl | hh
      · exact hon
      · have honl : e.on < j := hdraw.dep j o hol e he hb
        exact hcl e.on all[e.on] hon (by simp) x hh
    have ahead : ∀ m, m < j → ∀ x, (x ∈ (ith us m).locs ∧ x ∈ (I.getD j ⟨[], []⟩).R) ∨ (x ∈ (ith us m).locs ∧ x ∈ (ith us j).locs) → listed.getD m false = true := by
      intro m hm x hx
      rcases hb : ((ancs all.toList []).getD j []).any (· == m) with _ | _
      · exfalso
        have hc := hdraw.con m j hm (by simpa using hlt) hb x
        have hWm := (hgood m all[m] (by simp)).1
        rw [hWm, hW] at hc
        rcases hx with hx | hx
        · exact hc.1 hx
        · exact hc.2.2 hx
      · simp only [List.any_eq_true, beq_iff_eq] at hb
        obtain ⟨y, hy, rfl⟩ := hb
        exact hanc y hy
    have behind : ∀ m, j < m → m < all.size → listed.getD m false = true → ∀ x, ¬ (x ∈ (I.getD j ⟨[], []⟩).R ∧ x ∈ (ith us m).locs) ∧ ¬ (x ∈ (ith us j).locs ∧ x ∈ (ith us m).locs) := by
      intro m hm hml hL x
      rcases hb : ((ancs all.toList []).getD m []).any (· == j) with _ | _
      · have hc := hdraw.con j m hm (by simpa using hml) hb x
        have hWm := (hgood m all[m] (by simp)).1
        rw [hWm, hW] at hc
        exact ⟨hc.2.1, hc.2.2⟩
      · exfalso
        simp only [List.any_eq_true, beq_iff_eq] at hb
        obtain ⟨y, hy, rfl⟩ := hb
        have := hcl m all[m] hL (by simp) y hy
        rw [this] at hjn; cases hjn
    have hread : ∀ l ∈ (I.getD j ⟨[], []⟩).R, Agree ((us.take j).foldl St.app S0) T l := by
      intro l hl
      refine Agree.trans ?_ (hT l).symm
      rw [prefix_mix]
      refine mixF_agree us 0 S0 S0 rfl (Agree.refl _ _) fun m hm => ?_
      simp only [Nat.zero_add]
      rcases Nat.lt_trichotomy m j with h | rfl | h
      · by_cases hx : l ∈ (ith us m).locs
        · left; rw [ahead m h l (.inl ⟨hx, hl⟩)]; simp [h]
        · exact .inr hx
      · left; rw [hjn]; simp
      · by_cases hx : l ∈ (ith us m).locs
        · left
          rcases hb : listed.getD m false with _ | _
          · have : ¬ m < j := by omega
            simp [this]
          · exact absurd ⟨hl, hx⟩ (behind m h (by omega) hb l).1
        · exact .inr hx
    have hnew : ∀ n ∈ (ith us j).new, n ∉ kl := by
      intro n hn hnk
      rcases hk n hnk with h | ⟨m, hm, hL, hx⟩
      · exact (hfresh j hlt n hn).1 h
      · rcases Nat.lt_trichotomy m j with h | rfl | h
        · exact (hfresh j hlt n hn).2 m h hx
        · rw [hjn] at hL; cases hL
        · exact (hfresh m hm n hx).2 j h hn
    refine (hG T kl hread).wpOp ho hR hnew fun v w' bo' σ' hR' => ?_
    have hset : ∀ m, (listed.setIfInBounds j true).getD m false = if m = j then true else listed.getD m false := by
      intro m
      by_cases hmj : m = j
      · subst hmj; simp [hjl]
      · rw [if_neg hmj, getD_set_ne false (Ne.symm hmj)]
    refine ih (listed.setIfInBounds j true) (a.put o.dst v) w' (T.app (ith us j)) ((ith us j).new ++ kl) bo' σ' (by simpa using hsz) ?_ ?_ (by rw [app_len, hTl]) ?_ ?_ (by rw [put_defers', hd]) (by rw [put_tmps]; exact hR')
    · intro m o' hm ho' x hx
      rw [hset] at hm ⊢
      by_cases hmj : m = j
      · subst hmj
        split
        · rfl
        · exact hanc x hx
      · rw [if_neg hmj] at hm
        split
        · rfl
        · exact hcl m o' hm ho' x hx
    · intro l
      by_cases hlj : l ∈ (ith us j).locs
      · -- the place that j writes: none that is done comes behind it
        have hsplit : ∀ L : Nat → Bool, mixF L 0 us S0 = mixF L (j + 1) (us.drop (j + 1)) (if L j then (mixF L 0 (us.take j) S0).app (ith us j) else mixF L 0 (us.take j) S0) := by
          intro L
          have e : us = us.take j ++ (ith us j :: us.drop (j + 1)) := by
            have hju : j < us.length := by omega
            have : ith us j = us[j] := by unfold ith; simp [List.getD_eq_getElem?_getD, hju]
            rw [this, ← List.drop_eq_getElem_cons hju, List.take_append_drop]
          conv => lhs; rw [e]
          rw [mixF_split]
          have : 0 + (us.take j).length = j := by simp; omega
          rw [this]; rfl
        have hl1 : ((mixF (fun m => (listed.setIfInBounds j true).getD m false) 0 (us.take j) S0)).fr.length = T.fr.length := by rw [mixF_len, hTl]
        have h2 : Agree (T.app (ith us j)) (((mixF (fun m => (listed.setIfInBounds j true).getD m false) 0 (us.take j) S0)).app (ith us j)) l := agree_app_both hl1.symm (.inl hlj)
        refine h2.trans ?_
        rw [hsplit]
        have hLj : (fun m => (listed.setIfInBounds j true).getD m false) j = true := by simp only [hset, if_true]
        rw [if_pos hLj]
        have h3 := mixF_agree (l := l) (L := fun _ => false) (L' := fun m => (listed.setIfInBounds j true).getD m false) (us.drop (j + 1)) (j + 1) _ _ rfl (Agree.refl ((mixF (fun m => (listed.setIfInBounds j true).getD m false) 0 (us.take j) S0).app (ith us j)) l) (fun m hm => by
          simp only [hset]
          have hne : ¬ j + 1 + m = j := by omega
          rw [if_neg hne]
          have hml : j + 1 + m < all.size := by simp at hm; omega
          rcases hb : listed.getD (j + 1 + m) false with _ | _
          · exact .inl rfl
          · refine .inr fun hx => (behind (j + 1 + m) (by omega) hml hb l).2 ⟨hlj, ?_⟩
            unfold ith at hx ⊢
            simpa [List.getD_eq_getElem?_getD, List.getElem?_drop] using hx)
        rw [mixF_none] at h3
        exact h3
      · refine (agree_app_not hlj).trans ((hT l).trans ?_)
        refine mixF_agree us 0 S0 S0 rfl (Agree.refl _ _) fun m hm => ?_
        simp only [Nat.zero_add, hset]
        by_cases hmj : m = j
        · subst hmj; exact .inr hlj
        · rw [if_neg hmj]; exact .inl rfl
    · intro x hx
      rcases List.mem_append.1 hx with h | h
      · exact .inr ⟨j, hlt, by rw [hset, if_pos rfl], h⟩
      · rcases hk x h with h | ⟨m, h1, h2, h3⟩
        · exact .inl h
        · refine .inr ⟨m, h1, ?_, h3⟩
          rw [hset]; split
          · rfl
          · exact h2
    · -- one less is open
      have hle : open_ all.size (fun m => (listed.setIfInBounds j true).getD m false) + 1 ≤ open_ all.size (fun m => listed.getD m false) := by
        unfold open_
        have e1 : (List.range all.size).filter (fun m => !((listed.setIfInBounds j true).getD m false)) = ((List.range all.size).filter (fun m => !(listed.getD m false))).erase j := by
          have hnd : ((List.range all.size).filter (fun m => !(listed.getD m false))).Nodup := List.nodup_range.filter _
          rw [hnd.erase_eq_filter, List.filter_filter]
          refine List.filter_congr fun m _ => ?_
          rw [hset]
          by_cases hmj : m = j
          · subst hmj; simp
          · simp [hmj]
        rw [e1]
        have hmem : j ∈ (List.range all.size).filter (fun m => !(listed.getD m false)) := by
          rw [List.mem_filter]; exact ⟨by simpa using hlt, by rw [hjn]; rfl⟩
        rw [List.length_erase_of_mem hmem]
        exact Nat.le_of_eq (Nat.sub_add_cancel (List.length_pos_of_mem hmem))
      exact Nat.le_of_succ_le_succ (Nat.le_trans hle hf)

end Go.Eng
end
section
set_option linter.unusedSimpArgs false
set_option linter.unusedVariables false
/-! Soundness, 17: control, and what a run shows. -/
namespace Go.Eng
open Go
variable {P : Program}

def It.item : It → Item
  | .code c => .code c
  | .endb id => .inBlock id
  | .lp c => .inLoop c

/-- what holds when the function returns -/
def Left (A : Amb) (post : Obs) (r : DV) (x : Value) (w' : World) : Prop :=
  ∃ bo' σ', Keep A.w0 w' A.X ∧ RV ⟨w', bo', σ', okAfter A.w0 w' A.ok A.bo A.pre bo' post⟩ r x ∧ (∀ p ∈ post, ObOk ⟨w', bo', σ', okAfter A.w0 w' A.ok A.bo A.pre bo' post⟩ p.1 p.2) ∧
    (∀ p ∈ post, ∀ b, bo' p.1 = some b → b < w'.heap.size ∧ (b < A.w0.heap.size → ∃ q ∈ A.pre, A.bo q.1 = some b)) ∧
    (∀ p ∈ post, ∀ q ∈ post, ∀ b, bo' p.1 = some b → bo' q.1 = some b → p.1 = q.1) ∧ (∀ p ∈ A.pre, bo' p.1 = A.bo p.1 ∧ σ' p.1 = A.σ p.1)

/-- from here the function returns -/
def Runs (P : Program) (f : Nat) (R : Value → World → Prop) (its : List It) (a : Act) (w : World) : Prop :=
  ∀ (b : Frame) (cs : List Frame), b.fn = f → b.kind = .normal → ∃ x w' fr, R x w' ∧ Steps P (lone (b.at a (its.map It.item)) cs w) (lone fr cs w') ∧ fr.fn = f ∧ fr.leaving P w' (.returned x)

/-- from here, in this state, the function returns this -/
def Fin (P : Program) (f : Nat) (pre post : Obs) (r : DV) (its : List It) (S : St) : Prop :=
  ∀ A : Amb, A.pre = pre → ∀ (a : Act) (w : World) (bo : Nat → Option Nat) (σ : Nat → Value) (kl : List Nat), Rel A S a.tmps w bo σ kl → a.defers = [] → Runs P f (Left A post r) its a w

section
variable {f : Nat} {R : Value → World → Prop} {its its' : List It} {a a' : Act} {w w' : World}

theorem Runs.head (h : Runs P f R its' a' w') (hs : ∀ (b : Frame) (cs : List Frame), step P (lone (b.at a (its.map It.item)) cs w) = .next (lone (b.at a' (its'.map It.item)) cs w')) : Runs P f R its a w := by
  intro b cs hb hk
  obtain ⟨x, w2, fr, h1, h2, h3⟩ := h b cs hb hk
  exact ⟨x, w2, fr, h1, .head (hs b cs) h2, h3⟩

theorem Runs.wp {c : Code} {k : List It} (h : c.wp P (fun e a' w' => e = .normal ∧ Runs P f R k a' w') a w) : Runs P f R (.code c :: k) a w := by
  intro b cs hb hk
  obtain ⟨e, a', w', ⟨rfl, hq⟩, harr⟩ := h b (k.map It.item) cs
  obtain ⟨x, w2, fr, h1, h2, h3⟩ := hq b cs hb hk
  exact ⟨x, w2, fr, h1, Steps.trans harr h2, h3⟩

/-- the loop's head, met again -/
theorem Runs.again {c : Code} {k : List It} (h : Runs P f R (.code (.loop c) :: k) a w) : Runs P f R (.lp c :: k) a w := by
  intro b cs hb hk
  obtain ⟨x, w2, fr, h1, ⟨n, h2⟩, h3⟩ := h b cs hb hk
  refine ⟨x, w2, fr, h1, ?_, h3⟩
  have e1 : step P (lone (b.at a ((It.code (.loop c) :: k).map It.item)) cs w) = .next (lone (b.at a (.code c :: .inLoop c :: k.map It.item)) cs w) := step_loop
  have e2 : step P (lone (b.at a ((It.lp c :: k).map It.item)) cs w) = .next (lone (b.at a (.code c :: .inLoop c :: k.map It.item)) cs w) := step_inLoop
  cases n with
  | zero =>
    exfalso
    simp only [runN] at h2
    have h4 : lone (b.at a ((It.code (.loop c) :: k).map It.item)) cs w = lone fr cs w2 := by injection h2
    have h5 : b.at a ((It.code (.loop c) :: k).map It.item) = fr := by
      have := congrArg (fun m => m.gs[0]?.map (·.frame)) h4
      simpa [lone] using this
    have h6 := h3.2.1
    rw [← h5] at h6
    simp [Frame.at] at h6
  | succ n =>
    simp only [runN, e1] at h2
    exact ⟨n + 1, by simp only [runN, e2]; exact h2⟩

theorem popTo_item {id : Nat} : ∀ {k k' : List It}, popTo id k = some k' → exitTo id (k.map It.item) = some (k'.map It.item)
  | .endb id' :: k, k', h => by
    simp only [popTo] at h
    simp only [List.map_cons, It.item, exitTo]
    split at h
    · rename_i hh; cases h; rw [if_pos hh]
    · rename_i hh; rw [if_neg hh]; exact popTo_item h
  | .code c :: k, k', h => by
    simp only [popTo] at h
    simp only [List.map_cons, It.item, exitTo]
    exact popTo_item h
  | .lp c :: k, k', h => by
    simp only [popTo] at h
    simp only [List.map_cons, It.item, exitTo]
    exact popTo_item h
  | [], k', h => by simp [popTo] at h
end

/-! results -/
theorem addr_run {x : Value} {ad : Addr} (h : x = .pointer (some ad)) (w : World) : (asAddr x).run P w = .ok ad w := by subst h; rfl

def resS (tmps : Array Value) : ResultVar → Sem Value
  | .tmp t => pure (tmps.getD t undef)
  | .cell a t => do loadVar t (← asAddr (tmps.getD a undef))

theorem nrm0_ok {E : Env} {d : DV} {x : Value} (h : RV0 E d x) : RV0 E (nrm0 d) x := by cases d <;> exact h
theorem nrm0_refs (d : DV) : refs0 (nrm0 d) = refs0 d := by cases d <;> rfl
theorem nrm1_ok {E : Env} {d : DV} {x : Value} (h : RV1 E d x) : RV1 E (nrm1 d) x := by
  cases d with
  | ag cs =>
    obtain ⟨vs, rfl, h2, h3⟩ := h
    refine ⟨vs, rfl, by simpa using h2, fun j hj => ?_⟩
    rw [List.length_map] at hj
    rw [getD_map0 cs j _ hj]
    exact ⟨nrm0_ok (h3 j hj).1, (h3 j hj).2⟩
  | _ => exact h
theorem nrm1_refs (d : DV) : refs1 (nrm1 d) = refs1 d := by
  cases d with
  | ag cs => simp only [nrm1, refs1, List.flatMap_map, nrm0_refs]
  | _ => rfl
theorem nrmO_ok {E : Env} {o : Nat} {x : Ob} (h : ObOk E o x) : ObOk E o (nrmO x) := by
  cases x with
  | box cs =>
    obtain ⟨b, T, vs, g1, g2, g3, g4⟩ := h
    refine ⟨b, T, vs, g1, g2, by simpa using g3, fun j hj => ?_⟩
    rw [List.length_map] at hj
    rw [getD_map0 cs j _ hj]
    exact ⟨nrm0_ok (g4 j hj).1, (g4 j hj).2⟩
  | row => exact h

theorem resD_ok {A : Amb} {S : St} {tm : Array Value} {w : World} {bo : Nat → Option Nat} {σ : Nat → Value} {kl : List Nat} (hR : Rel A S tm w bo σ kl) {x : ResultVar} {d : DV} (h : resD P S x = some d) :
    ∃ v, (resS tm x).run P w = .ok v w ∧ RV1 (A.env S w bo σ) d v ∧ ∀ o ∈ refs1 d, o ∈ kl := by
  unfold resD at h
  split at h
  · rename_i t
    split at h
    · cases h
    · rename_i hn
      cases h
      have h1 := hR.sl t
      have h2 := hR.rfs t
      refine ⟨tm.getD t undef', rfl, nrm1_ok ?_, ?_⟩
      · generalize hd : S.slot t = d at h1 hn
        cases d with
        | tu ds => exact absurd rfl (hn ds)
        | _ => exact h1
      · rw [nrm1_refs]
        generalize hd : S.slot t = d at h2 hn
        cases d with
        | tu ds => exact absurd rfl (hn ds)
        | _ => exact h2
  · rename_i s T
    split at h
    · rename_i o off hs
      split at h
      · rename_i cs hx
        have h1 := hR.sl s
        rw [hs] at h1
        obtain ⟨b, g5, g6⟩ := h1
        obtain ⟨b', T', vs, g1, g2, g3, g4⟩ := hR.ob o _ hx
        have hb : b = b' := Option.some.inj (g5.symm.trans g1)
        subst hb
        cases hpk : pickC P T cs off with
        | none => rw [hpk] at h; cases h
        | some d0 =>
        rw [hpk] at h
        cases h
        have h := hpk
        obtain ⟨v, r1, r2, r3⟩ := run_pick (P := P) (E := A.env S w bo σ) h ⟨b, 0, none⟩ (fun j => vs.getD j undef') (fun j hj => by
          rw [add_mk, Nat.zero_add]
          exact ⟨cell_of_heap g2 j (by omega), (g4 j hj).1, (g4 j hj).2⟩)
        rw [add_mk, Nat.zero_add] at r1
        refine ⟨v, ?_, ?_, fun q hq => ?_⟩
        · simp only [resS, Sem.run_bind]
          rw [addr_run (by exact g6)]
          exact r1
        · refine nrm1_ok ?_
          unfold pickC at h
          split at h
          · split at h
            · split at h
              · cases h; exact r2
              · have hd : d0 ∈ cs := List.mem_of_getElem? h
                cases d0 with
                | tu ds =>
                  obtain ⟨j, hj, he⟩ := List.getElem_of_mem hd
                  have := (g4 j hj).1
                  have e : cs.getD j .un = .tu ds := by simp [List.getD_eq_getElem?_getD, hj, he]
                  rw [e] at this
                  exact this.elim
                | _ => exact r2
            · cases h
          · cases h
        · rw [nrm1_refs] at hq
          have hq' : q ∈ refs d0 := by
            cases d0 with
            | tu ds => simp [refs1, refs0] at hq
            | _ => exact hq
          obtain ⟨e, he, hqe⟩ := r3 q hq'
          exact (hR.orf o _ hx).2 q (by simp only [orefs, List.mem_flatMap]; exact ⟨e, he, hqe⟩)
      · cases h
    · cases h

theorem resDs_ok {A : Amb} {S : St} {tm : Array Value} {w : World} {bo : Nat → Option Nat} {σ : Nat → Value} {kl : List Nat} (hR : Rel A S tm w bo σ kl) : ∀ {xs : List ResultVar} {ds : List DV}, resDs P S xs = some ds →
    ∃ vs : List Value, (xs.mapM (resS tm)).run P w = .ok vs w ∧ vs.length = ds.length ∧ ∀ j, j < ds.length → RV1 (A.env S w bo σ) (ds.getD j .un) (vs.getD j undef') ∧ ∀ o ∈ refs1 (ds.getD j .un), o ∈ kl
  | [], ds, h => by simp [resDs] at h; subst h; exact ⟨[], by simp, rfl, fun j hj => by simp at hj⟩
  | x :: xs, ds, h => by
    simp only [resDs] at h
    split at h
    · rename_i d ds' h1 h2
      cases h
      obtain ⟨v, r1, r2, r3⟩ := resD_ok hR h1
      obtain ⟨vs, q1, q2, q3⟩ := resDs_ok hR h2
      refine ⟨v :: vs, ?_, by simp [q2], fun j hj => ?_⟩
      · simp only [List.mapM_cons, Sem.run_bind, r1, Result.andThen_ok, q1, Sem.run_pure]
      · cases j with
        | zero => exact ⟨by simpa using r2, by simpa using r3⟩
        | succ j => simpa using q3 j (by simpa using hj)
    · cases h

theorem result_ok {A : Amb} {S : St} {tm : Array Value} {w : World} {bo : Nat → Option Nat} {σ : Nat → Value} {kl : List Nat} (hR : Rel A S tm w bo σ kl) {fn : Func} {r : DV} (h : result P fn S = some r) :
    ∃ v, (results fn tm).run P w = .ok v w ∧ RV (A.env S w bo σ) r v ∧ ∀ o ∈ refs r, o ∈ kl := by
  unfold result at h
  have hres : ∀ (vs : List Value), (fn.results.toList.mapM (resS tm)).run P w = .ok vs w → (results fn tm).run P w = .ok (if h : vs.toArray.size = 1 then vs.toArray[0] else .tuple vs.toArray) w := by
    intro vs hvs
    have e : results fn tm = (do
        let vs ← fn.results.mapM (resS tm)
        pure (if h : vs.size = 1 then vs[0] else .tuple vs)) := by
      unfold results
      congr 1
    rw [e]
    have e2 : (fn.results.mapM (resS tm)).run P w = .ok vs.toArray w := by
      rw [Array.mapM_eq_mapM_toList]
      simp [hvs]
    simp only [Sem.run_bind, e2, Result.andThen_ok, Sem.run_pure]
  split at h
  · rename_i d hd
    cases h
    obtain ⟨vs, q1, q2, q3⟩ := resDs_ok hR hd
    have : vs.length = 1 := q2
    obtain ⟨v, rfl⟩ : ∃ v, vs = [v] := List.length_eq_one_iff.1 this
    have := q3 0 (by simp)
    refine ⟨v, by rw [hres _ q1]; simp, ?_, ?_⟩
    · have h1 : RV1 (A.env S w bo σ) r v := by simpa using this.1
      cases r with
      | tu ds => exact h1.elim
      | _ => exact h1
    · have h1 : ∀ o ∈ refs1 r, o ∈ kl := by simpa using this.2
      have h2 : RV1 (A.env S w bo σ) r v := by simpa using (q3 0 (by simp)).1
      cases r with
      | tu ds => exact h2.elim
      | _ => exact h1
  · rename_i ds hn hd
    cases h
    obtain ⟨vs, q1, q2, q3⟩ := resDs_ok hR hd
    have hne : vs.toArray.size ≠ 1 := by
      intro e
      have e1 : ds.length = 1 := by rw [← q2]; simpa using e
      obtain ⟨d, rfl⟩ := List.length_eq_one_iff.1 e1
      exact hn d rfl
    refine ⟨.tuple vs.toArray, by rw [hres _ q1, dif_neg hne], ⟨vs, rfl, q2, fun j hj => (q3 j hj).1⟩, fun o ho => ?_⟩
    simp only [refs, List.mem_flatMap] at ho
    obtain ⟨d, hd, ho⟩ := ho
    obtain ⟨j, hj, rfl⟩ := List.getElem_of_mem hd
    have := (q3 j hj).2 o
    have e : ds.getD j .un = ds[j] := by simp [List.getD_eq_getElem?_getD, hj]
    rw [e] at this
    exact this ho
  · cases h

theorem end_ok {f : Nat} {fn : Func} (hf : P.funcs[f]? = some fn) {A : Amb} {S : St} {a : Act} {w : World} {bo : Nat → Option Nat} {σ : Nat → Value} {kl : List Nat} (hR : Rel A S a.tmps w bo σ kl) (hd : a.defers = []) {po : List Nat} {r : DV} {post : Obs}
    (h : result P fn S = some r) (hp : post = po.filterMap fun o => (S.obj o).map fun x => (o, nrmO x)) : ∃ x, (results fn a.tmps).run P w = .ok x w ∧ Left A post r x w := by
  obtain ⟨x, h1, h2, h3⟩ := result_ok hR h
  have hpo : ∀ p ∈ post, ∃ y, S.obj p.1 = some y ∧ p.2 = nrmO y := by
    intro p hp'
    rw [hp, List.mem_filterMap] at hp'
    obtain ⟨o, -, ho⟩ := hp'
    cases hx : S.obj o with
    | none => rw [hx] at ho; cases ho
    | some y => rw [hx] at ho; cases ho; exact ⟨y, hx, rfl⟩
  have hmono : ∀ k, (A.env S w bo σ).ok k → okAfter A.w0 w A.ok A.bo A.pre bo post k ∧ w.heap[k]? = w.heap[k]? := fun k hk => ⟨⟨hk.1, hk.2.1, fun p hp' => by obtain ⟨y, hy, -⟩ := hpo p hp'; exact hk.2.2 p.1 y hy⟩, rfl⟩
  refine ⟨x, h1, bo, σ, hR.keep, h2.mono hmono fun _ _ => ⟨rfl, rfl⟩, fun p hp' => ?_, fun p hp' b hb => ?_, fun p hp' q hq b hb hb' => ?_, hR.pre⟩
  · obtain ⟨y, hy, e⟩ := hpo p hp'
    rw [e]
    exact nrmO_ok ((hR.ob p.1 y hy).mono hmono (fun _ _ => rfl) ⟨rfl, rfl⟩ fun _ _ => ⟨rfl, rfl⟩)
  · obtain ⟨y, hy, -⟩ := hpo p hp'
    exact hR.live p.1 y b hy hb
  · obtain ⟨y, hy, -⟩ := hpo p hp'
    obtain ⟨z, hz, -⟩ := hpo q hq
    exact hR.inj p.1 q.1 y z b hy hz hb hb'

/-! the state, told by other names -/
theorem ren0_ok {E E' : Env} {to : List (Nat × Nat)} (hw : E'.w = E.w) (hok : ∀ k, E.ok k → E'.ok k) (hb : ∀ p ∈ to, E'.bo p.2 = E.bo p.1 ∧ E'.σ p.2 = E.σ p.1) {d : DV} {x : Value} (h : RV0 E d x) : RV0 E' (ren0 to d) x := by
  cases d with
  | ow o =>
    simp only [ren0]
    split
    · rename_i k hk
      obtain ⟨h1, h2⟩ := h
      exact ⟨by rw [(hb _ (fwd_mem hk)).2]; exact h1, h2⟩
    · trivial
  | bx o off =>
    simp only [ren0]
    split
    · rename_i k hk
      obtain ⟨b, h1, h2⟩ := h
      exact ⟨b, by rw [(hb _ (fwd_mem hk)).1]; exact h1, h2⟩
    · trivial
  | pw => trivial
  | cl f cs =>
    simp only [ren0]
    split
    · rename_i r hr
      obtain ⟨k1, k2⟩ := mapC_spec hr
      obtain ⟨vs, h1, h2, h3⟩ := h
      refine ⟨vs, h1, by rw [h2, k1], fun j hj => ?_⟩
      rw [k1] at hj
      obtain ⟨b, h4, h5⟩ := h3 j hj
      obtain ⟨k3, k4⟩ := k2 j hj
      exact ⟨b, by rw [(hb _ (fwd_mem k3)).1]; exact h4, by rw [k4]; exact h5⟩
    · trivial
  | ro fl esz n L => exact RP.mono h fun k hk => ⟨hok k hk, by rw [hw]⟩
  | pe cs off =>
    obtain ⟨a0, h1, h2, h3⟩ := h
    refine ⟨a0, hok _ h1, h2, fun j hj => ?_⟩
    obtain ⟨y, h4, h5, h6⟩ := h3 j hj
    exact ⟨y, by rw [hw]; exact h4, h5, h6.mono fun k hk => ⟨hok k hk, by rw [hw]⟩⟩
  | un => trivial
  | v y => exact h
  | lb b => exact h
  | nl => exact h
  | ag cs => exact h.elim
  | tu vs => exact h.elim

theorem ren0_refs {to : List (Nat × Nat)} {d : DV} : ∀ o ∈ refs0 (ren0 to d), o ∈ to.map (·.2) := by
  intro o ho
  cases d with
  | ow k =>
    simp only [ren0] at ho
    split at ho
    · rename_i o' h'
      simp [refs0] at ho; subst ho; exact List.mem_map.2 ⟨_, fwd_mem h', rfl⟩
    · simp [refs0] at ho
  | bx k off =>
    simp only [ren0] at ho
    split at ho
    · rename_i o' h'
      simp [refs0] at ho; subst ho; exact List.mem_map.2 ⟨_, fwd_mem h', rfl⟩
    · simp [refs0] at ho
  | cl f cs =>
    simp only [ren0] at ho
    split at ho
    · rename_i r hr
      obtain ⟨k1, k2⟩ := mapC_spec hr
      simp only [refs0, List.mem_map] at ho
      obtain ⟨q, hq, rfl⟩ := ho
      obtain ⟨j, hj, rfl⟩ := List.getElem_of_mem hq
      have := (k2 j (by omega)).1
      have e : r.getD j (0, 0) = r[j] := by simp [List.getD_eq_getElem?_getD, hj]
      rw [e] at this
      exact List.mem_map.2 ⟨_, fwd_mem this, rfl⟩
    · simp [refs0] at ho
  | _ => simp [ren0, refs0] at ho

theorem ren1_ok {E E' : Env} {to : List (Nat × Nat)} (hw : E'.w = E.w) (hok : ∀ k, E.ok k → E'.ok k) (hb : ∀ p ∈ to, E'.bo p.2 = E.bo p.1 ∧ E'.σ p.2 = E.σ p.1) {d : DV} {x : Value} (h : RV E d x) : RV E' (ren1 to d) x := by
  cases d with
  | ag cs =>
    obtain ⟨vs, rfl, h2, h3⟩ := h
    refine ⟨vs, rfl, by simpa using h2, fun j hj => ?_⟩
    rw [List.length_map] at hj
    rw [getD_map0 cs j _ hj]
    exact ⟨ren0_ok hw hok hb (h3 j hj).1, (h3 j hj).2⟩
  | tu ds => trivial
  | ow k =>
    have := ren0_ok (d := .ow k) hw hok hb h
    simp only [ren1, ren0] at this ⊢
    split <;> rename_i hh <;> simp only [hh] at this <;> exact this
  | bx k off =>
    have := ren0_ok (d := .bx k off) hw hok hb h
    simp only [ren1, ren0] at this ⊢
    split <;> rename_i hh <;> simp only [hh] at this <;> exact this
  | un => trivial
  | v y => exact ren0_ok (d := .v y) hw hok hb h
  | lb y => exact ren0_ok (d := .lb y) hw hok hb h
  | nl => exact ren0_ok (d := .nl) hw hok hb h
  | pw o i e f => trivial
  | ro f e n L => exact ren0_ok (d := .ro f e n L) hw hok hb h
  | pe cs f => exact ren0_ok (d := .pe cs f) hw hok hb h
  | cl f cs =>
    have := ren0_ok (d := .cl f cs) hw hok hb h
    simp only [ren1, ren0] at this ⊢
    split <;> rename_i hh <;> simp only [hh] at this <;> exact this

theorem ren1_refs {to : List (Nat × Nat)} {d : DV} : ∀ o ∈ refs (ren1 to d), o ∈ to.map (·.2) := by
  intro o ho
  cases d with
  | ag cs =>
    simp only [ren1, refs, refs1, List.mem_flatMap, List.mem_map] at ho
    obtain ⟨_, ⟨e, _, rfl⟩, ho⟩ := ho
    exact ren0_refs o ho
  | tu ds => simp [ren1, refs, refs1, refs0] at ho
  | ow k =>
    refine ren0_refs (d := .ow k) o ?_
    simp only [ren1, ren0] at ho ⊢
    split at ho <;> exact ho
  | bx k off =>
    refine ren0_refs (d := .bx k off) o ?_
    simp only [ren1, ren0] at ho ⊢
    split at ho <;> exact ho
  | cl f cs =>
    refine ren0_refs (d := .cl f cs) o ?_
    simp only [ren1, ren0] at ho ⊢
    cases hm : mapC (fwd to) cs with
    | some r => simp only [hm, refs, refs1] at ho ⊢; exact ho
    | none => simp only [hm, refs, refs1] at ho ⊢; exact ho
  | _ => simp [ren1, ren0, refs, refs1, refs0] at ho

theorem keepS_len (ks : List Nat) : ∀ (i : Nat) (l : List DV), (keepS ks i l).length = l.length
  | _, [] => rfl
  | i, d :: l => by simp only [keepS, List.length_cons]; rw [keepS_len ks]

theorem keepS_get (ks : List Nat) : ∀ (i : Nat) (l : List DV) (t : Nat), (keepS ks i l).getD t .un = l.getD t .un ∨ (keepS ks i l).getD t .un = .un
  | _, [], t => .inl rfl
  | i, d :: l, 0 => by
    simp only [keepS, List.getD_cons_zero]
    split
    · exact .inl rfl
    · exact .inr rfl
  | i, d :: l, t + 1 => by
    simp only [keepS, List.getD_cons_succ]
    exact keepS_get ks (i + 1) l t

theorem lk_mem : ∀ {l : Obs} {o : Nat} {x : Ob}, lk o l = some x → (o, x) ∈ l
  | (k, y) :: l, o, x, h => by
    simp only [lk] at h
    split at h
    · rename_i hk
      cases h
      have : k = o := by simpa using hk
      simp [this]
    · simp [lk_mem h]

theorem renS_obj {ks : List Nat} {to : List (Nat × Nat)} {S : St} {k : Nat} {y : Ob} (h : (renS ks to S).obj k = some y) : ∃ o x, (o, k) ∈ to ∧ S.obj o = some x ∧ y = renO to x := by
  have := lk_mem h
  simp only [renS, List.mem_filterMap, Option.map_eq_some_iff] at this
  obtain ⟨p, hp, x, hx, he⟩ := this
  obtain ⟨a, b⟩ := p
  cases he
  exact ⟨a, x, hp, hx, rfl⟩

theorem ren_ok {A : Amb} {S : St} {tm : Array Value} {w : World} {bo : Nat → Option Nat} {σ : Nat → Value} {kl : List Nat} (hR : Rel A S tm w bo σ kl) {pi : List Nat} (hpi : pi = A.pre.map (·.1)) {to : List (Nat × Nat)} (h : renOk pi to = true) (ks : List Nat) :
    ∃ bo' σ' kl', Rel A (renS ks to S) tm w bo' σ' kl' := by
  simp only [renOk, Bool.and_eq_true, List.all_eq_true, Bool.or_eq_true, Bool.not_eq_true', beq_iff_eq] at h
  obtain ⟨⟨t1, t2⟩, t3⟩ := h
  have hn1 := nodupB_spec t1
  have hn2 := nodupB_spec t2
  let bo' : Nat → Option Nat := fun k => match bwd to k with | some o => bo o | none => bo k
  let σ' : Nat → Value := fun k => match bwd to k with | some o => σ o | none => σ k
  have hb : ∀ p ∈ to, bo' p.2 = bo p.1 ∧ σ' p.2 = σ p.1 := by
    rintro ⟨o, k⟩ hp
    have := mem_bwd hn2 hp
    simp only [bo', σ', this]; exact ⟨trivial, trivial⟩
  have hpre : ∀ p ∈ A.pre, bo' p.1 = bo p.1 ∧ σ' p.1 = σ p.1 := by
    intro p hp
    cases hbw : bwd to p.1 with
    | none => simp only [bo', σ', hbw]; exact ⟨trivial, trivial⟩
    | some o =>
      have hm := bwd_mem hbw
      have := t3 _ hm
      rcases this with h | h
      · have e : o = p.1 := h
        simp only [bo', σ', hbw, e]; exact ⟨trivial, trivial⟩
      · exfalso
        have h1 := h.1
        rw [List.any_eq_false] at h1
        exact h1 p.1 (by rw [hpi]; exact List.mem_map.2 ⟨p, hp, rfl⟩) (by simp)
  have hok : ∀ k, okS A S w bo k → okS A (renS ks to S) w bo' k := fun k hk => ⟨hk.1, hk.2.1, fun o' y hy hbb => by
    obtain ⟨o, x, hm, hx, -⟩ := renS_obj hy
    rw [(hb _ hm).1] at hbb
    exact hk.2.2 o x hx hbb⟩
  refine ⟨bo', σ', A.pre.map (·.1) ++ to.map (·.2), hR.keep, ?_, fun t => ?_, fun k y hy => ?_, fun k y b hy hbb => ?_, fun k k' y y' b hy hy' hbb hbb' => ?_, fun p hp => ?_, fun p hp => List.mem_append.2 (.inl (List.mem_map.2 ⟨p, hp, rfl⟩)), fun t o ho => ?_, fun k y hy => ?_, hR.axo⟩
  · rw [hR.sz]; simp [renS, keepS_len]
  · have e : (renS ks to S).slot t = ren1 to ((keepS ks 0 S.fr).getD t .un) := by
      unfold St.slot renS
      simp only [List.getD_eq_getElem?_getD, List.getElem?_map]
      cases (keepS ks 0 S.fr)[t]? <;> rfl
    rw [e]
    rcases keepS_get ks 0 S.fr t with h | h
    · rw [h]; exact ren1_ok (E := A.env S w bo σ) (E' := A.env (renS ks to S) w bo' σ') rfl hok hb (hR.sl t)
    · rw [h]; trivial
  · obtain ⟨o, x, hm, hx, rfl⟩ := renS_obj hy
    have ho := hR.ob o x hx
    have hbo := hb _ hm
    cases x with
    | box cs =>
      obtain ⟨b, T, vs, g1, g2, g3, g4⟩ := ho
      refine ⟨b, T, vs, by show bo' k = _; rw [hbo.1]; exact g1, g2, by simpa using g3, fun j hj => ?_⟩
      rw [List.length_map] at hj
      rw [getD_map0 cs j _ hj]
      exact ⟨ren0_ok (E := A.env S w bo σ) (E' := A.env (renS ks to S) w bo' σ') rfl hok hb (g4 j hj).1, (g4 j hj).2⟩
    | row fl T esz n L =>
      obtain ⟨g1, g2, g3, g4, g5, vs, g6, g7⟩ := ho
      refine ⟨g1, g2, g3, g4, by show bo' k = (σ' k).ownBlock; rw [hbo.1, hbo.2]; exact g5, vs, by show World.ownsRow w 0 T esz (σ' k) n vs; rw [hbo.2]; exact g6, fun i j hi hj => ⟨(g7 i j hi hj).1.mono fun k hk => ⟨hok k hk, rfl⟩, (g7 i j hi hj).2⟩⟩
  · obtain ⟨o, x, hm, hx, rfl⟩ := renS_obj hy
    rw [(hb _ hm).1] at hbb
    exact hR.live o x b hx hbb
  · obtain ⟨o, x, hm, hx, -⟩ := renS_obj hy
    obtain ⟨o', x', hm', hx', -⟩ := renS_obj hy'
    rw [(hb _ hm).1] at hbb
    rw [(hb _ hm').1] at hbb'
    have := hR.inj o o' x x' b hx hx' hbb hbb'
    subst this
    have e1 := mem_fwd hn1 hm
    have e2 := mem_fwd hn1 hm'
    rw [e1] at e2; exact Option.some.inj e2
  · rw [(hpre p hp).1, (hpre p hp).2]; exact hR.pre p hp
  · have e : (renS ks to S).slot t = ren1 to ((keepS ks 0 S.fr).getD t .un) := by
      unfold St.slot renS
      simp only [List.getD_eq_getElem?_getD, List.getElem?_map]
      cases (keepS ks 0 S.fr)[t]? <;> rfl
    rw [e] at ho
    exact List.mem_append.2 (.inr (ren1_refs o ho))
  · obtain ⟨o, x, hm, hx, rfl⟩ := renS_obj hy
    refine ⟨List.mem_append.2 (.inr (List.mem_map.2 ⟨_, hm, rfl⟩)), fun q hq => List.mem_append.2 (.inr ?_)⟩
    cases x with
    | box cs =>
      simp only [renO, orefs, List.mem_flatMap, List.mem_map] at hq
      obtain ⟨_, ⟨e, _, rfl⟩, hq⟩ := hq
      exact List.mem_map.2 (List.mem_map.1 (ren0_refs q hq))
    | row => simp [renO, orefs] at hq

/-! one cell, told otherwise -/
theorem refs0_in {S : St} {A : Amb} {tm : Array Value} {w : World} {bo : Nat → Option Nat} {σ : Nat → Value} {kl : List Nat} (hR : Rel A S tm w bo σ kl) {t : Nat} {cs : List DV} (hs : S.slot t = .ag cs) {e : DV} (he : e ∈ cs) : ∀ o ∈ refs0 e, o ∈ kl := fun o ho =>
  hR.rfs t o (by rw [hs]; simp only [refs, refs1, List.mem_flatMap]; exact ⟨e, he, ho⟩)

theorem setIn_same (tm : Array Value) (t : Nat) : putT tm (some t) (tm.getD t undef') = tm := by
  show tm.setIfInBounds t (tm.getD t undef') = tm
  apply Array.ext (by simp)
  intro i h1 h2
  rw [Array.getElem_setIfInBounds h2]
  split
  · rename_i h; subst h; simp [h2]
  · rfl

theorem cell_set {E : Env} {cs : List DV} {vs : List Value} {j0 : Nat} {d0 d : DV} (h : ∀ j, j < cs.length → RV0 E (cs.getD j .un) (vs.getD j undef') ∧ (vs.getD j undef').oneCell' = true) (hj0 : cs[j0]? = some d0) (hd : ∀ x, RV0 E d0 x → RV0 E d x) :
    ∀ j, j < (cs.set j0 d).length → RV0 E ((cs.set j0 d).getD j .un) (vs.getD j undef') ∧ (vs.getD j undef').oneCell' = true := by
  intro j hj
  rw [List.length_set] at hj
  refine ⟨?_, (h j hj).2⟩
  by_cases hjj : j0 = j
  · subst hjj
    have e1 : (cs.set j0 d).getD j0 .un = d := by simp [List.getD_eq_getElem?_getD, hj]
    have e2 : cs.getD j0 .un = d0 := by simp [List.getD_eq_getElem?_getD, hj0]
    rw [e1]
    have := (h j0 hj).1
    rw [e2] at this
    exact hd _ this
  · have e1 : (cs.set j0 d).getD j .un = cs.getD j .un := by simp [List.getD_eq_getElem?_getD, List.getElem?_set, hjj]
    rw [e1]; exact (h j hj).1

theorem cell_refs {cs : List DV} {j0 : Nat} {d : DV} {kl : List Nat} {ks : List Nat} (h : ∀ e ∈ cs, ∀ o ∈ refs0 e, o ∈ kl) (hd : ∀ o ∈ refs0 d, o ∈ ks) : ∀ e ∈ cs.set j0 d, ∀ o ∈ refs0 e, o ∈ ks ++ kl := by
  intro e he o ho
  rcases List.mem_or_eq_of_mem_set he with h1 | rfl
  · exact List.mem_append.2 (.inr (h e h1 o ho))
  · exact List.mem_append.2 (.inl (hd o ho))

/-- the general form: a cell is told otherwise, an object comes or goes that bears on no block of ours -/
theorem Rel.cell {A : Amb} {S : St} {tm : Array Value} {w : World} {bo bo' : Nat → Option Nat} {σ σ' : Nat → Value} {kl : List Nat} (hR : Rel A S tm w bo σ kl) {pl : Pl} {d0 d : DV} {sl : List (Nat × DV)} {ob ob2 : List (Nat × Option Ob)} {new : List Nat}
    (hg : getP S pl = some d0) (hp : putP S d pl = some (sl, ob)) (hbo : ∀ o ∈ kl, bo' o = bo o ∧ σ' o = σ o)
    (hne : ∀ o ∈ ob.map (·.1), o ∉ ob2.map (·.1))
    (hd : ∀ x, RV0 (A.env (S.app ⟨sl, ob ++ ob2, new⟩) w bo' σ') d0 x → RV0 (A.env (S.app ⟨sl, ob ++ ob2, new⟩) w bo' σ') d x) (hrefs : ∀ o ∈ refs0 d, o ∈ new ++ kl) (hag : d0 = .nl ∨ ∃ o, d0 = .ow o)
    (hob2 : ∀ o x, o ∈ ob2.map (·.1) → (S.app ⟨sl, ob ++ ob2, new⟩).obj o = some x → ObOk (A.env (S.app ⟨sl, ob ++ ob2, new⟩) w bo' σ') o x ∧ o ∈ new ++ kl ∧ orefs x = [] ∧ bo' o = none)
    (hmono : ∀ k, okS A S w bo k → okS A (S.app ⟨sl, ob ++ ob2, new⟩) w bo' k) :
    Rel A (S.app ⟨sl, ob ++ ob2, new⟩) tm w bo' σ' (new ++ kl) := by
  have hkeep : ∀ X, Keep w w X := fun X => Keep.refl _ _
  have hE : ∀ {d : DV} {x : Value}, (∀ o ∈ refs0 d, o ∈ kl) → RV0 (A.env S w bo σ) d x → RV0 (A.env (S.app ⟨sl, ob ++ ob2, new⟩) w bo' σ') d x := fun hr h => RV0.mono h (fun k hk => ⟨hmono k hk, rfl⟩) fun o ho => hbo o (hr o ho)
  have hagd : ∀ (x : Value), RV0 (A.env (S.app ⟨sl, ob ++ ob2, new⟩) w bo' σ') d x → RV (A.env (S.app ⟨sl, ob ++ ob2, new⟩) w bo' σ') d x := by
    intro x h
    cases d with
    | ag cs => exact h.elim
    | tu cs => exact h.elim
    | _ => exact h
  have hrefsd : ∀ o ∈ refs d, o ∈ new ++ kl ∨ ∃ cs, d = .ag cs ∨ d = .tu cs := by
    intro o ho
    cases d with
    | ag cs => exact .inr ⟨cs, .inl rfl⟩
    | tu cs => exact .inr ⟨cs, .inr rfl⟩
    | _ => exact .inl (hrefs o ho)
  cases pl with
  | sl t =>
    simp only [getP, Option.some.injEq] at hg
    simp only [putP, Option.some.injEq, Prod.mk.injEq] at hp
    obtain ⟨rfl, rfl⟩ := hp
    have hx := hR.sl t
    have hx0 : RV0 (A.env S w bo σ) d0 (tm.getD t undef') := by
      rw [hg] at hx
      rcases hag with rfl | ⟨o, rfl⟩ <;> exact hx
    have hr0 : ∀ o ∈ refs0 d0, o ∈ kl := fun o ho => hR.rfs t o (by rw [hg]; rcases hag with rfl | ⟨o', rfl⟩ <;> exact ho)
    have hx1 := hd _ (hE hr0 hx0)
    have h := hR.step (w' := w) (bo' := bo') (σ' := σ') ⟨[(t, d)], [] ++ ob2, new⟩ (some t) (tm.getD t undef') (hkeep _) hbo
      (.inr ⟨t, d, rfl, rfl, hagd _ hx1, fun o ho => by
        rcases hrefsd o ho with h | ⟨cs, rfl | rfl⟩
        · exact h
        · exact hx1.elim
        · exact hx1.elim⟩)
      (fun o x ho hx => by
        obtain ⟨h1, h2, h3, h4⟩ := hob2 o x ho hx
        exact ⟨h1, h2, fun p hp => (by rw [h3] at hp; cases hp), fun b hb => (by rw [h4] at hb; cases hb)⟩)
      (fun o1 o2 x1 x2 b ho1 ho2 hx1 hx2 hb1 hb2 => by
        have := (hob2 o1 x1 ho1 hx1).2.2.2
        rw [this] at hb1; cases hb1)
    rw [setIn_same] at h
    exact h
  | sc t j =>
    simp only [getP] at hg
    simp only [putP] at hp
    split at hg
    · rename_i cs hs
      rw [hs] at hp
      simp only [Option.some.injEq, Prod.mk.injEq] at hp
      obtain ⟨rfl, rfl⟩ := hp
      have hx := hR.sl t
      rw [hs] at hx
      obtain ⟨vs, hv, h2, h3⟩ := hx
      have hrcs : ∀ e ∈ cs, ∀ o ∈ refs0 e, o ∈ kl := fun e he => refs0_in hR hs he
      have h3' : ∀ j', j' < cs.length → RV0 (A.env (S.app ⟨[(t, .ag (cs.set j d))], [] ++ ob2, new⟩) w bo' σ') (cs.getD j' .un) (vs.getD j' undef') ∧ (vs.getD j' undef').oneCell' = true :=
        fun j' hj' => ⟨hE (hrcs _ (getD_mem cs j' _ hj')) (h3 j' hj').1, (h3 j' hj').2⟩
      have h := hR.step (w' := w) (bo' := bo') (σ' := σ') ⟨[(t, .ag (cs.set j d))], [] ++ ob2, new⟩ (some t) (tm.getD t undef') (hkeep _) hbo
        (.inr ⟨t, _, rfl, rfl, ⟨vs, hv, by rw [List.length_set]; exact h2, cell_set h3' hg hd⟩, fun o ho => by
          simp only [refs, refs1, List.mem_flatMap] at ho
          obtain ⟨e, he, ho⟩ := ho
          have := cell_refs (ks := new ++ kl) hrcs (fun o ho => hrefs o ho) e he o ho
          rcases List.mem_append.1 this with h | h
          · exact h
          · exact List.mem_append.2 (.inr h)⟩)
        (fun o x ho hx => by
          obtain ⟨h1, h2, h3, h4⟩ := hob2 o x ho hx
          exact ⟨h1, h2, fun p hp => (by rw [h3] at hp; cases hp), fun b hb => (by rw [h4] at hb; cases hb)⟩)
        (fun o1 o2 x1 x2 b ho1 ho2 hx1 hx2 hb1 hb2 => by
          have := (hob2 o1 x1 ho1 hx1).2.2.2
          rw [this] at hb1; cases hb1)
      rw [setIn_same] at h
      exact h
    · cases hg
  | ob o j =>
    simp only [getP] at hg
    simp only [putP] at hp
    split at hg
    · rename_i cs hs
      rw [hs] at hp
      simp only [Option.some.injEq, Prod.mk.injEq] at hp
      obtain ⟨rfl, rfl⟩ := hp
      have hko := hR.orf o _ hs
      have hrcs : ∀ e ∈ cs, ∀ p ∈ refs0 e, p ∈ kl := fun e he p hp => hko.2 p (by simp only [orefs, List.mem_flatMap]; exact ⟨e, he, hp⟩)
      obtain ⟨b0, T, vs, g1, g2, g3, g4⟩ := hR.ob o _ hs
      have g4' : ∀ j', j' < cs.length → RV0 (A.env (S.app ⟨[], [(o, some (.box (cs.set j d)))] ++ ob2, new⟩) w bo' σ') (cs.getD j' .un) (vs.getD j' undef') ∧ (vs.getD j' undef').oneCell' = true :=
        fun j' hj' => ⟨hE (hrcs _ (getD_mem cs j' _ hj')) (g4 j' hj').1, (g4 j' hj').2⟩
      have hoo : (S.app ⟨[], [(o, some (.box (cs.set j d)))] ++ ob2, new⟩).obj o = some (.box (cs.set j d)) := by
        rw [app_obj]
        have : wrOb ([(o, some (Ob.box (cs.set j d)))] ++ ob2) o (S.obj o) = wrOb ob2 o (some (Ob.box (cs.set j d))) := by simp [wrOb]
        rw [this, wrOb_not (hne o (by simp))]
      have hb0 : bo' o = some b0 := by rw [(hbo o hko.1).1]; exact g1
      refine hR.step (w' := w) (bo' := bo') (σ' := σ') ⟨[], [(o, some (.box (cs.set j d)))] ++ ob2, new⟩ none undef (hkeep _) hbo (.inl ⟨rfl, rfl⟩) ?_ ?_
      · intro o' x ho' hx
        by_cases hoo' : o' = o
        · subst hoo'
          rw [hoo] at hx; cases hx
          refine ⟨⟨b0, T, vs, hb0, g2, by rw [List.length_set]; exact g3, cell_set g4' hg hd⟩, List.mem_append.2 (.inr hko.1), fun p hp => ?_, fun b hb => ?_⟩
          · simp only [orefs, List.mem_flatMap] at hp
            obtain ⟨e, he, hp⟩ := hp
            have := cell_refs (ks := new ++ kl) hrcs (fun o ho => hrefs o ho) e he p hp
            rcases List.mem_append.1 this with h | h
            · exact h
            · exact List.mem_append.2 (.inr h)
          · rw [hb0] at hb
            have := Option.some.inj hb
            subst this
            exact ⟨(hR.live o' _ b0 hs g1).1, fun _ => ⟨o', by simp, _, hs, g1⟩⟩
        · have ho2 : o' ∈ ob2.map (·.1) := by
            simp only [List.map_append, List.map_cons, List.map_nil, List.mem_append, List.mem_singleton] at ho'
            exact ho'.resolve_left hoo'
          obtain ⟨h1, h2, h3, h4⟩ := hob2 o' x ho2 hx
          exact ⟨h1, h2, fun p hp => (by rw [h3] at hp; cases hp), fun b hb => (by rw [h4] at hb; cases hb)⟩
      · intro o1 o2 x1 x2 b ho1 ho2 hx1 hx2 hb1 hb2
        have aux : ∀ o' x, o' ∈ (([(o, some (Ob.box (cs.set j d)))] ++ ob2).map (·.1)) → (S.app ⟨[], [(o, some (.box (cs.set j d)))] ++ ob2, new⟩).obj o' = some x → bo' o' = some b → o' = o := by
          intro o' x ho' hx hb
          by_cases hoo' : o' = o
          · exact hoo'
          · exfalso
            have ho2 : o' ∈ ob2.map (·.1) := by
              simp only [List.map_append, List.map_cons, List.map_nil, List.mem_append, List.mem_singleton] at ho'
              exact ho'.resolve_left hoo'
            rw [(hob2 o' x ho2 hx).2.2.2] at hb; cases hb
        rw [aux o1 x1 ho1 hx1 hb1, aux o2 x2 ho2 hx2 hb2]
    · cases hg

theorem getP_refs {S : St} {A : Amb} {tm : Array Value} {w : World} {bo : Nat → Option Nat} {σ : Nat → Value} {kl : List Nat} (hR : Rel A S tm w bo σ kl) {pl : Pl} {d : DV} (h : getP S pl = some d) : ∀ o ∈ refs0 d, o ∈ kl := by
  cases pl with
  | sl t =>
    simp only [getP, Option.some.injEq] at h
    intro o ho
    refine hR.rfs t o ?_
    rw [h]
    cases d with
    | ag cs => simp [refs0] at ho
    | tu cs => simp [refs0] at ho
    | _ => exact ho
  | sc t j =>
    simp only [getP] at h
    split at h
    · rename_i cs hs
      exact refs0_in hR hs (List.mem_of_getElem? h)
    · cases h
  | ob o j =>
    simp only [getP] at h
    split at h
    · rename_i cs hs
      intro p hp
      exact (hR.orf o _ hs).2 p (by simp only [orefs, List.mem_flatMap]; exact ⟨d, List.mem_of_getElem? h, hp⟩)
    · cases h

/-- the places that a cell's telling touches -/
theorem putP_keys {S : St} {d : DV} {pl : Pl} {sl : List (Nat × DV)} {ob : List (Nat × Option Ob)} (h : putP S d pl = some (sl, ob)) : (∀ o ∈ ob.map (·.1), ∃ cs, S.obj o = some (.box cs)) ∧ ∀ p ∈ ob, ∃ x, p.2 = some x := by
  cases pl with
  | sl t => simp only [putP, Option.some.injEq, Prod.mk.injEq] at h; obtain ⟨rfl, rfl⟩ := h; exact ⟨fun o ho => by simp at ho, fun p hp => by cases hp⟩
  | sc t j =>
    simp only [putP] at h
    split at h
    · simp only [Option.some.injEq, Prod.mk.injEq] at h; obtain ⟨rfl, rfl⟩ := h; exact ⟨fun o ho => by simp at ho, fun p hp => by cases hp⟩
    · cases h
  | ob o j =>
    simp only [putP] at h
    split at h
    · rename_i cs hs
      simp only [Option.some.injEq, Prod.mk.injEq] at h; obtain ⟨rfl, rfl⟩ := h
      exact ⟨fun o' ho => by simp at ho; subst ho; exact ⟨cs, hs⟩, fun p hp => by simp at hp; subst hp; exact ⟨_, rfl⟩⟩
    · cases h

theorem adj_ok {A : Amb} {S : St} {tm : Array Value} {w : World} {bo : Nat → Option Nat} {σ : Nat → Value} {kl : List Nat} (hR : Rel A S tm w bo σ kl) {c : Adj} {u : Upd} (h : adjU S kl c = some u) : ∃ bo' σ', Rel A (S.app u) tm w bo' σ' (u.new ++ kl) := by
  have wr : ∀ (ob : List (Nat × Option Ob)) (o : Nat) (x : Ob) (c : Option Ob), wrOb ob o c = some x → (∀ p ∈ ob, ∃ x, p.2 = some x) → o ∈ ob.map (·.1) ∨ c = some x := by
    intro ob o x c h _
    rcases wrOb_some h with h1 | ⟨_, h2⟩
    · exact .inl (List.mem_map.2 ⟨_, h1, rfl⟩)
    · exact .inr h2
  cases c with
  | own pl k T esz fl =>
    simp only [adjU] at h
    split at h
    · rename_i sl ob hg hp
      split at h
      · rename_i hc
        cases h
        simp only [Bool.and_eq_true, decide_eq_true_eq, Bool.not_eq_true', List.any_eq_false, beq_iff_eq] at hc
        have hk : k ∉ kl := fun hm => hc.2 k hm rfl
        have hkeys := putP_keys hp
        have hkob : k ∉ ob.map (·.1) := fun hm => by
          obtain ⟨cs, hcs⟩ := hkeys.1 k hm
          exact hk (hR.orf k _ hcs).1
        refine ⟨upd bo k none, upd σ k (.slice none 0 0), hR.cell (ob2 := [(k, some (.row fl T esz 0 []))]) hg hp (fun o ho => ?_) (fun o ho ho2 => ?_) (fun x hx => ?_) (fun o ho => ?_) (.inl rfl) (fun o x ho hx => ?_) (fun q hq => ⟨hq.1, hq.2.1, fun o x hx hb => ?_⟩)⟩
        · have : o ≠ k := fun e => hk (e ▸ ho)
          exact ⟨upd_ne _ _ this, upd_ne _ _ this⟩
        · simp at ho2; subst ho2; exact hkob ho
        · have hx' : x = .slice none 0 0 := hx
          exact ⟨by rw [hx']; exact upd_same _ _ _, none, 0, 0, hx'⟩
        · simp [refs0] at ho; simp [ho]
        · simp at ho; subst ho
          rw [app_obj] at hx
          have e : wrOb (ob ++ [(o, some (Ob.row fl T esz 0 []))]) o (S.obj o) = some (.row fl T esz 0 []) := by simp [wrOb, List.foldl_append]
          rw [e] at hx; cases hx
          refine ⟨⟨rfl, hc.1, fun l hl => (by cases hl), fun _ l hl => (by cases hl), ?_, [], ?_, fun i j hi => by omega⟩, by simp, rfl, upd_same _ _ _⟩
          · show upd bo o none o = (upd σ o (.slice none 0 0) o).ownBlock
            rw [upd_same, upd_same]; rfl
          · show World.ownsRow w 0 T esz (upd σ o (.slice none 0 0) o) 0 []
            rw [upd_same]; exact World.ownsRow_nil _ _ _ _
        · by_cases hok : o = k
          · subst hok; rw [upd_same] at hb; cases hb
          · rw [upd_ne _ _ hok] at hb
            rw [app_obj] at hx
            have e : wrOb (ob ++ [(k, some (Ob.row fl T esz 0 []))]) o (S.obj o) = wrOb ob o (S.obj o) := by
              have : ¬ k = o := fun e => hok e.symm
              simp [wrOb, List.foldl_append, this]
            rw [e] at hx
            rcases wr ob o x _ hx hkeys.2 with h1 | h1
            · obtain ⟨cs, hcs⟩ := hkeys.1 o h1
              exact hq.2.2 o _ hcs hb
            · exact hq.2.2 o x h1 hb
      · cases h
    · cases h
  | nro pl esz fl =>
    simp only [adjU] at h
    split at h
    · rename_i sl ob hg hp
      cases h
      have hkeys := putP_keys hp
      refine ⟨bo, σ, ?_⟩
      have := hR.cell (bo' := bo) (σ' := σ) (ob2 := []) (new := []) hg hp (fun o ho => ⟨rfl, rfl⟩) (fun o ho ho2 => by simp at ho2) (fun x hx => ?_) (fun o ho => by simp [refs0] at ho) (.inl rfl) (fun o x ho hx => by simp at ho) (fun q hq => ⟨hq.1, hq.2.1, fun o x hx hb => ?_⟩)
      · simpa using this
      · have hx' : x = .slice none 0 0 := hx
        subst hx'
        exact .ro fl esz 0 [] none 0 ⟨0, 0, none⟩ (fun _ _ => undef') rfl (Nat.le_refl _) (by simp [maxLen]) (.inl rfl) (fun l hl => by cases hl) (fun _ l hl => by cases hl) (fun i j hi => by omega) (fun i j hi => by omega) (fun i j hi => by omega)
      · rw [app_obj] at hx
        rcases wr _ o x _ hx (by simpa using hkeys.2) with h1 | h1
        · obtain ⟨cs, hcs⟩ := hkeys.1 o (by simpa using h1)
          exact hq.2.2 o _ hcs hb
        · exact hq.2.2 o x h1 hb
    · cases h
  | frz pl =>
    simp only [adjU] at h
    split at h
    · rename_i o0 hg
      split at h
      · rename_i fl T esz n L hx0
        split at h
        · rename_i sl ob hp
          cases h
          have hkeys := putP_keys hp
          have hnot : o0 ∉ ob.map (·.1) := fun hm => by
            obtain ⟨cs, hcs⟩ := hkeys.1 o0 hm
            rw [hx0] at hcs; cases hcs
          have hobj : ∀ o x, (S.app ⟨sl, ob ++ [(o0, none)], []⟩).obj o = some x → o ≠ o0 ∧ ∃ y, S.obj o = some y := by
            intro o x hx
            rw [app_obj] at hx
            have e : wrOb (ob ++ [(o0, none)]) o (S.obj o) = if o0 = o then none else wrOb ob o (S.obj o) := by simp [wrOb, List.foldl_append]
            rw [e] at hx
            by_cases ho : o0 = o
            · rw [if_pos ho] at hx; cases hx
            · rw [if_neg ho] at hx
              refine ⟨fun e => ho e.symm, ?_⟩
              rcases wr ob o x _ hx hkeys.2 with h1 | h1
              · obtain ⟨cs, hcs⟩ := hkeys.1 o h1; exact ⟨_, hcs⟩
              · exact ⟨_, h1⟩
          have hmono : ∀ k, okS A S w bo k → okS A (S.app ⟨sl, ob ++ [(o0, none)], []⟩) w bo k := fun q hq => ⟨hq.1, hq.2.1, fun o x hx hb => by
            obtain ⟨-, y, hy⟩ := hobj o x hx
            exact hq.2.2 o y hy hb⟩
          refine ⟨bo, σ, ?_⟩
          have := hR.cell (bo' := bo) (σ' := σ) (ob2 := [(o0, none)]) (new := []) hg hp (fun o ho => ⟨rfl, rfl⟩) (fun o ho ho2 => by simp at ho2; subst ho2; exact hnot ho) (fun x hx => ?_) (fun o ho => by simp [refs0] at ho) (.inr ⟨o0, rfl⟩) (fun o x ho hx => by
            simp at ho; subst ho
            exact absurd rfl (hobj _ x hx).1) hmono
          · exact this
          · have hx' : RV0 (A.env S w bo σ) (.ow o0) x := hx
            refine row_rp (hR.ob o0 _ hx0) hx' hmono fun b hb => ?_
            have hl := hR.live o0 _ b hx0 hb
            refine ⟨hl.1, fun h => .inr (hl.2 h), fun o y hy hb2 => ?_⟩
            obtain ⟨hne, z, hz⟩ := hobj o y hy
            exact hne (hR.inj o o0 z _ b hz hx0 hb2 hb)
        · cases h
      · cases h
    · cases h

end Go.Eng
end
section
set_option linter.unusedSimpArgs false
set_option linter.unusedVariables false
/-! Soundness, 18: what a run shows. -/
namespace Go.Eng
open Go
variable {P : Program}

/-- what was asked holds -/
def SatR (P : Program) (Φ : List It → St → Prop) (r : DV) (post : Obs) : Ask → Prop
  | .ret r' post' => r' = r ∧ post' = post
  | d => Sat P Φ d

theorem SatR.sat {Φ : List It → St → Prop} {r : DV} {post : Obs} {d : Ask} (h : SatR P Φ r post d) : Sat P Φ d := by
  cases d <;> first | exact h | trivial

section
variable {f : Nat} {fn : Func} {pre post : Obs} {r : DV} {A : Amb} {pi po : List Nat}

theorem drew_rel {S : St} {tm : Array Value} {w : World} {bo : Nat → Option Nat} {σ : Nat → Value} {kl : List Nat} (hR : Rel A S tm w bo σ kl) : Rel A S tm { w with drawn := w.drawn + 1 } bo σ kl := by
  have h := hR.set none .un undef (w' := { w with drawn := w.drawn + 1 }) ⟨rfl, rfl, rfl, Nat.le_refl _, fun _ _ _ => rfl⟩ trivial (fun o ho => by simp [refs, refs1, refs0] at ho)
  exact h

theorem region_ok (hmix : P.follows .mixedOrders = true) {Φ : List It → St → Prop} {R : Value → World → Prop} {id : Nat} {all : Array Oper} {draw : Bool} {k : List It} {S S' : St} {kl kl' : List Nat} {os os' : List (Ora P Φ)} {I : List Info} {D : List Ask}
    (h : ops all.toList 0 all.toList S kl os = some (S', kl', I, D, os')) (hd : (!draw || drawOk all.toList I) = true) (hs : ∀ d ∈ D, Sat P Φ d)
    {a : Act} {w : World} {bo : Nat → Option Nat} {σ : Nat → Value} (hR : Rel A S a.tmps w bo σ kl) (hdf : a.defers = [])
    (hnext : ∀ a' w' bo' σ', a'.defers = [] → Rel A S' a'.tmps w' bo' σ' kl' → Runs P f R k a' w') : Runs P f R (.code (.region id all draw) :: k) a w := by
  refine Runs.wp ?_
  cases draw with
  | false =>
    refine wp_region ?_
    rw [List.range_eq_range', ← Array.length_toList]
    exact ops_seq h hs rfl a w bo σ hR fun a' w' bo' σ' hd' hR' => ⟨rfl, hnext a' w' bo' σ' (by rw [hd', hdf]) hR'⟩
  | true =>
    have hdr := drawOk_spec (l := all.toList) (I := I) (by simpa using hd)
    refine wp_region_any hmix ?_
    obtain ⟨us, g1, g2, rfl, g4, g5, g6⟩ := ops_good (A := A) h hs
    have hsz : ∀ m, (Array.replicate all.size false).getD m false = false := by
      intro m
      rw [Array.getD_eq_getD_getElem?, Array.getElem?_replicate]
      split <;> rfl
    refine any_ok (A := A) (us := us) (I := I) (S0 := S) (kl0 := kl) (klF := kl') (df := []) (by simpa using g1) hdr (fun x hx => (g4 x).2 hx) (fun m hm => g5 m (by simpa using hm)) g6 (fun a' w' bo' σ' hd' hR' => ⟨rfl, hnext a' w' bo' σ' hd' hR'⟩)
      all.size _ a _ S kl bo σ (by simp) (fun m o hm => by rw [hsz] at hm; cases hm) (fun l => ?_) rfl (fun x hx => .inl hx) ?_ hdf (drew_rel hR)
    · have e : mixF (fun m => (Array.replicate all.size false).getD m false) 0 us S = mixF (fun _ => false) 0 us S := mixF_cong _ _ _ fun m _ => by rw [Nat.zero_add]; exact hsz m
      rw [e, mixF_none]
      exact Agree.refl _ _
    · unfold open_
      exact Nat.le_trans (List.length_filter_le _ _) (by simp)

theorem cond_ok {S : St} {Φ : List It → St → Prop} {R : Value → World → Prop} {x : Operand} {c d : Code} {k : List It} {os os' : List (Ora P Φ)} {t : Bool} {Rs : List Loc} {D : List Ask} {kl : List Nat}
    (h : ((opd x : RD P Φ DV).bind known).go S os = some (t, Rs, D, os')) (hs : ∀ d ∈ D, Sat P Φ d) {a : Act} {w : World} {bo : Nat → Option Nat} {σ : Nat → Value} (hR : Rel A S a.tmps w bo σ kl)
    (hnext : Runs P f R (.code (if t then c else d) :: k) a w) : Runs P f R (.code (.cond x c d) :: k) a w := by
  obtain ⟨e, R1, D1, os1, R2, D2, h1, h2, rfl, rfl⟩ := go_bind _ _ h
  obtain ⟨k1, rfl, rfl, -⟩ := opd_ok hR h1
  have hc := known_ok h2 (fun d hd => hs d (by simp [hd])) k1
  refine hnext.head fun b cs => ?_
  have := step_cond (P := P) (b := b) (a := a) (k := k.map It.item) (cs := cs) (w := w) (x := c) (y := d) hc
  cases t <;> exact this

theorem endR_ok (hf : P.funcs[f]? = some fn) {S : St} {a : Act} {w : World} {bo : Nat → Option Nat} {σ : Nat → Value} {kl : List Nat} (hR : Rel A S a.tmps w bo σ kl) (hd : a.defers = []) {its : List It} (hi : its = [] ∨ ∃ k, its = .code .ret :: k)
    {Φ : List It → St → Prop} {os : List (Ora P Φ)} {D : List Ask} (h : endE fn po S os = some D) (hs : ∀ d ∈ D, SatR P Φ r post d) : Runs P f (Left A post r) its a w := by
  unfold endE at h
  split at h
  · rename_i r' hr
    split at h
    · cases h
      have h1 := hs _ (List.mem_singleton.2 rfl)
      obtain ⟨rfl, hpost⟩ : r' = r ∧ _ = post := h1
      obtain ⟨x, e1, e2⟩ := end_ok hf hR hd hr hpost.symm
      intro b cs hb hk
      rcases hi with rfl | ⟨k, rfl⟩
      · exact ⟨x, w, _, e2, .one step_end, hb, rfl, hd, hk, fn, by rw [show (b.at a []).fn = b.fn from rfl, hb]; exact hf, e1⟩
      · exact ⟨x, w, _, e2, .one step_ret, hb, rfl, hd, hk, fn, by rw [show (b.at a (.code .ret :: k.map It.item)).fn = b.fn from rfl, hb]; exact hf, e1⟩
    · cases h
  · cases h

theorem stepE_ok (hf : P.funcs[f]? = some fn) (hmix : P.follows .mixedOrders = true) {Φ : List It → St → Prop} {rec : Rec P Φ}
    (hrec : ∀ its S kl os D, rec its S kl os = some D → (∀ d ∈ D, SatR P Φ r post d) → ∀ a w bo σ, Rel A S a.tmps w bo σ kl → a.defers = [] → Runs P f (Left A post r) its a w)
    {its : List It} {S : St} {kl : List Nat} {os : List (Ora P Φ)} {D : List Ask} (h : stepE fn po rec its S kl os = some D) (hs : ∀ d ∈ D, SatR P Φ r post d)
    {a : Act} {w : World} {bo : Nat → Option Nat} {σ : Nat → Value} (hR : Rel A S a.tmps w bo σ kl) (hd : a.defers = []) : Runs P f (Left A post r) its a w := by
  unfold stepE at h
  split at h
  · exact endR_ok hf hR hd (.inl rfl) h hs
  · rename_i id k
    exact (hrec _ _ _ _ _ h hs a w bo σ hR hd).head fun b cs => step_inBlock
  · rename_i c k
    exact (hrec _ _ _ _ _ h hs a w bo σ hR hd).again
  · rename_i c k
    split at h
    · exact endR_ok hf hR hd (.inr ⟨k, rfl⟩) h hs
    · exact (hrec _ _ _ _ _ h hs a w bo σ hR hd).head fun b cs => step_skip
    · exact (hrec _ _ _ _ _ h hs a w bo σ hR hd).head fun b cs => step_seq
    · exact (hrec _ _ _ _ _ h hs a w bo σ hR hd).head fun b cs => step_block
    · split at h
      · rename_i k' hk'
        exact (hrec _ _ _ _ _ h hs a w bo σ hR hd).head fun b cs => step_exit (popTo_item hk')
      · cases h
    · split at h
      · split at h
        · rename_i D' h1
          cases h
          exact (hrec _ _ _ _ _ h1 (fun d hd => hs d (by simp [hd])) a w bo σ hR hd).head fun b cs => step_loop
        · cases h
      · cases h
    · split at h
      · rename_i t Rs D1 os1 h1
        split at h
        · rename_i D' h2
          cases h
          exact cond_ok h1 (fun d hd => (hs d (by simp [hd])).sat) hR (hrec _ _ _ _ _ h2 (fun d hd => hs d (by simp [hd])) a w bo σ hR hd)
        · cases h
      · cases h
    · split at h
      · rename_i S1 kl1 I1 D1 os1 h1
        split at h
        · rename_i hdraw
          split at h
          · rename_i D' h2
            cases h
            exact region_ok hmix h1 hdraw (fun d hd => (hs d (by simp [hd])).sat) hR hd fun a' w' bo' σ' hd' hR' => hrec _ _ _ _ _ h2 (fun d hd => hs d (by simp [hd])) a' w' bo' σ' hR' hd'
          · cases h
        · cases h
      · cases h
    · cases h

/-- fewer names will do -/
theorem Rel.less {S : St} {tm : Array Value} {w : World} {bo : Nat → Option Nat} {σ : Nat → Value} {kl : List Nat} (hR : Rel A S tm w bo σ kl) : Rel A S tm w bo σ (names S ++ A.pre.map (·.1)) := by
  refine ⟨hR.keep, hR.sz, hR.sl, hR.ob, hR.live, hR.inj, hR.pre, fun p hp => List.mem_append.2 (.inr (List.mem_map.2 ⟨p, hp, rfl⟩)), fun t o ho => List.mem_append.2 (.inl ?_), fun o x hx => ⟨List.mem_append.2 (.inl ?_), fun p hp => List.mem_append.2 (.inl ?_)⟩, hR.axo⟩
  · unfold names
    refine List.mem_append.2 (.inl (List.mem_flatMap.2 ⟨S.slot t, ?_, ho⟩))
    unfold St.slot
    rcases Nat.lt_or_ge t S.fr.length with h | h
    · exact getD_mem _ _ _ h
    · exfalso
      unfold St.slot at ho
      rw [List.getD_eq_getElem?_getD, List.getElem?_eq_none h] at ho
      simp [refs, refs1, refs0] at ho
  · unfold names
    exact List.mem_append.2 (.inr (List.mem_flatMap.2 ⟨(o, x), lk_mem hx, by simp⟩))
  · unfold names
    exact List.mem_append.2 (.inr (List.mem_flatMap.2 ⟨(o, x), lk_mem hx, by simp [hp]⟩))

theorem run_ok (hf : P.funcs[f]? = some fn) (hmix : P.follows .mixedOrders = true) (hA : A.pre = pre) (hpi : pi = pre.map (·.1)) : ∀ (n : Nat) (its : List It) (S : St) (kl : List Nat) (os : List (Ora P (Fin P f pre post r))) (D : List Ask), run fn pi po n its S kl os = some D →
    (∀ d ∈ D, SatR P (Fin P f pre post r) r post d) → ∀ a w bo σ, Rel A S a.tmps w bo σ kl → a.defers = [] → Runs P f (Left A post r) its a w
  | 0, its, S, kl, os, D, h, _, _, _, _, _, _, _ => by simp [run] at h
  | n + 1, its, S, kl, os, D, h, hs, a, w, bo, σ, hR, hd => by
    simp only [run] at h
    split at h
    · split at h
      · split at h
        · rename_i u hu
          split at h
          · rename_i D' h1
            cases h
            obtain ⟨bo', σ', hR'⟩ := adj_ok hR hu
            exact run_ok hf hmix hA hpi n its _ _ _ D' h1 (fun d hd => hs d (by simp [hd])) a w bo' σ' hR' hd
          · cases h
        · cases h
      · exact stepE_ok hf hmix (fun its S kl os D h1 h2 a w bo σ h3 h4 => run_ok hf hmix hA hpi n its S kl os D h1 h2 a w bo σ h3 h4) h hs hR hd
    · split at h
      · rename_i hc
        simp only [Bool.and_eq_true] at hc
        split at h
        · rename_i D' h1
          cases h
          obtain ⟨bo', σ', kl', hR'⟩ := ren_ok hR (by rw [hpi, hA]) hc.2 _
          have hR2 := hR'.less
          rw [hA, ← hpi] at hR2
          exact run_ok hf hmix hA hpi n its _ _ _ D' h1 (fun d hd => hs d (by simp [hd])) a w bo' σ' hR2 hd
        · cases h
      · exact stepE_ok hf hmix (fun its S kl os D h1 h2 a w bo σ h3 h4 => run_ok hf hmix hA hpi n its S kl os D h1 h2 a w bo σ h3 h4) h hs hR hd
    · split at h
      · split at h
        · rename_i hren
          cases h
          have hfin := hs _ (List.mem_singleton.2 rfl)
          obtain ⟨bo', σ', kl', hR'⟩ := ren_ok hR (by rw [hpi, hA]) hren _
          exact hfin A hA a w bo' σ' kl' hR' hd
        · cases h
      · exact stepE_ok hf hmix (fun its S kl os D h1 h2 a w bo σ h3 h4 => run_ok hf hmix hA hpi n its S kl os D h1 h2 a w bo σ h3 h4) h hs hR hd
    · exact stepE_ok hf hmix (fun its S kl os D h1 h2 a w bo σ h3 h4 => run_ok hf hmix hA hpi n its S kl os D h1 h2 a w bo σ h3 h4) h hs hR hd

/-- from a run to the function's end -/
theorem fin_ret (hf : P.funcs[f]? = some fn) (hmix : P.follows .mixedOrders = true) {its : List It} {S : St} (N : Nat) (os : List (Ora P (Fin P f pre post r)))
    (h : run fn (pre.map (·.1)) (post.map (·.1)) N its S (names S ++ pre.map (·.1)) os = some (os.map Ora.ask ++ [.ret r post])) : Fin P f pre post r its S := by
  intro A hA a w bo σ kl hR hd
  subst hA
  refine run_ok hf hmix rfl rfl N its S _ os _ h (fun d hd => ?_) a w bo σ hR.less hd
  rcases List.mem_append.1 hd with h1 | h1
  · obtain ⟨o, -, rfl⟩ := List.mem_map.1 h1
    have := o.sat
    cases o <;> exact this
  · simp at h1; subst h1; exact ⟨rfl, rfl⟩

/-- from a run to a place that has been shown -/
theorem fin_fin (hf : P.funcs[f]? = some fn) (hmix : P.follows .mixedOrders = true) {its : List It} {S : St} (N : Nat) (os : List (Ora P (Fin P f pre post r)))
    (h : run fn (pre.map (·.1)) (post.map (·.1)) N its S (names S ++ pre.map (·.1)) os = some (os.map Ora.ask)) : Fin P f pre post r its S := by
  intro A hA a w bo σ kl hR hd
  subst hA
  refine run_ok hf hmix rfl rfl N its S _ os _ h (fun d hd => ?_) a w bo σ hR.less hd
  obtain ⟨o, -, rfl⟩ := List.mem_map.1 hd
  have := o.sat
  cases o <;> exact this

def entry (n : Nat) (l : List DV) (obs : Obs) : St := ⟨l ++ List.replicate (n - l.length) .un, obs⟩

/-- what a function does -/
theorem fn_fin (hf : P.funcs[f]? = some fn) {c : Code} (hb : fn.body = some c) {as : List DV} (hag' : (pre.flatMap fun p => orefs p.2) = []) (h : Fin P f pre post r [.code c] (entry fn.ntmps as pre)) : Fn P f as pre post r := by
  have hag : ∀ p ∈ pre, orefs p.2 = [] := List.flatMap_eq_nil_iff.1 hag'
  intro w bo σ ok vs hl hv hob hbl hinj hok cs
  let A : Amb := ⟨w, bo, σ, ok, pre⟩
  have hlk : ∀ o x, (entry fn.ntmps as pre).obj o = some x → (o, x) ∈ pre := fun o x hx => lk_mem hx
  have hokS : ∀ k, ok k → okS A (entry fn.ntmps as pre) w bo k := fun k hk => ⟨hok k hk, fun _ => .inl hk, fun o x hx hbo => (hbl _ (hlk o x hx) k hbo).2 hk⟩
  have hR : Rel A (entry fn.ntmps as pre) (vs.toArray ++ Array.replicate (fn.ntmps - vs.toArray.size) undef) w bo σ (names (entry fn.ntmps as pre) ++ pre.map (·.1)) := by
    have hkl : ∀ t o, o ∈ refs ((entry fn.ntmps as pre).slot t) → o ∈ names (entry fn.ntmps as pre) := by
      intro t o ho
      unfold names
      refine List.mem_append.2 (.inl (List.mem_flatMap.2 ⟨_, ?_, ho⟩))
      unfold St.slot at ho ⊢
      rcases Nat.lt_or_ge t (entry fn.ntmps as pre).fr.length with h | h
      · exact getD_mem _ _ _ h
      · exfalso
        rw [List.getD_eq_getElem?_getD, List.getElem?_eq_none h] at ho
        simp [refs, refs1, refs0] at ho
    refine ⟨Keep.refl _ _, ?_, fun t => ?_, fun o x hx => ?_, fun o x b hx hbo => ⟨(hbl _ (hlk o x hx) b hbo).1, fun _ => ⟨_, hlk o x hx, hbo⟩⟩, fun o o' x x' b hx hx' hbo hbo' => hinj _ (hlk o x hx) _ (hlk o' x' hx') b hbo hbo', fun p _ => ⟨rfl, rfl⟩, fun p hp => List.mem_append.2 (.inr (List.mem_map.2 ⟨p, hp, rfl⟩)), fun t o ho => List.mem_append.2 (.inl (hkl t o ho)), fun o x hx => ⟨List.mem_append.2 (.inr (List.mem_map.2 ⟨_, hlk o x hx, rfl⟩)), fun p hp => ?_⟩, fun k hk ⟨p, hp, hb⟩ => (hbl p hp k hb).2 hk⟩
    · simp [entry, hl]
    · by_cases ht : t < as.length
      · have e1 : (entry fn.ntmps as pre).slot t = as.getD t .un := by
          simp [entry, St.slot, List.getD_eq_getElem?_getD, List.getElem?_append, ht]
        have e2 : (vs.toArray ++ Array.replicate (fn.ntmps - vs.toArray.size) undef).getD t undef' = vs.getD t undef' := by
          have : t < vs.length := by omega
          simp [Array.getElem?_append, this, List.getD_eq_getElem?_getD]
        rw [e1, e2]
        have h1 := hv t ht
        have h2 : RV1 (A.env (entry fn.ntmps as pre) w bo σ) (as.getD t .un) (vs.getD t undef') := h1.mono (fun k hk => ⟨hokS k hk, rfl⟩) fun _ _ => ⟨rfl, rfl⟩
        generalize as.getD t .un = d at h2
        cases d with
        | tu ds => exact h2.elim
        | _ => exact h2
      · have e1 : (entry fn.ntmps as pre).slot t = .un := by
          simp only [entry, St.slot, List.getD_eq_getElem?_getD, List.getElem?_append, ht, if_false, List.getElem?_replicate]
          split <;> rfl
        rw [e1]; trivial
    · exact (hob _ (hlk o x hx)).mono (fun k hk => ⟨hokS k hk, rfl⟩) (fun _ _ => rfl) ⟨rfl, rfl⟩ fun _ _ => ⟨rfl, rfl⟩
    · rw [hag _ (hlk o x hx)] at hp; cases hp
  have hruns := h A rfl { tmps := vs.toArray ++ Array.replicate (fn.ntmps - vs.toArray.size) undef, defers := [] } w bo σ _ hR rfl
  let b : Frame := { (default : Frame) with fn := f, kind := .normal }
  have henter : Frame.enter P f vs.toArray .normal = b.at { tmps := vs.toArray ++ Array.replicate (fn.ntmps - vs.toArray.size) undef, defers := [] } [.code c] := by
    simp [Frame.enter, Frame.at, hf, hb, b]
  obtain ⟨x, w', fr, hL, hst, hfn, hlv⟩ := hruns b cs rfl rfl
  obtain ⟨bo', σ', h1, h2, h3, h4, h5, h6⟩ := hL
  refine ⟨.returned x, w', fr, ⟨x, bo', σ', rfl, h1, h2, h3, h4, h5, h6⟩, ?_, hfn, hlv⟩
  rw [henter]
  exact hst
end

end Go.Eng
end
section
set_option linter.unusedSimpArgs false
set_option linter.unusedVariables false
/-! What the printed walks use. -/
namespace Go.Eng
open Go
variable {P : Program}

abbrev W (n : Int) : Int := IntKind.i64.wrap n
def I (n : Int) : DV := .v (.int .i64 n)
def K (k : IntKind) (n : Int) : DV := .v (.int k n)
def B (b : Bool) : DV := .v (.bool b)
def Z (s : ByteArray) : DV := .v (.string s)
def bs (l : List UInt8) : ByteArray := ⟨l.toArray⟩
def R {α : Type} (fl : Bool) (esz : Nat) (c : α → List DV) (l : List α) : DV := .ro fl esz l.length (l.map c)
def Row {α : Type} (fl : Bool) (T esz : Nat) (c : α → List DV) (l : List α) : Ob := .row fl T esz l.length (l.map c)
def cI (n : Int) : List DV := [I n]
def cK (k : IntKind) (n : Int) : List DV := [K k n]
def cB (b : Bool) : List DV := [B b]
def cZ (s : ByteArray) : List DV := [Z s]
def cL {α : Type} (fl : Bool) (esz : Nat) (c : α → List DV) (l : List α) : List DV := [R fl esz c l]
def imax (a b : Int) : Int := if a < b then b else a
def imin (a b : Int) : Int := if b < a then b else a

def bodyOf (f : Func) : Code := f.body.getD .skip
def mkF : Nat → Nat → List (Nat × DV) → List DV
  | 0, _, _ => []
  | n + 1, i, [] => .un :: mkF n (i + 1) []
  | n + 1, i, (t, d) :: l => if t == i then d :: mkF n (i + 1) l else .un :: mkF n (i + 1) ((t, d) :: l)
def mkS (n : Nat) (l : List (Nat × DV)) (ob : Obs) : St := ⟨mkF n 0 l, ob⟩

def firstR : Code → Option Nat
  | .seq a b => match firstR a with | some r => some r | none => firstR b
  | .region i _ _ => some i
  | .cond _ a b => match firstR a with | some r => some r | none => firstR b
  | .block _ c => firstR c
  | .loop c => firstR c
  | _ => none
def findL (id : Nat) : Code → List It → Option (List It)
  | .seq a b, k => match findL id a (.code b :: k) with | some r => some r | none => findL id b k
  | .cond _ a b, k => match findL id a k with | some r => some r | none => findL id b k
  | .block i c, k => findL id c (.endb i :: k)
  | .loop c, k => if firstR c == some id then some (.code (.loop c) :: k) else findL id c (.lp c :: k)
  | _, _ => none
def findR (id : Nat) : Code → List It → Option (List It)
  | .seq a b, k => match findR id a (.code b :: k) with | some r => some r | none => findR id b k
  | .cond _ a b, k => match findR id a k with | some r => some r | none => findR id b k
  | .block i c, k => findR id c (.endb i :: k)
  | .loop c, k => findR id c (.lp c :: k)
  | .region i os d, k => if i == id then some (.code (.region i os d) :: k) else none
  | _, _ => none
def itsL (id : Nat) (c : Code) : List It := (findL id c []).getD []
def itsR (id : Nat) (c : Code) : List It := (findR id c []).getD []

/-! the plain functions' parts -/
def fuelN : Nat := 2 ^ 64
def ifE {α : Type} (c : Bool) (a b : Option α) : Option α := match c with | true => a | false => b
def guardE {α : Type} (p : Prop) [Decidable p] (a : Option α) : Option α := if p then a else none
def getE {α : Type} (l : List α) (i : Int) : Option α := if 0 ≤ i then l[i.toNat]? else none
def getS {α : Type} (l : List α) (lo hi : Int) : Option (List α) := if 0 ≤ lo ∧ lo ≤ hi ∧ hi ≤ (l.length : Int) then some ((l.take hi.toNat).drop lo.toNat) else none

def getB (s : ByteArray) (i : Int) : Option UInt8 := if 0 ≤ i then s[i.toNat]? else none
def toStr (l : List Int) : Option ByteArray := if l.all (fun x => decide (0 ≤ x ∧ x < 256)) = true then some ⟨(l.map fun x => UInt8.ofNat x.toNat).toArray⟩ else none
theorem getB_sx {s : ByteArray} {i : Int} {b : UInt8} (h : getB s i = some b) : 0 ≤ i ∧ s[i.toNat]? = some b := by
  unfold getB at h
  split at h
  · rename_i h0; exact ⟨h0, h⟩
  · cases h
theorem toStr_of {l : List Int} {s : ByteArray} (h : toStr l = some s) : l.map (cK .u8) = s.data.toList.map fun c => [.v (.int .u8 (c.toNat : Int))] := by
  unfold toStr at h
  split at h
  · rename_i h0
    cases h
    simp only [List.all_eq_true, decide_eq_true_eq] at h0
    simp only [List.map_map]
    apply List.map_congr_left
    intro x hx
    obtain ⟨h1, h2⟩ := h0 x hx
    simp only [Function.comp_apply, cK, K]
    congr 3
    simp [UInt8.toNat_ofNat]
    omega
  · cases h
theorem mks_of {α : Type} (c : α → List DV) {z : α} {n : Int} (h : 0 ≤ n) : n = ((List.replicate n.toNat z).length : Int) ∧ n = ((List.replicate n.toNat z).length : Int) ∧ List.replicate (List.replicate n.toNat z).length (c z) = (List.replicate n.toNat z).map c := by
  simp; omega

section
variable {α β : Type} {r : α} {Q : Prop}
theorem ifE_cases {c : Bool} {a b : Option α} (h : ifE c a b = some r) (ht : c = true → a = some r → Q) (hf : c = false → b = some r → Q) : Q := by
  cases c with
  | true => exact ht rfl h
  | false => exact hf rfl h
theorem guardE_cases {p : Prop} [Decidable p] {a : Option α} (h : guardE p a = some r) (k : p → a = some r → Q) : Q := by
  unfold guardE at h
  split at h
  · exact k (by assumption) h
  · cases h
theorem bind_cases {x : Option β} {f : β → Option α} (h : x.bind f = some r) (k : ∀ y, x = some y → f y = some r → Q) : Q := by
  cases x with
  | none => cases h
  | some y => exact k y rfl h
theorem eq_of {a b : Int} (h : (a == b) = true) : a = b := by simpa using h
theorem leaf {r0 : α} (h : some r0 = some r) (k : r0 = r → Q) : Q := k (Option.some.inj h)

variable {l : List α} {i : Int} {x : α}
theorem getE_el (c : α → List DV) (h : getE l i = some x) : 0 ≤ i ∧ (l.map c)[i.toNat]? = some (c x) := by
  unfold getE at h
  split at h
  · rename_i h0; exact ⟨h0, by simp [h]⟩
  · cases h
theorem getE_ib (h : getE l i = some x) : 0 ≤ i ∧ i < ((l.length : Nat) : Int) := by
  unfold getE at h
  split at h
  · rename_i h0
    refine ⟨h0, ?_⟩
    rcases Nat.lt_or_ge i.toNat l.length with h1 | h1
    · omega
    · rw [List.getElem?_eq_none h1] at h; cases h
  · cases h
theorem getE_pw (c : α → List DV) (h : getE l i = some x) : 0 ≤ ((i.toNat : Nat) : Int) ∧ (l.map c)[((i.toNat : Nat) : Int).toNat]? = some (c x) := by
  exact ⟨by omega, (getE_el c h).2⟩
theorem getS_seg {lo hi : Int} {l' : List α} (c : α → List DV) (h : getS l lo hi = some l') : 0 ≤ lo ∧ lo ≤ hi ∧ hi ≤ ((l.length : Nat) : Int) ∧ ((l.map c).take hi.toNat).drop lo.toNat = l'.map c ∧ (l'.map c).length = l'.length := by
  unfold getS at h
  split at h
  · rename_i h0
    cases h
    exact ⟨h0.1, h0.2.1, h0.2.2, by simp [List.map_take, List.map_drop], by simp⟩
  · cases h
theorem cat_of (c : α → List DV) (l m : List α) : l.map c ++ m.map c = (l ++ m).map c ∧ (l ++ m).length = l.length + m.length := by simp
theorem set_of (c : α → List DV) (l : List α) (i : Nat) (x : α) : (l.map c).set i (c x) = (l.set i x).map c ∧ l.length = (l.set i x).length := by simp [List.map_set]
end

/-- a nil slice is a row without elements -/
inductive Fits0 : DV → DV → Prop
  | refl {d : DV} : Fits0 d d
  | nl {fl : Bool} {esz : Nat} : Fits0 .nl (.ro fl esz 0 [])
inductive FitsA : List DV → List DV → Prop
  | nil : FitsA [] []
  | cons {d d' : DV} {l l' : List DV} (h : Fits0 d d') (k : FitsA l l') : FitsA (d :: l) (d' :: l')
inductive Fits1 : DV → DV → Prop
  | refl {d : DV} : Fits1 d d
  | nl {fl : Bool} {esz : Nat} : Fits1 .nl (.ro fl esz 0 [])
  | ag {cs cs' : List DV} (h : FitsA cs cs') : Fits1 (.ag cs) (.ag cs')
inductive FitsL : List DV → List DV → Prop
  | nil : FitsL [] []
  | cons {d d' : DV} {l l' : List DV} (h : Fits1 d d') (k : FitsL l l') : FitsL (d :: l) (d' :: l')

theorem nil_rp {w : World} {ok : Nat → Prop} (fl : Bool) (esz : Nat) : RP w ok (.ro fl esz 0 []) (.slice none 0 0) :=
  .ro fl esz 0 [] none 0 ⟨0, 0, none⟩ (fun _ _ => undef') rfl (Nat.le_refl _) (by simp [maxLen]) (.inl rfl) (fun l hl => by cases hl) (fun _ l hl => by cases hl) (fun i j hi => by omega) (fun i j hi => by omega) (fun i j hi => by omega)

theorem Fits0.ok {E : Env} {d d' : DV} {x : Value} (h : Fits0 d d') (hx : RV0 E d x) : RV0 E d' x := by
  cases h with
  | refl => exact hx
  | nl => have : x = .slice none 0 0 := hx; subst this; exact nil_rp _ _
theorem FitsA.len {l l' : List DV} (h : FitsA l l') : l'.length = l.length := by induction h <;> simp_all
theorem FitsA.ok {E : Env} {l l' : List DV} (h : FitsA l l') : ∀ (j : Nat) (x : Value), j < l.length → RV0 E (l.getD j .un) x → RV0 E (l'.getD j .un) x := by
  induction h with
  | nil => intro j x hj; simp at hj
  | cons h k ih =>
    intro j x hj hx
    cases j with
    | zero => exact h.ok (by simpa using hx)
    | succ j => simpa using ih j x (by simpa using hj) (by simpa using hx)
theorem Fits1.ok {E : Env} {d d' : DV} {x : Value} (h : Fits1 d d') (hx : RV1 E d x) : RV1 E d' x := by
  cases h with
  | refl => exact hx
  | nl => have : x = .slice none 0 0 := hx; subst this; exact nil_rp _ _
  | ag h =>
    obtain ⟨vs, rfl, h2, h3⟩ := hx
    exact ⟨vs, rfl, by rw [h2, h.len], fun j hj => ⟨h.ok j _ (by rw [← h.len]; exact hj) (h3 j (by rw [← h.len]; exact hj)).1, (h3 j (by rw [← h.len]; exact hj)).2⟩⟩
theorem FitsL.len {l l' : List DV} (h : FitsL l l') : l'.length = l.length := by induction h <;> simp_all
theorem FitsL.ok {E : Env} {l l' : List DV} (h : FitsL l l') : ∀ (j : Nat) (x : Value), j < l.length → RV1 E (l.getD j .un) x → RV1 E (l'.getD j .un) x := by
  induction h with
  | nil => intro j x hj; simp at hj
  | cons h k ih =>
    intro j x hj hx
    cases j with
    | zero => exact h.ok (by simpa using hx)
    | succ j => simpa using ih j x (by simpa using hj) (by simpa using hx)
theorem Fn.fits {f : Nat} {as as' : List DV} {pre post : Obs} {r : DV} (hf : FitsL as' as) (h : Fn P f as pre post r) : Fn P f as' pre post r :=
  fun w bo σ ok vs hl hv h1 h2 h3 h4 => h w bo σ ok vs (by rw [hl, hf.len]) (fun j hj => hf.ok j _ (by rw [← hf.len]; exact hj) (hv j (by rw [← hf.len]; exact hj))) h1 h2 h3 h4

end Go.Eng
end
section
set_option linter.unusedVariables false
/-! From a contract to the walk that a row asks. -/
namespace Go.Eng
open Go
variable {P : Program}

def IsRow' (k : IntKind) (w : World) (a : Option Addr) (len cap : Nat) (zs : List Int) : Prop :=
  (a = none ∧ len = 0 ∧ cap = 0 ∧ zs = []) ∨
  ∃ x, a = some x ∧ len ≤ cap ∧ cap ≤ maxLen ∧ zs.length = cap ∧ (∀ i, i < zs.length → w.cell? (x.add i) = some (.int k (zs.getD i 0))) ∧ ∀ n ∈ zs, (Lit.int k n).wf = true

theorem rp_ints {k : IntKind} {w : World} {a : Option Addr} {len cap : Nat} {zs : List Int} (h : IsRow' k w a len cap zs) : RP w (fun b => b < w.heap.size) (R true 1 (cK k) (zs.take len)) (.slice a len cap) := by
  rcases h with ⟨rfl, rfl, rfl, rfl⟩ | ⟨x, rfl, h1, h2, h3, h4, -⟩
  · exact nil_rp true 1
  · have hlen : (zs.take len).length = len := by rw [List.length_take]; omega
    unfold R
    rw [hlen]
    refine .ro true 1 len _ _ cap x (fun i _ => .int k (zs.getD i 0)) (by rw [List.length_map, hlen]) h1 h2 ?_ (fun l hl => ?_) (fun _ l hl d hd => ?_) (fun i j hi hj => ?_) (fun i j hi hj => rfl) (fun i j hi hj => ?_)
    · by_cases h0 : len = 0
      · exact .inl h0
      · refine .inr ⟨rfl, ?_⟩
        have := block_lt_of_cell (h4 0 (by omega))
        rwa [add_block] at this
    · obtain ⟨n, -, rfl⟩ := List.mem_map.1 hl; rfl
    · obtain ⟨n, -, rfl⟩ := List.mem_map.1 hl
      simp only [cK, List.mem_singleton] at hd
      subst hd; rfl
    · have : j = 0 := by omega
      subst this
      rw [Nat.mul_one, Nat.add_zero]
      exact h4 i (by omega)
    · have : j = 0 := by omega
      subst this
      have hi2 : i < zs.length := by omega
      have e : ((List.map (cK k) (zs.take len)).getD i []).getD 0 .un = K k (zs.getD i 0) := by
        simp [List.getD_eq_getElem?_getD, hi, hi2, cK]
      rw [e]
      exact .v _

/-- a law of bytes alone -/
theorem walk_bytes {f : Nat} {w : World} {a : Option Addr} {len cap : Nat} {zs : List Int} (hF : Fn P f [R true 1 (cK .u8) (zs.take len)] [] [] (B true)) (h : IsRow' .u8 w a len cap zs) :
    Calls P f #[.slice a len cap] w fun e w' => e = .returned (.bool true) ∧ RowKit.Below w.heap.size w w' := by
  have := hF w (fun _ => none) (fun _ => undef') (fun b => b < w.heap.size) [.slice a len cap] rfl (fun j hj => ?_) (fun p hp => by cases hp) (fun p hp => by cases hp) (fun p hp => by cases hp) (fun b hb => hb)
  · refine calls_mono this fun e w' hh => ?_
    obtain ⟨x, bo', σ', he, hk, hr, -⟩ := hh
    have hx : x = .bool true := hr
    subst hx
    refine ⟨he, hk.os, hk.tape, hk.output, hk.size, fun k hlt => hk.block k hlt ?_⟩
    rintro ⟨p, hp, -⟩
    cases hp
  · have : j = 0 := by simp at hj; omega
    subst this
    exact rp_ints h

theorem u8_wf {n : Int} (h : (Lit.int .u8 n).wf = true) : 0 ≤ n ∧ n < 256 := by
  simp [Lit.wf] at h
  simp [IntKind.min, IntKind.max, IntKind.signed, IntKind.bits] at h
  omega
end Go.Eng
end
