import Derived.Test.YtdfepbmcglnhcaaEngK
import Derived.Laws.Tables
set_option linter.unusedSimpArgs false
set_option linter.unusedVariables false
/-! Soundness, 9: values built, slices built and appended to. -/
namespace Go.Eng
open Go
variable {P : Program} {Φ : List It → St → Prop}

theorem mapM_get {fs : List Field} : ∀ {places : List (Nat × Nat)}, fs.mapM (fun f => (P.info? f.type).map fun i => (f.offset, i.size)) = some places → ∀ (j : Nat) (fd : Field) (s : Nat), fs[j]? = some fd → tsize P fd.type = some s → places[j]? = some (fd.offset, s) := by
  induction fs with
  | nil => intro places h j fd s hj; simp at hj
  | cons f fs ih =>
    intro places h j fd s hj hs
    simp only [List.mapM_cons, Option.bind_eq_bind, Option.pure_def] at h
    cases hi : P.info? f.type with
    | none => simp [hi] at h
    | some i =>
      cases hr : fs.mapM (fun f => (P.info? f.type).map fun i => (f.offset, i.size)) with
      | none => simp [hi, hr] at h
      | some rest =>
        simp [hi, hr] at h
        subst h
        cases j with
        | zero =>
          simp at hj; subst hj
          simp [tsize, hi] at hs
          simp [hs]
        | succ j => simpa using ih hr j fd s (by simpa using hj) hs

theorem mapM_some {fs : List Field} (h : fs.all (fun f => (P.info? f.type).isSome) = true) : ∃ places, fs.mapM (fun f => (P.info? f.type).map fun i => (f.offset, i.size)) = some places := by
  induction fs with
  | nil => exact ⟨[], rfl⟩
  | cons f fs ih =>
    simp only [List.all_cons, Bool.and_eq_true] at h
    obtain ⟨rest, hr⟩ := ih h.2
    obtain ⟨i, hi⟩ := Option.isSome_iff_exists.1 h.1
    exact ⟨(f.offset, i.size) :: rest, by simp [List.mapM_cons, hi, hr]⟩

theorem tzero_spec {T : Nat} {z : Value} (h : tzero P T = some z) : ∃ it, P.info? T = some it ∧ it.zero = some z := by
  unfold tzero at h
  split at h
  · rename_i i hi; exact ⟨i, hi, h⟩
  · cases h

theorem cellsRel_ofV (E : Env) {z : Value} (hok : okV z = true) : CellsRel E (cellsOf (ofV z)) z.cells := by
  obtain ⟨h1, h2⟩ := cells_rel (rv_ofV E z hok) (ofV_one hok)
  exact ⟨by rw [← h1]; simp, h2⟩

theorem build_ok {A : Amb} {o : Oper} {S : St} {kl : List Nat} {T : Nat} {ps : Array (Nat × Operand)} (ho : o.op = .build T ps) {d : DV} {os os' : List (Ora P Φ)} {R D}
    (h : ((opds (ps.toList.map (·.2))).bind fun ds => match tzero P T with
      | some z => if !okV z || !ds.all (fun d => (cellsOf d).all oneD) || !fieldsOk P T then .fail else (ofO (buildC P T ((ps.toList.map (·.1)).zip ds) (cellsOf (ofV z)))).bind fun cs => .ret (.ag cs)
      | none => .fail : RD P Φ DV).go S os = some (d, R, D, os')) (a : Act) (w : World) (bo : Nat → Option Nat) (σ : Nat → Value) (hR : Rel A S a.tmps w bo σ kl) :
    ∃ v, (execOp a.eval o).run P w = .ok (.value v) w ∧ RV (A.env S w bo σ) d v ∧ ∀ p ∈ refs d, p ∈ kl := by
  obtain ⟨ds, R1, D1, os1, R2, D2, h1, h2, rfl, rfl⟩ := go_bind _ _ h
  obtain ⟨k0, rfl, rfl, k1, k2⟩ := opds_ok hR h1
  split at h2
  · rename_i z hz
    by_cases hc : (!okV z || !ds.all (fun d => (cellsOf d).all oneD) || !fieldsOk P T) = true
    · rw [if_pos hc] at h2; exact (go_fail h2).elim
    · rw [if_neg hc] at h2
      simp only [Bool.or_eq_true, Bool.not_eq_true', not_or, Bool.not_eq_false] at hc
      obtain ⟨⟨hok, hone⟩, hfo⟩ := hc
      obtain ⟨cs, R3, D3, os3, R4, D4, h3, h4, rfl, rfl⟩ := go_bind _ _ h2
      obtain ⟨hb, -⟩ := go_ofO h3
      obtain ⟨rfl, -, -, -⟩ := go_ret h4
      obtain ⟨it, hit, hzz⟩ := tzero_spec hz
      have hone' : ∀ e ∈ ds, (cellsOf e).all oneD = true := by simpa [List.all_eq_true] using hone
      have hlen : ds.length = (ps.toList.map (·.1)).length := by rw [k0]; simp
      have hzipl : ((ps.toList.map (·.1)).zip ds).length = ds.length := by simp [List.length_zip, hlen]
      -- the machine's parts
      have hparts : (ps.map fun (i, x) => (i, a.eval x)).toList = (((ps.toList.map (·.1)).zip ds).map (·.1)).zip (ps.toList.map (fun p => a.eval p.2)) := by
        have e1 : ((ps.toList.map (·.1)).zip ds).map (·.1) = ps.toList.map (·.1) := by
          rw [List.map_fst_zip]; omega
        rw [e1]
        simp [List.zip_map', Array.toList_map]
      have hfill : ∀ pl : Nat → Option (Nat × Nat), (∀ i p, place P T i = some p → pl i = some p) → ∃ xs', Instr.fill pl z.cells ((ps.map fun (i, x) => (i, a.eval x)).toList) = some xs' ∧ CellsRel (A.env S w bo σ) cs xs' := by
        intro pl hpl
        rw [hparts]
        refine fill_ok hpl hb (by rw [hzipl, k0]; simp) (fun j hj => ?_) (cellsRel_ofV _ hok)
        rw [hzipl] at hj
        have e1 : (((ps.toList.map (·.1)).zip ds).getD j default).2 = ds.getD j .un := by
          have h1 : j < ds.length := hj
          have h2 : j < (ps.toList.map (·.1)).length := by omega
          have h3 : j < ((ps.toList.map (·.1)).zip ds).length := by omega
          simp only [List.getD_eq_getElem?_getD, List.getElem?_eq_getElem h3, List.getElem?_eq_getElem h1, Option.getD_some, List.getElem_zip]
        rw [e1]
        refine ⟨?_, hone' _ (getD_mem ds j _ hj)⟩
        have := k1 j (by rw [← k0]; exact hj)
        simpa [List.map_map, Function.comp_def] using this
      have hbuilt : ∃ xs', P.built T ((ps.map fun (i, x) => (i, a.eval x)).toList) = some xs' ∧ CellsRel (A.env S w bo σ) cs xs' := by
        unfold fieldsOk at hfo
        split at hfo
        · rename_i fs hu
          obtain ⟨places, hp⟩ := mapM_some hfo
          obtain ⟨xs', h1, h2⟩ := hfill (places.toArray[·]?) (fun i p hpl => by
            obtain ⟨off, s⟩ := p
            obtain ⟨fd, hfd, rfl, hs⟩ := place_struct hu hpl
            have := mapM_get hp i fd s (by simpa using hfd) hs
            simpa using this)
          exact ⟨xs', by unfold Program.built; simp only [hit, hu, hzz, hp]; exact h1, h2⟩
        · rename_i n e hu
          obtain ⟨ie, hie⟩ := Option.isSome_iff_exists.1 hfo
          obtain ⟨xs', h1, h2⟩ := hfill (fun i => some (i * ie.size, ie.size)) (fun i p hpl => by
            obtain ⟨off, s⟩ := p
            obtain ⟨-, rfl, hs⟩ := place_array hu hpl
            simp [tsize, hie] at hs
            simp [hs])
          exact ⟨xs', by unfold Program.built; simp only [hit, hu, hzz, hie]; exact h1, h2⟩
        · cases hfo
      obtain ⟨xs', hb1, hb2⟩ := hbuilt
      refine ⟨.agg xs', ?_, ⟨xs'.toList, by simp, by simpa using hb2.1, hb2.2⟩, fun p hp => ?_⟩
      · have := run_build (P := P) w T _ xs' hb1
        simp [execOp, ho, this]
      · simp only [refs, refs1, List.mem_flatMap] at hp
        obtain ⟨e, he, hp⟩ := hp
        -- cells come out of the parts or of the zero value
        have key : ∀ (qs : List (Nat × DV)) (c0 c1 : List DV), buildC P T qs c0 = some c1 → ∀ e ∈ c1, e ∈ c0 ∨ ∃ q ∈ qs, e ∈ cellsOf q.2 := by
          intro qs
          induction qs with
          | nil => intro c0 c1 h e he; simp only [buildC] at h; cases h; exact .inl he
          | cons q qs ih =>
            intro c0 c1 h e he
            obtain ⟨i, dq⟩ := q
            simp only [buildC] at h
            split at h
            · split at h
              · rename_i off s _ hcond
                simp only [Bool.and_eq_true, beq_iff_eq, decide_eq_true_eq] at hcond
                rcases ih _ _ h e he with h1 | ⟨q, hq, h1⟩
                · obtain ⟨j, hj, rfl⟩ := List.getElem_of_mem h1
                  have e1 : (setRange c0 off (cellsOf dq))[j] = (setRange c0 off (cellsOf dq)).getD j .un := by simp [List.getD_eq_getElem?_getD, hj]
                  have hj' : j < c0.length := by rw [setRange_len] at hj; exact hj
                  rw [e1, setRange_get _ _ _ _ (by omega)]
                  split
                  · exact .inr ⟨(i, dq), by simp, getD_mem (cellsOf dq) _ _ (by omega)⟩
                  · exact .inl (getD_mem _ _ _ hj')
                · exact .inr ⟨q, by simp [hq], h1⟩
              · cases h
            · cases h
        rcases key _ _ _ hb e he with h1 | ⟨q, hq, h1⟩
        · have : refs0 e = [] := by
            have h5 := refs_ofV z
            cases hzv : ofV z with
            | ag cs0 =>
              rw [hzv] at h1 h5
              simp only [refs, refs1, List.flatMap_eq_nil_iff] at h5
              exact h5 e h1
            | _ =>
              rw [hzv] at h1 h5
              simp only [cellsOf, List.mem_singleton] at h1
              subst h1; first | exact h5 | rfl
          rw [this] at hp; cases hp
        · have hqd : q.2 ∈ ds := (List.of_mem_zip hq).2
          refine k2 q.2 hqd p ?_
          cases hq2 : q.2 with
          | ag cs0 =>
            rw [hq2] at h1
            simp only [refs, refs1, List.mem_flatMap]
            exact ⟨e, h1, hp⟩
          | tu vs =>
            rw [hq2] at h1
            simp only [cellsOf, List.mem_singleton] at h1
            subst h1; simp [refs0] at hp
          | _ =>
            rw [hq2] at h1
            simp only [cellsOf, List.mem_singleton] at h1
            subst h1; exact hp
  · exact (go_fail h2).elim

end Go.Eng
