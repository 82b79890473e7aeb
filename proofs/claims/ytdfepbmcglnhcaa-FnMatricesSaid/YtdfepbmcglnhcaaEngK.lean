import Derived.Test.YtdfepbmcglnhcaaEngJ
set_option linter.unusedSimpArgs false
set_option linter.unusedVariables false
/-! Soundness, 8: elements, lengths, values built. -/
namespace Go.Eng
open Go
variable {P : Program} {Φ : List It → St → Prop}

theorem elemT_spec {T e : Nat} (h : elemT P T = some e) : P.underlying T = some (.slice e) := by
  unfold elemT at h
  split at h
  · rename_i e' hu; cases h; exact hu
  · cases h

theorem index_ok {A : Amb} {o : Oper} {S : St} {kl : List Nat} {T : Nat} {x i : Operand} (ho : o.op = .indexAddr T x i) {d : DV} {os os' : List (Ora P Φ)} {R D}
    (h : ((opd x).bind fun d => (opd i).bind fun e => (intOfD e).bind fun n => indexE T i d n : RD P Φ DV).go S os = some (d, R, D, os')) (hs : ∀ d ∈ D, Sat P Φ d)
    (a : Act) (w : World) (bo : Nat → Option Nat) (σ : Nat → Value) (hR : Rel A S a.tmps w bo σ kl) :
    ∃ v, (execOp a.eval o).run P w = .ok (.value v) w ∧ RV (A.env S w bo σ) d v ∧ ∀ p ∈ refs d, p ∈ kl := by
  obtain ⟨dx, R1, D1, os1, R2, D2, h1, h2, rfl, rfl⟩ := go_bind _ _ h
  obtain ⟨di, R3, D3, os3, R4, D4, h3, h4, rfl, rfl⟩ := go_bind _ _ h2
  obtain ⟨n, R5, D5, os5, R6, D6, h5, h6, rfl, rfl⟩ := go_bind _ _ h4
  obtain ⟨k1, rfl, rfl, k2⟩ := opd_ok hR h1
  obtain ⟨k3, rfl, rfl, -⟩ := opd_ok hR h3
  obtain ⟨⟨kd, rfl⟩, rfl, rfl⟩ := intOfD_ok h5
  have hi : a.eval i = .int kd n := k3
  unfold indexE at h6
  split at h6
  · rename_i k off
    split at h6
    · split at h6
      · rename_i hn
        exact index_arr ho h6 a w bo σ hR k1 k2 hi hn rfl
      · exact (go_fail h6).elim
    · obtain ⟨q, os6, rfl, h7⟩ := go_peek h6
      split at h7
      · rename_i n' m hnm
        split at h7
        · rename_i hm
          obtain ⟨_, os7, D7, -, h8, rfl⟩ := go_req h7
          have : n = m := hs (.num n m) (by simp)
          subst this
          exact index_arr ho h8 a w bo σ hR k1 k2 hi hm rfl
        · exact (go_fail h7).elim
      · exact (go_fail h7).elim
  · rename_i k
    obtain ⟨x', R7, hx, h7, -⟩ := go_obj h6
    split at h7
    · rename_i fl T' esz n' L
      split at h7
      · rename_i hc
        simp only [Bool.and_eq_true, beq_iff_eq] at hc
        obtain ⟨q, os6, rfl, h8⟩ := go_peek h7
        obtain ⟨_, os7, D7, -, h9, rfl⟩ := go_req h8
        obtain ⟨rfl, -, -, -⟩ := go_ret h9
        have hib : 0 ≤ n ∧ n < (n' : Int) := hs (.ib n n') (by simp)
        obtain ⟨g1, g2, g3, g4, g5, vs, ⟨g6, hown⟩, g7⟩ := hR.ob k _ hx
        obtain ⟨hσ, A', n2, c2, hsl⟩ := k1
        rcases hown with ⟨-, h0⟩ | ⟨g, cap, cur, hv, hg0, hh, hnc, -, hcs2, htk⟩
        · omega
        · rw [hσ] at hv
          have hbo : bo k = some g := by
            have e : bo k = (σ k).ownBlock := g5
            have e2 : σ k = a.eval x := hσ
            rw [e, e2, hv]; rfl
          have hu := elemT_spec hc.1
          refine ⟨.pointer (some ⟨g, n.toNat * esz, none⟩), ?_, ⟨g, hbo, by simp⟩, fun p hp => k2 p ?_⟩
          · simp [execOp, ho, Instr.indexAt, under_run hu, hv, hi, asIntOf, hib, tsize_run hc.2, add_mk]
          · simpa [refs, refs1, refs0] using hp
      · exact (go_fail h7).elim
    · exact (go_fail h7).elim
  · rename_i fl esz n' L
    split at h6
    · rename_i T' hT
      split at h6
      · rename_i hsz
        have hsz : tsize P T' = some esz := by simpa using hsz
        obtain ⟨q, os6, rfl, h7⟩ := go_peek h6
        split at h7
        · rename_i i' L1 cs hel
          obtain ⟨_, os7, D7, -, h8, rfl⟩ := go_req h7
          obtain ⟨rfl, -, -, -⟩ := go_ret h8
          have hsat : 0 ≤ n ∧ L[n.toNat]? = some cs := hs (.el n L cs) (by simp)
          have hu := elemT_spec hT
          generalize hax : a.eval x = ax at k1
          have k1' : RP w (okS A S w bo) (.ro fl esz n' L) ax := k1
          cases k1' with
          | ro _ _ _ _ Ad c ad f hL hc hm hA he hf hr h1' hp =>
            have hlt : n.toNat < n' := by
              rw [← hL]
              rcases Nat.lt_or_ge n.toNat L.length with h | h
              · exact h
              · have := hsat.2; rw [List.getElem?_eq_none h] at this; cases this
            rcases hA with h0 | ⟨rfl, hok⟩
            · omega
            · have hcs : cs.length = esz := he cs (List.mem_of_getElem? hsat.2)
              have hLd : L.getD n.toNat [] = cs := by simp [List.getD_eq_getElem?_getD, hsat.2]
              refine ⟨.pointer (some (ad.add (n.toNat * esz))), ?_, ⟨ad.add (n.toNat * esz), by rw [add_block]; exact hok, by simp [Addr.add], fun j hj => ?_⟩, fun p hp => by simp [refs, refs1, refs0] at hp⟩
              · have hcond : 0 ≤ n ∧ n < (n' : Int) := by omega
                simp [execOp, ho, Instr.indexAt, under_run hu, hax, hi, asIntOf, hcond, tsize_run hsz]
              · have h9 := hp n.toNat j hlt (by omega)
                rw [hLd] at h9
                exact ⟨f n.toNat j, by rw [add_add]; exact hr n.toNat j hlt (by omega), h1' n.toNat j hlt (by omega), h9⟩
        · exact (go_fail h7).elim
      · exact (go_fail h6).elim
    · exact (go_fail h6).elim
  · exact (go_fail h6).elim

/-- a row, and the value that tells it -/
theorem rowOf_ok {A : Amb} {S : St} {tm : Array Value} {w : World} {bo : Nat → Option Nat} {σ : Nat → Value} {kl : List Nat} (hR : Rel A S tm w bo σ kl) {d : DV} {x : Value} (hx : RV (A.env S w bo σ) d x)
    {fl : Bool} {esz n : Nat} {L : List (List DV)} {os os' : List (Ora P Φ)} {R D} (h : (rowOf d : RD P Φ (Bool × Nat × Nat × List (List DV))).go S os = some ((fl, esz, n, L), R, D, os')) :
    D = [] ∧ os' = os ∧ L.length = n ∧ (∀ l ∈ L, l.length = esz) ∧ (fl = true → ∀ l ∈ L, ∀ d ∈ l, flatD d = true) ∧
      ∃ Ad c, x = .slice Ad n c ∧ (n = 0 ∨ ∃ (ad : Addr) (f : Nat → Nat → Value), Ad = some ad ∧ (∀ i j, i < n → j < esz → w.cell? (ad.add (i * esz + j)) = some (f i j) ∧ (f i j).oneCell' = true ∧ RP w (okS A S w bo) ((L.getD i []).getD j .un) (f i j))) := by
  unfold rowOf at h
  split at h
  · rename_i fl' esz' n' L'
    obtain ⟨he, -, rfl, rfl⟩ := go_ret h
    cases he
    have hx' : RP w (okS A S w bo) (.ro fl esz n L) x := hx
    cases hx' with
    | ro _ _ _ _ Ad c ad f hL hc hm hA he hf hr h1' hp =>
      refine ⟨rfl, rfl, hL, he, hf, Ad, c, rfl, ?_⟩
      rcases hA with h0 | ⟨rfl, hok⟩
      · exact .inl h0
      · exact .inr ⟨ad, f, rfl, fun i j hi hj => ⟨hr i j hi hj, h1' i j hi hj, hp i j hi hj⟩⟩
  · rename_i o
    obtain ⟨x', R7, hx', h7, -⟩ := go_obj h
    split at h7
    · rename_i fl' T' esz' n' L'
      obtain ⟨he, -, rfl, rfl⟩ := go_ret h7
      cases he
      obtain ⟨g1, g2, g3, g4, g5, vs, ⟨g6, hown⟩, g7⟩ := hR.ob o _ hx'
      obtain ⟨hσ, -⟩ := hx
      have hσ' : σ o = x := hσ
      rcases hown with ⟨hv, h0⟩ | ⟨g, cap, cur, hv, hg0, hh, hnc, -, hcs2, htk⟩
      · have hv' : σ o = .slice none 0 0 := hv
        refine ⟨rfl, rfl, g1, g3, g4, none, 0, ?_, .inl h0⟩
        rw [← hσ', hv', h0]
      · have hv' : σ o = .slice (some ⟨g, 0, none⟩) n cap := hv
        have hh' : w.heap[g]? = some (.cells cur T' (0, 0)) := hh
        refine ⟨rfl, rfl, g1, g3, g4, some ⟨g, 0, none⟩, cap, by rw [← hσ', hv'], .inr ⟨⟨g, 0, none⟩, fun i j => vs.getD (i * esz + j) undef', rfl, fun i j hi hj => ⟨?_, (g7 i j hi hj).2, (g7 i j hi hj).1⟩⟩⟩
        have hlt : i * esz + j < n * esz := by
          have : (i + 1) * esz ≤ n * esz := Nat.mul_le_mul_right esz (by omega)
          have : (i + 1) * esz = i * esz + esz := Nat.succ_mul i esz
          omega
        have hns : n * esz ≤ cap * esz := Nat.mul_le_mul_right esz hnc
        have e1 : vs.getD (i * esz + j) undef' = cur[i * esz + j]?.getD undef' := by
          rw [← htk]
          simp [List.getD_eq_getElem?_getD, List.getElem?_take, hlt]
        rw [add_mk, Nat.zero_add]
        show _ = some (vs.getD (i * esz + j) undef')
        rw [e1]
        have hsz : i * esz + j < cur.size := by omega
        simp [World.cell?, hh', hsz]
    · exact (go_fail h7).elim
  · exact (go_fail h).elim

theorem len_ok {A : Amb} {o : Oper} {S : St} {kl : List Nat} {c : Call} {x : Operand} {T : Nat} (ho : o.op = .call c) (hc : c.callee = .builtin .len) (hx : c.args.toList = [x]) (hT : c.argTypes.toList = [T]) {d : DV} {os os' : List (Ora P Φ)} {R D}
    (h : ((opd x).bind fun d => lenE T d : RD P Φ DV).go S os = some (d, R, D, os')) (a : Act) (w : World) (bo : Nat → Option Nat) (σ : Nat → Value) (hR : Rel A S a.tmps w bo σ kl) :
    ∃ v, (execOp a.eval o).run P w = .ok (.value v) w ∧ RV (A.env S w bo σ) d v ∧ ∀ p ∈ refs d, p ∈ kl := by
  obtain ⟨dx, R1, D1, os1, R2, D2, h1, h2, rfl, rfl⟩ := go_bind _ _ h
  obtain ⟨k1, rfl, rfl, k2⟩ := opd_ok hR h1
  have hargs : c.args = #[x] := by rw [← Array.toArray_toList (xs := c.args), hx]
  have hts : c.argTypes = #[T] := by rw [← Array.toArray_toList (xs := c.argTypes), hT]
  unfold lenE at h2
  split at h2
  · rename_i hu
    split at h2
    · rename_i s
      obtain ⟨rfl, -, -, -⟩ := go_ret h2
      have e : a.eval x = .string s := k1
      refine ⟨_, ?_, rfl, fun p hp => by simp [refs, refs1, refs0] at hp⟩
      simp [execOp, ho, hc, resolve, invoke, builtin, hargs, hts, Builtin.len_, e, under_run hu, goInt]
    · exact (go_fail h2).elim
  · rename_i e hu
    split at h2
    · obtain ⟨rfl, -, -, -⟩ := go_ret h2
      have e : a.eval x = .slice none 0 0 := k1
      refine ⟨_, ?_, rfl, fun p hp => by simp [refs, refs1, refs0] at hp⟩
      simp [execOp, ho, hc, resolve, invoke, builtin, hargs, hts, Builtin.len_, e, under_run hu, goInt]
    · obtain ⟨⟨fl, esz, n, L⟩, R3, D3, os3, R4, D4, h3, h4, rfl, rfl⟩ := go_bind _ _ h2
      obtain ⟨rfl, -, -, -⟩ := go_ret h4
      obtain ⟨-, -, -, -, -, Ad, cc, e, -⟩ := rowOf_ok hR k1 h3
      refine ⟨_, ?_, rfl, fun p hp => by simp [refs, refs1, refs0] at hp⟩
      simp [execOp, ho, hc, resolve, invoke, builtin, hargs, hts, Builtin.len_, e, under_run hu, goInt]
  · exact (go_fail h2).elim

/-! values built -/
theorem fold_set (l : List Value) : ∀ (off : Nat) (cs : Array Value) (k : Nat), ((l.zipIdx k).foldl (fun cs (p : Value × Nat) => cs.setIfInBounds (off + p.2) p.1) cs).toList.length = cs.size ∧
    ∀ j, ((l.zipIdx k).foldl (fun cs (p : Value × Nat) => cs.setIfInBounds (off + p.2) p.1) cs).toList.getD j undef' = if off + k ≤ j ∧ j < off + k + l.length ∧ j < cs.size then l.getD (j - (off + k)) undef' else cs.toList.getD j undef' := by
  induction l with
  | nil =>
    intro off cs k
    refine ⟨by simp, fun j => ?_⟩
    have : ¬ (off + k ≤ j ∧ j < off + k + ([] : List Value).length ∧ j < cs.size) := by simp; omega
    rw [if_neg this]; rfl
  | cons v l ih =>
    intro off cs k
    simp only [List.zipIdx_cons, List.foldl_cons]
    obtain ⟨h1, h2⟩ := ih off (cs.setIfInBounds (off + k) v) (k + 1)
    refine ⟨by rw [h1]; simp, fun j => ?_⟩
    rw [h2]
    simp only [Array.size_setIfInBounds, List.length_cons]
    by_cases hj : j = off + k
    · subst hj
      have h3 : ¬ (off + (k + 1) ≤ off + k ∧ off + k < off + (k + 1) + l.length ∧ off + k < cs.size) := by omega
      rw [if_neg h3]
      by_cases h4 : off + k < cs.size
      · have h5 : off + k ≤ off + k ∧ off + k < off + k + (l.length + 1) ∧ off + k < cs.size := by omega
        rw [if_pos h5]
        simp [List.getD_eq_getElem?_getD, Array.getElem?_setIfInBounds, h4]
      · have h5 : ¬ (off + k ≤ off + k ∧ off + k < off + k + (l.length + 1) ∧ off + k < cs.size) := by omega
        rw [if_neg h5]
        simp [List.getD_eq_getElem?_getD, Array.getElem?_setIfInBounds, h4]
    · have e1 : (cs.setIfInBounds (off + k) v).toList.getD j undef' = cs.toList.getD j undef' := by
        have : ¬ off + k = j := fun e => hj e.symm
        simp [List.getD_eq_getElem?_getD, Array.getElem?_setIfInBounds, this]
      rw [e1]
      by_cases h4 : off + (k + 1) ≤ j ∧ j < off + (k + 1) + l.length ∧ j < cs.size
      · have h5 : off + k ≤ j ∧ j < off + k + (l.length + 1) ∧ j < cs.size := by omega
        rw [if_pos h4, if_pos h5]
        have : j - (off + k) = (j - (off + (k + 1))) + 1 := by omega
        rw [this]; simp
      · have h5 : ¬ (off + k ≤ j ∧ j < off + k + (l.length + 1) ∧ j < cs.size) := by omega
        rw [if_neg h4, if_neg h5]

/-- cells of abstract values and of values go together -/
def CellsRel (E : Env) (cs : List DV) (vs : Array Value) : Prop :=
  vs.size = cs.length ∧ ∀ j, j < cs.length → RV0 E (cs.getD j .un) (vs.toList.getD j undef') ∧ (vs.toList.getD j undef').oneCell' = true

theorem fill_ok {E : Env} {T : Nat} {pl : Nat → Option (Nat × Nat)} (hpl : ∀ i p, place P T i = some p → pl i = some p) : ∀ {ps : List (Nat × DV)} {cs cs' : List DV} {vs : List Value} {xs : Array Value},
    buildC P T ps cs = some cs' → vs.length = ps.length → (∀ j, j < ps.length → RV E (ps.getD j default).2 (vs.getD j undef') ∧ (cellsOf (ps.getD j default).2).all oneD = true) → CellsRel E cs xs →
    ∃ xs', Instr.fill pl xs ((ps.map (·.1)).zip vs) = some xs' ∧ CellsRel E cs' xs'
  | [], cs, cs', vs, xs, h, _, _, hc => by
    simp only [buildC] at h; cases h
    exact ⟨xs, by simp [Instr.fill], hc⟩
  | (i, d) :: ps, cs, cs', vs, xs, h, hl, hv, hc => by
    cases vs with
    | nil => simp at hl
    | cons v vs =>
      simp only [buildC] at h
      split at h
      · rename_i off s hp
        split at h
        · rename_i hcond
          simp only [Bool.and_eq_true, beq_iff_eq, decide_eq_true_eq] at hcond
          obtain ⟨h1, h2⟩ := hv 0 (by simp)
          have h1' : RV E d v := by simpa using h1
          have h2' : (cellsOf d).all oneD = true := by simpa using h2
          obtain ⟨c1, c2⟩ := cells_rel h1' h2'
          have hsz : v.cells.size = s := by rw [← hcond.1, ← c1]; simp
          obtain ⟨f1, f2⟩ := fold_set v.cells.toList off xs 0
          have hnew : CellsRel E (setRange cs off (cellsOf d)) (v.cells.zipIdx.foldl (fun cs (p : Value × Nat) => cs.setIfInBounds (off + p.2) p.1) xs) := by
            have e : v.cells.zipIdx.foldl (fun cs (p : Value × Nat) => cs.setIfInBounds (off + p.2) p.1) xs = (v.cells.toList.zipIdx 0).foldl (fun cs (p : Value × Nat) => cs.setIfInBounds (off + p.2) p.1) xs := by
              rw [← Array.foldl_toList]; simp
            rw [e]
            refine ⟨by rw [← Array.length_toList, f1, setRange_len]; exact hc.1, fun j hj => ?_⟩
            rw [setRange_len] at hj
            rw [f2, setRange_get _ _ _ _ (by omega)]
            have hcv : v.cells.toList.length = (cellsOf d).length := c1
            by_cases hin : off ≤ j ∧ j < off + (cellsOf d).length
            · have h5 : off + 0 ≤ j ∧ j < off + 0 + v.cells.toList.length ∧ j < xs.size := by rw [hcv, hc.1]; omega
              rw [if_pos hin, if_pos h5]
              exact c2 (j - off) (by omega)
            · have h5 : ¬ (off + 0 ≤ j ∧ j < off + 0 + v.cells.toList.length ∧ j < xs.size) := by rw [hcv]; omega
              rw [if_neg hin, if_neg h5]
              exact hc.2 j hj
          obtain ⟨xs', r1, r2⟩ := fill_ok hpl h (by simpa using hl) (fun j hj => by simpa using hv (j + 1) (by simpa using hj)) hnew
          refine ⟨xs', ?_, r2⟩
          simp only [List.map_cons, List.zip_cons_cons, Instr.fill, hpl i _ hp]
          have hno : ¬ (v.cells.size ≠ s || decide (off + v.cells.size > xs.size)) = true := by
            rw [hsz, hc.1]; simp; omega
          rw [if_neg (by simpa using hno)]
          exact r1
        · cases h
      · cases h

end Go.Eng
