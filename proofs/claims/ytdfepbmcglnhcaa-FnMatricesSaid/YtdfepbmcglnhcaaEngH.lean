import Derived.Test.YtdfepbmcglnhcaaEngGa
/-! Soundness, 5: memory. -/
set_option linter.unusedSimpArgs false
set_option linter.unusedVariables false
namespace Go.Eng
open Go
variable {P : Program} {Φ : List It → St → Prop}

theorem go_obj {α : Type} {S : St} {o : Nat} {k : Ob → RD P Φ α} {b : α} {os os' : List (Ora P Φ)} {R D} (h : (RD.obj o k).go S os = some (b, R, D, os')) :
    ∃ x R1, S.obj o = some x ∧ (k x).go S os = some (b, R1, D, os') ∧ R = .ob o :: R1 := by
  simp only [RD.go] at h
  split at h
  · rename_i x hx
    split at h
    · rename_i a R1 D1 os1 h1
      cases h
      exact ⟨x, R1, hx, h1, rfl⟩
    · cases h
  · cases h

theorem go_peek {α : Type} {S : St} {k : Ora P Φ → RD P Φ α} {b : α} {os os' : List (Ora P Φ)} {R D} (h : (RD.peek k).go S os = some (b, R, D, os')) :
    ∃ q os1, os = q :: os1 ∧ (k q).go S os = some (b, R, D, os') := by
  cases os with
  | nil => simp [RD.go] at h
  | cons q os1 => exact ⟨q, os1, rfl, h⟩

theorem go_req {α : Type} {S : St} {d : Ask} {k : RD P Φ α} {b : α} {os os' : List (Ora P Φ)} {R D} (h : (RD.req d k).go S os = some (b, R, D, os')) :
    ∃ q os1 D1, os = q :: os1 ∧ k.go S os1 = some (b, R, D1, os') ∧ D = d :: D1 := by
  cases os with
  | nil => simp [RD.go] at h
  | cons q os1 =>
    simp only [RD.go] at h
    split at h
    · rename_i a R1 D1 os2 h1
      cases h
      exact ⟨q, os1, D1, rfl, h1, rfl⟩
    · cases h

theorem cell_of_heap {w : World} {b T : Nat} {vs : List Value} (h : w.heap[b]? = some (.cells vs.toArray T (0, 0))) (j : Nat) (hj : j < vs.length) :
    w.cell? ⟨b, j, none⟩ = some (vs.getD j undef') := by
  simp [World.cell?, h, List.getD_eq_getElem?_getD, hj]

theorem rv0_rp {E : Env} {d : DV} {x : Value} (h : RP E.w E.ok d x) : RV0 E d x := by
  cases h with
  | v x => rfl
  | lb b => rfl
  | nl => rfl
  | ro fl esz n L A c ad f hL hc hm hA he hf hr h1 hp => exact .ro fl esz n L A c ad f hL hc hm hA he hf hr h1 hp

theorem load_ok {A : Amb} {o : Oper} {S : St} {kl : List Nat} {x : Operand} {T : Nat} (ho : o.op = .load T x) {d : DV} {os os' : List (Ora P Φ)} {R D}
    (h : ((opd x).bind fun p => loadE T p : RD P Φ DV).go S os = some (d, R, D, os')) (hs : ∀ d ∈ D, Sat P Φ d) (a : Act) (w : World) (bo : Nat → Option Nat) (σ : Nat → Value) (hR : Rel A S a.tmps w bo σ kl) :
    ∃ v, (execOp a.eval o).run P w = .ok (.value v) w ∧ RV (A.env S w bo σ) d v ∧ ∀ p ∈ refs d, p ∈ kl := by
  obtain ⟨p, R1, D1, os1, R2, D2, h1, h2, rfl, rfl⟩ := go_bind _ _ h
  obtain ⟨k1, -, rfl, k2⟩ := opd_ok hR h1
  have hexec : ∀ (ad : Addr) (v : Value), a.eval x = .pointer (some ad) → (loadVar T ad).run P w = .ok v w → (execOp a.eval o).run P w = .ok (.value v) w := by
    intro ad v he hl
    simp [execOp, ho, he, Instr.loadAt, Instr.sureAddr, hl]
  unfold loadE at h2
  split at h2
  · rename_i k off
    obtain ⟨x', R3, hx, h3, -⟩ := go_obj h2
    split at h3
    · rename_i cs
      obtain ⟨hp, -⟩ := go_ofO h3
      obtain ⟨b, T', vs, g1, g2, g3, g4⟩ := hR.ob k _ hx
      obtain ⟨b', g5, g6⟩ := k1
      have hb : b' = b := Option.some.inj (g5.symm.trans g1)
      subst hb
      obtain ⟨v, r1, r2, r3⟩ := run_pick (P := P) (E := A.env S w bo σ) hp ⟨b', 0, none⟩ (fun j => vs.getD j undef') (fun j hj => by
        rw [add_mk, Nat.zero_add]
        exact ⟨cell_of_heap g2 j (by omega), (g4 j hj).1, (g4 j hj).2⟩)
      rw [add_mk, Nat.zero_add] at r1
      refine ⟨v, hexec _ v g6 r1, r2, fun q hq => ?_⟩
      obtain ⟨e, he, hqe⟩ := r3 q hq
      exact (hR.orf k _ hx).2 q (by simp only [orefs, List.mem_flatMap]; exact ⟨e, he, hqe⟩)
    · exact (go_fail h3).elim
  · rename_i cs off
    obtain ⟨hp, -⟩ := go_ofO h2
    obtain ⟨a0, g1, g2, g3⟩ := k1
    obtain ⟨v, r1, r2, r3⟩ := run_pick (P := P) (E := A.env S w bo σ) hp a0 (fun j => (w.cell? (a0.add j)).getD undef') (fun j hj => by
      obtain ⟨y, q1, q2, q3⟩ := g3 j hj
      have q1' : w.cell? (a0.add j) = some y := q1
      refine ⟨?_, ?_, ?_⟩
      · show w.cell? (a0.add j) = _
        rw [q1']; rfl
      · rw [q1']; exact rv0_rp q3
      · rw [q1']; exact q2)
    refine ⟨v, hexec _ v g2 r1, r2, fun q hq => ?_⟩
    obtain ⟨e, he, hqe⟩ := r3 q hq
    exfalso
    obtain ⟨j, hj, rfl⟩ := List.getElem_of_mem he
    obtain ⟨y, -, -, q3⟩ := g3 j hj
    have : cs.getD j .un = cs[j] := by simp [List.getD_eq_getElem?_getD, hj]
    rw [this] at q3
    generalize cs[j] = c at q3 hqe
    cases q3 <;> simp [refs0] at hqe
  · rename_i k i esz off
    obtain ⟨x', R3, hx, h3, -⟩ := go_obj h2
    split at h3
    · rename_i fl T' s n L
      split at h3
      · rename_i hse
        have hse : s = esz := by simpa using hse
        subst hse
        obtain ⟨q, os4, rfl, h4⟩ := go_peek h3
        split at h4
        · rename_i i' L' cs hel
          obtain ⟨_, os5, D5, -, h5, rfl⟩ := go_req h4
          obtain ⟨hp, -⟩ := go_ofO h5
          have hsat : 0 ≤ (i : Int) ∧ L[(i : Int).toNat]? = some cs := hs (.el i L cs) (by simp)
          have hLi : L[i]? = some cs := by simpa using hsat.2
          obtain ⟨g1, g2, g3, g4, g5, vs, g6, g7⟩ := hR.ob k _ hx
          obtain ⟨b, q1, q2⟩ := k1
          have hin : i < n := by
            rw [← g1]
            rcases Nat.lt_or_ge i L.length with h | h
            · exact h
            · rw [List.getElem?_eq_none h] at hLi; cases hLi
          obtain ⟨hvl, hown⟩ := g6
          have hcs : cs.length = s := g3 cs (List.mem_of_getElem? hLi)
          have hLd : L.getD i [] = cs := by simp [List.getD_eq_getElem?_getD, hLi]
          have hbo : bo k = some b := q1
          rcases hown with ⟨-, h0⟩ | ⟨g, cap, cur, hv, -, hh, hnc, -, hcs2, htk⟩
          · omega
          · have hbg : b = g := by
              have e : bo k = (σ k).ownBlock := g5
              have hv' : σ k = .slice (some ⟨g, 0, none⟩) n cap := hv
              rw [hv', hbo] at e
              simpa [Value.ownBlock] using e
            subst hbg
            have hcell : ∀ j, j < s → w.cell? ⟨b, i * s + j, none⟩ = some (vs.getD (i * s + j) undef') := by
              intro j hj
              have hlt : i * s + j < n * s := by
                have : (i + 1) * s ≤ n * s := Nat.mul_le_mul_right s (by omega)
                have : (i + 1) * s = i * s + s := Nat.succ_mul i s
                omega
              have hh' : w.heap[b]? = some (.cells cur T' (0, 0)) := hh
              have : vs.getD (i * s + j) undef' = cur[i * s + j]?.getD undef' := by
                rw [← htk]
                simp [List.getD_eq_getElem?_getD, hlt]
              rw [this]
              have hsz : i * s + j < cur.size := by
                have : n * s ≤ cap * s := Nat.mul_le_mul_right s hnc
                omega
              simp [World.cell?, hh', hsz]
            obtain ⟨v, r1, r2, r3⟩ := run_pick (P := P) (E := A.env S w bo σ) hp ⟨b, i * s, none⟩ (fun j => vs.getD (i * s + j) undef') (fun j hj => by
              rw [add_mk]
              have h7 := g7 i j hin (by omega)
              rw [hLd] at h7
              exact ⟨hcell j (by omega), rv0_rp h7.1, h7.2⟩)
            rw [add_mk] at r1
            refine ⟨v, hexec _ v q2 r1, r2, fun q hq => ?_⟩
            obtain ⟨e, he, hqe⟩ := r3 q hq
            exfalso
            obtain ⟨j, hj, rfl⟩ := List.getElem_of_mem he
            have h7 := (g7 i j hin (by omega)).1
            rw [hLd] at h7
            have : cs.getD j .un = cs[j] := by simp [List.getD_eq_getElem?_getD, hj]
            rw [this] at h7
            generalize cs[j] = c at h7 hqe
            generalize vs.getD (i * s + j) undef' = y at h7
            cases h7 <;> simp [refs0] at hqe
        · exact (go_fail h4).elim
      · exact (go_fail h3).elim
    · exact (go_fail h3).elim
  · exact (go_fail h2).elim


/-! stores -/
theorem run_stores (b o T : Nat) : ∀ (l : List Value) (i : Nat) (vs : List Value) (w : World), w.heap[b]? = some (.cells vs.toArray T (0, 0)) → o + i + l.length ≤ vs.length → (∀ v ∈ l, v.oneCell' = true) →
    ∃ w', (storeCells ⟨b, o, none⟩ l i).run P w = .ok () w' ∧ Keep w w' (fun k => k = b) ∧ w'.heap.size = w.heap.size ∧
      ∃ vs' : List Value, w'.heap[b]? = some (.cells vs'.toArray T (0, 0)) ∧ vs'.length = vs.length ∧ ∀ j, vs'.getD j undef' = if o + i ≤ j ∧ j < o + i + l.length then l.getD (j - (o + i)) undef' else vs.getD j undef'
  | [], i, vs, w, hh, _, _ => ⟨w, by simp [storeCells], Keep.refl _ _, rfl, vs, hh, rfl, fun j => by
      have : ¬ (o + i ≤ j ∧ j < o + i + ([] : List Value).length) := by simp
      rw [if_neg this]⟩
  | v :: l, i, vs, w, hh, hl, h1 => by
    simp only [List.length_cons] at hl
    have hc : w.cell? ⟨b, o + i, none⟩ = some (vs.getD (o + i) undef') := cell_of_heap hh _ (by omega)
    have hf : w.frozen? ⟨b, o + i, none⟩ = false := by simp [World.frozen?, hh]
    have hv := h1 v (by simp)
    have hst : (store (⟨b, o + i, none⟩ : Addr) v).run P w = .ok () (w.setCell ⟨b, o + i, none⟩ v) := by
      rw [run_store P w _ v .plain hv]
      simp [hc, hf]
    have hblk : ∀ k, (w.setCell ⟨b, o + i, none⟩ v).heap[k]? = if k = b then some (.cells (vs.set (o + i) v).toArray T (0, 0)) else w.heap[k]? := by
      intro k
      simp only [World.setCell, Array.getElem?_modify]
      by_cases hk : b = k
      · subst hk; simp [hh]
      · have : ¬ k = b := fun e => hk e.symm
        simp [hk, this]
    obtain ⟨w', r1, r2, r3, vs', r4, r5, r6⟩ := run_stores b o T l (i + 1) (vs.set (o + i) v) (w.setCell ⟨b, o + i, none⟩ v) (by rw [hblk, if_pos rfl]) (by simp; omega) (fun u hu => h1 u (by simp [hu]))
    refine ⟨w', ?_, ?_, ?_, vs', r4, by simpa using r5, fun j => ?_⟩
    · simp only [storeCells, Sem.run_bind, add_mk, hst, Result.andThen_ok]
      exact r1
    · have hk : Keep w (w.setCell ⟨b, o + i, none⟩ v) (fun k => k = b) := ⟨rfl, rfl, rfl, by simp [World.setCell], fun k _ hk => by rw [hblk, if_neg hk]⟩
      exact hk.trans r2 fun _ _ h => h
    · rw [r3]; simp [World.setCell]
    · rw [r6]
      simp only [List.getD_eq_getElem?_getD, List.getElem?_set, List.length_cons]
      by_cases hj : j = o + i
      · subst hj
        have h2 : ¬ (o + (i + 1) ≤ o + i ∧ o + i < o + (i + 1) + l.length) := by omega
        have h3 : o + i ≤ o + i ∧ o + i < o + i + (l.length + 1) := by omega
        rw [if_neg h2, if_pos h3]
        have h4 : o + i < vs.length := by omega
        simp [h4]
      · by_cases hj2 : o + (i + 1) ≤ j ∧ j < o + (i + 1) + l.length
        · have h3 : o + i ≤ j ∧ j < o + i + (l.length + 1) := by omega
          rw [if_pos hj2, if_pos h3]
          have : j - (o + i) = (j - (o + (i + 1))) + 1 := by omega
          rw [this]; simp
        · have h3 : ¬ (o + i ≤ j ∧ j < o + i + (l.length + 1)) := by omega
          rw [if_neg hj2, if_neg h3]
          have : ¬ o + i = j := fun e => hj e.symm
          simp [this]

theorem setRange_len : ∀ (cs : List DV) (off : Nat) (l : List DV), (setRange cs off l).length = cs.length
  | _, _, [] => rfl
  | cs, off, d :: l => by simp only [setRange]; rw [setRange_len]; simp

theorem setRange_get : ∀ (cs : List DV) (off : Nat) (l : List DV) (j : Nat), off + l.length ≤ cs.length → (setRange cs off l).getD j .un = if off ≤ j ∧ j < off + l.length then l.getD (j - off) .un else cs.getD j .un
  | cs, off, [], j, _ => by
    have : ¬ (off ≤ j ∧ j < off + ([] : List DV).length) := by simp
    rw [if_neg this]; rfl
  | cs, off, d :: l, j, h => by
    simp only [List.length_cons] at h
    simp only [setRange]
    rw [setRange_get (cs.set off d) (off + 1) l j (by simp; omega)]
    simp only [List.length_cons]
    by_cases hj : j = off
    · subst hj
      have h2 : ¬ (j + 1 ≤ j ∧ j < j + 1 + l.length) := by omega
      have h3 : j ≤ j ∧ j < j + (l.length + 1) := by omega
      rw [if_neg h2, if_pos h3]
      have : j < cs.length := by omega
      simp [List.getD_eq_getElem?_getD, this]
    · by_cases hj2 : off + 1 ≤ j ∧ j < off + 1 + l.length
      · have h3 : off ≤ j ∧ j < off + (l.length + 1) := by omega
        rw [if_pos hj2, if_pos h3]
        have : j - off = (j - (off + 1)) + 1 := by omega
        rw [this]; simp
      · have h3 : ¬ (off ≤ j ∧ j < off + (l.length + 1)) := by omega
        rw [if_neg hj2, if_neg h3]
        have : ¬ off = j := fun e => hj e.symm
        simp [List.getD_eq_getElem?_getD, this]

/-- the cells of a value and of what it is told as -/
theorem cells_rel {E : Env} {d : DV} {x : Value} (h : RV E d x) (hone : (cellsOf d).all oneD = true) : x.cells.toList.length = (cellsOf d).length ∧
    ∀ j, j < (cellsOf d).length → RV0 E ((cellsOf d).getD j .un) (x.cells.toList.getD j undef') ∧ (x.cells.toList.getD j undef').oneCell' = true := by
  cases d with
  | ag cs =>
    obtain ⟨vs, rfl, h2, h3⟩ := h
    simp only [cellsOf, Value.cells]
    exact ⟨h2, h3⟩
  | tu vs => simp [cellsOf, oneD] at hone
  | un => simp [cellsOf, oneD] at hone
  | v y =>
    simp only [RV, RV1, RV0] at h
    subst h
    simp only [cellsOf, List.all_cons, oneD, List.all_nil, Bool.and_true] at hone
    have hc : x.cells = #[x] := by cases x <;> first | rfl | simp [Value.oneCell'] at hone
    rw [hc]
    refine ⟨rfl, fun j hj => ?_⟩
    simp [cellsOf] at hj; subst hj
    exact ⟨rfl, hone⟩
  | lb b =>
    simp only [RV, RV1, RV0] at h
    subst h
    refine ⟨rfl, fun j hj => ?_⟩
    simp [cellsOf] at hj; subst hj
    exact ⟨rfl, rfl⟩
  | nl =>
    simp only [RV, RV1, RV0] at h
    subst h
    refine ⟨rfl, fun j hj => ?_⟩
    simp [cellsOf] at hj; subst hj
    exact ⟨rfl, rfl⟩
  | bx o off =>
    obtain ⟨b, h1, rfl⟩ := h
    refine ⟨rfl, fun j hj => ?_⟩
    simp [cellsOf] at hj; subst hj
    exact ⟨⟨b, h1, rfl⟩, rfl⟩
  | pw o i esz off =>
    obtain ⟨b, h1, rfl⟩ := h
    refine ⟨rfl, fun j hj => ?_⟩
    simp [cellsOf] at hj; subst hj
    exact ⟨⟨b, h1, rfl⟩, rfl⟩
  | pe cs off =>
    have h' := h
    obtain ⟨a0, h1, rfl, h3⟩ := h
    refine ⟨rfl, fun j hj => ?_⟩
    simp [cellsOf] at hj; subst hj
    exact ⟨h', rfl⟩
  | cl f cs =>
    have h' := h
    obtain ⟨vs, rfl, h3⟩ := h
    refine ⟨rfl, fun j hj => ?_⟩
    simp [cellsOf] at hj; subst hj
    exact ⟨h', rfl⟩
  | ro fl esz n L =>
    have h' := h
    simp only [RV, RV1, RV0] at h
    cases h
    refine ⟨rfl, fun j hj => ?_⟩
    simp [cellsOf] at hj; subst hj
    exact ⟨h', rfl⟩
  | ow o =>
    have h' := h
    obtain ⟨-, A, n, c, rfl⟩ := h
    refine ⟨rfl, fun j hj => ?_⟩
    simp [cellsOf] at hj; subst hj
    exact ⟨h', rfl⟩

end Go.Eng
