import Derived.Test.YtdfepbmcglnhcaaEngM
set_option linter.unusedSimpArgs false
set_option linter.unusedVariables false
/-! Soundness, 11: slices built and appended to. -/
namespace Go.Eng
open Go
variable {P : Program} {Φ : List It → St → Prop}

/-- the parts of a slice, from the k-th on -/
theorem fill_slice (s : Nat) : ∀ (vs : List Value) (k N : Nat) (xs : Array Value), (∀ v ∈ vs, v.cells.size = s) → xs.size = N * s → k + vs.length ≤ N →
    ∃ xs', Instr.fill (fun i => some (i * s, s)) xs ((List.range' k vs.length).zip vs) = some xs' ∧ xs'.size = N * s ∧
      ∀ i j, i < vs.length → j < s → xs'.toList.getD ((k + i) * s + j) undef' = (vs.getD i undef').cells.toList.getD j undef' ∧ True
  | [], k, N, xs, _, h, _ => ⟨xs, rfl, h, fun i j hi => by simp at hi⟩
  | v :: vs, k, N, xs, hv, hx, hk => by
    have hvs : v.cells.size = s := hv v (by simp)
    simp only [List.length_cons] at hk
    have hks : k * s + s ≤ N * s := by
      have : (k + 1) * s ≤ N * s := Nat.mul_le_mul_right s (by omega)
      have : (k + 1) * s = k * s + s := Nat.succ_mul k s
      omega
    obtain ⟨f1, f2⟩ := fold_set v.cells.toList (k * s) xs 0
    have e : v.cells.zipIdx.foldl (fun cs (p : Value × Nat) => cs.setIfInBounds (k * s + p.2) p.1) xs = (v.cells.toList.zipIdx 0).foldl (fun cs (p : Value × Nat) => cs.setIfInBounds (k * s + p.2) p.1) xs := by
      rw [← Array.foldl_toList]; simp
    have hsz : (v.cells.zipIdx.foldl (fun cs (p : Value × Nat) => cs.setIfInBounds (k * s + p.2) p.1) xs).size = N * s := by rw [e, ← Array.length_toList, f1, hx]
    have keep : ∀ (ws : List Value) (k' : Nat) (ys ys' : Array Value), (∀ v ∈ ws, v.cells.size = s) → ys.size = N * s → Instr.fill (fun i => some (i * s, s)) ys ((List.range' k' ws.length).zip ws) = some ys' → ∀ j, j < k' * s → ys'.toList.getD j undef' = ys.toList.getD j undef' := by
      intro ws
      induction ws with
      | nil => intro k' ys ys' _ _ h j _; simp [Instr.fill] at h; subst h; rfl
      | cons u ws ih =>
        intro k' ys ys' hw hy h j hj
        simp only [List.length_cons, List.range'_succ, List.zip_cons_cons, Instr.fill] at h
        split at h
        · cases h
        · obtain ⟨g1, g2⟩ := fold_set u.cells.toList (k' * s) ys 0
          have e' : u.cells.zipIdx.foldl (fun cs (p : Value × Nat) => cs.setIfInBounds (k' * s + p.2) p.1) ys = (u.cells.toList.zipIdx 0).foldl (fun cs (p : Value × Nat) => cs.setIfInBounds (k' * s + p.2) p.1) ys := by
            rw [← Array.foldl_toList]; simp
          have hj' : j < (k' + 1) * s := Nat.lt_of_lt_of_le hj (Nat.mul_le_mul_right s (by omega))
          have := ih (k' + 1) _ ys' (fun v hv => hw v (by simp [hv])) (by rw [e', ← Array.length_toList, g1, hy]) h j hj'
          rw [this, e', g2]
          have hno : ¬ (k' * s + 0 ≤ j ∧ j < k' * s + 0 + u.cells.toList.length ∧ j < ys.size) := by omega
          rw [if_neg hno]
    obtain ⟨xs', r1, r2, r3⟩ := fill_slice s vs (k + 1) N _ (fun u hu => hv u (by simp [hu])) hsz (by omega)
    refine ⟨xs', ?_, r2, fun i j hi hj => ⟨?_, trivial⟩⟩
    · simp only [List.length_cons, List.range'_succ, List.zip_cons_cons, Instr.fill]
      have hno : ¬ (decide (v.cells.size ≠ s) || decide (k * s + v.cells.size > xs.size)) = true := by
        rw [hvs, hx]; simp; omega
      rw [if_neg hno]
      exact r1
    · cases i with
      | zero =>
        rw [Nat.add_zero]
        have hlt : k * s + j < (k + 1) * s := by rw [Nat.succ_mul]; omega
        rw [keep vs (k + 1) _ xs' (fun u hu => hv u (by simp [hu])) hsz r1 _ hlt, e, f2]
        have hin : k * s + 0 ≤ k * s + j ∧ k * s + j < k * s + 0 + v.cells.toList.length ∧ k * s + j < xs.size := by simp [hvs, hx]; omega
        rw [if_pos hin]
        have : k * s + j - (k * s + 0) = j := by omega
        rw [this]; rfl
      | succ i =>
        have := (r3 i j (by simpa using hi) hj).1
        rw [show k + (i + 1) = k + 1 + i from by omega, this]
        rfl

theorem zeroOk_spec {e s : Nat} (h : zeroOk P e s = true) : ∃ i z, P.info? e = some i ∧ i.size = s ∧ i.zero = some z ∧ 0 < i.bytes ∧ z.cells.size = s := by
  unfold zeroOk at h
  split at h
  · rename_i i hi
    simp only [Bool.and_eq_true, beq_iff_eq, decide_eq_true_eq] at h
    obtain ⟨⟨⟨h1, h2⟩, h3⟩, h4⟩ := h
    obtain ⟨z, hz⟩ := Option.isSome_iff_exists.1 h2
    rw [hz] at h4
    exact ⟨i, z, hi, h1, hz, h3, by simpa [h1] using h4⟩
  · cases h

theorem buildSlice_ok {A : Amb} {o : Oper} {S : St} {kl : List Nat} {T n : Nat} {ps : Array (Nat × Operand)} (ho : o.op = .buildSlice T n ps) {u : Upd} {os os' : List (Ora P Φ)} {R D}
    (h : (opE o : RD P Φ Upd).go S os = some (u, R, D, os')) : OpOk P A o S u kl := by
  intro a w bo σ hR hnew K Q hK
  simp only [opE, ho] at h
  obtain ⟨ds, R1, D1, os1, R2, D2, h1, h2, rfl, rfl⟩ := go_bind _ _ h
  obtain ⟨k0, rfl, rfl, k1, k2⟩ := opds_ok hR h1
  split at h2
  · rename_i t e hd he
    split at h2
    · rename_i s hs
      by_cases hc : (n == ds.length && ps.toList.map (·.1) == List.range n && ds.all (fun d => (cellsOf d).length == s) && decide (n * s ≤ 1000) && decide (0 < s) && zeroOk P e s) = true
      · rw [if_pos hc] at h2
        simp only [Bool.and_eq_true, beq_iff_eq, decide_eq_true_eq, List.all_eq_true] at hc
        obtain ⟨⟨⟨⟨⟨c1, c2⟩, c3⟩, c4⟩, c5⟩, c6⟩ := hc
        obtain ⟨⟨L, ns⟩, R3, D3, os3, R4, D4, h3, h4, rfl, rfl⟩ := go_bind _ _ h2
        obtain ⟨rfl, -, -, -⟩ := go_ret h4
        obtain ⟨i, z, hi, hi2, hz, hby, hzs⟩ := zeroOk_spec c6
        have hT := elemT_spec he
        let xs : List Value := ps.toList.map fun p => a.eval p.2
        have hxl : xs.length = ds.length := by simp [xs, k0]
        have k1' : ∀ j, j < ds.length → RV (A.env S w bo σ) (ds.getD j .un) (xs.getD j undef') := by
          intro j hj
          have := k1 j (by rw [← k0]; exact hj)
          simpa [xs, List.map_map, Function.comp_def] using this
        -- every part is told by cells of one place each
        have hone : ∀ j, j < ds.length → (cellsOf (ds.getD j .un)).all oneD = true := by
          have aux : ∀ (l : List DV) {l' : List DV} {ns : List Nat} {os os' : List (Ora P Φ)} {R D}, (frz l : RD P Φ _).go S os = some ((l', ns), R, D, os') → l.all oneD = true := by
            intro l
            induction l with
            | nil => intros; rfl
            | cons d l ih =>
              intro l' ns os os' R D h
              simp only [frz] at h
              obtain ⟨⟨d', n1⟩, R1, D1, os1, R2, D2, h1, h2, rfl, rfl⟩ := go_bind _ _ h
              obtain ⟨⟨l', n2⟩, R3, D3, os3, R4, D4, h3, h4, rfl, rfl⟩ := go_bind _ _ h2
              simp only [List.all_cons, Bool.and_eq_true]
              refine ⟨?_, ih h3⟩
              split at h1
              · rfl
              · split at h1
                · rename_i hrp
                  simp only [Bool.and_eq_true] at hrp
                  exact hrp.2
                · exact (go_fail h1).elim
          have aux2 : ∀ (l : List (List DV)) {l' : List (List DV)} {ns : List Nat} {os os' : List (Ora P Φ)} {R D}, (frzL l : RD P Φ _).go S os = some ((l', ns), R, D, os') → ∀ d ∈ l, d.all oneD = true := by
            intro l
            induction l with
            | nil => intros; rename_i h; cases h
            | cons d l ih =>
              intro l' ns os os' R D h
              simp only [frzL] at h
              obtain ⟨⟨d', n1⟩, R1, D1, os1, R2, D2, h1, h2, rfl, rfl⟩ := go_bind _ _ h
              obtain ⟨⟨l', n2⟩, R3, D3, os3, R4, D4, h3, h4, rfl, rfl⟩ := go_bind _ _ h2
              intro d2 hd2
              rcases List.mem_cons.1 hd2 with rfl | hd2
              · exact aux _ h1
              · exact ih h3 d2 hd2
          intro j hj
          exact aux2 _ h3 _ (List.mem_map.2 ⟨_, getD_mem ds j .un hj, rfl⟩)
        have hcells : ∀ j, j < ds.length → (xs.getD j undef').cells.toList.length = (cellsOf (ds.getD j .un)).length ∧ ∀ l, l < (cellsOf (ds.getD j .un)).length → RV0 (A.env S w bo σ) ((cellsOf (ds.getD j .un)).getD l .un) ((xs.getD j undef').cells.toList.getD l undef') ∧ ((xs.getD j undef').cells.toList.getD l undef').oneCell' = true :=
          fun j hj => cells_rel (k1' j hj) (hone j hj)
        have hds : ∀ j, j < ds.length → (cellsOf (ds.getD j .un)).length = s := fun j hj => c3 _ (getD_mem ds j .un hj)
        have hLd : ∀ j, j < ds.length → (ds.map cellsOf).getD j [] = cellsOf (ds.getD j .un) := fun j hj => by
          simp [List.getD_eq_getElem?_getD, hj]
        have hxd : ∀ j, j < ds.length → (xs.map fun v => v.cells.toList).getD j [] = (xs.getD j undef').cells.toList := fun j hj => by
          have : j < xs.length := by omega
          simp [List.getD_eq_getElem?_getD, this]
        obtain ⟨rfl, rfl, q3, q3', q4, q5⟩ := frzL_ok hR h3 (vss := xs.map fun v => v.cells.toList) (by simp [hxl]) (fun i hi => by
          have hi' : i < ds.length := by simpa using hi
          rw [hLd i hi', hxd i hi']
          exact ⟨(hcells i hi').1, fun j hj => ((hcells i hi').2 j hj).1⟩)
        have hxs : ∀ v ∈ xs, v.cells.size = s := by
          intro v hv
          obtain ⟨j, hj, rfl⟩ := List.getElem_of_mem hv
          have := (hcells j (by omega)).1
          have e : xs.getD j undef' = xs[j] := by simp [List.getD_eq_getElem?_getD, hj]
          rw [e, hds j (by omega)] at this
          simpa using this
        have hn : n = xs.length := by omega
        obtain ⟨cs, r1, r2, r3⟩ := fill_slice s xs 0 n ((Array.range (n * s)).map (fun i => (if n * s = 0 then #[] else z.cells)[i % (if n * s = 0 then (#[] : Array Value) else z.cells).size]!)) hxs (by simp) (by omega)
        have hparts : (ps.map fun (i, x) => (i, a.eval x)).toList = (List.range' 0 xs.length).zip xs := by
          have e1 : (ps.map fun (i, x) => (i, a.eval x)).toList = (ps.toList.map (·.1)).zip xs := by
            simp [xs, List.zip_map', Array.toList_map]
          rw [e1, c2, hn, List.range_eq_range']
        have hzero : (zeroValue e).run P w = .ok z w := by simp [zeroValue, typeInfo, hi, hz]
        have hrun : (execOp a.eval o).run P w = .ok (.value (.slice (some ⟨w.heap.size, 0, none⟩) n n)) { w with heap := w.heap.push (.cells cs e) } := by
          have hbig : ¬ (n * s > 2 ^ 24) := by omega
          simp only [execOp, ho, Instr.buildSlice, Sem.run_bind, under_run hT, Result.andThen_ok, tsize_run hs, if_neg hbig, Sem.run_pure]
          by_cases h0 : n * s = 0
          · simp only [h0, if_true, Sem.run_bind, Sem.run_pure, Result.andThen_ok] at r1 ⊢
            rw [hparts, r1]
            simp [newRow]
          · simp only [h0, if_false, Sem.run_bind, hzero, Sem.run_pure, Result.andThen_ok] at r1 ⊢
            rw [hparts, r1]
            simp [newRow]
        refine wp_value hrun ?_
        rw [hd] at hK ⊢
        have hcsl : cs.toList.length = n * s := by simpa using r2
        have hm : n ≤ 1000 := by
          have : n * 1 ≤ n * s := Nat.mul_le_mul_left n c5
          omega
        refine hK _ _ _ _ (row_new hR t _ ns (L.all fun l => l.all flatD) e s n L cs.toList (hnew t (by simp)) q4 (Keep.new w _ _) (fun b hb => ?_) ⟨_, _, _, rfl⟩ (by rw [q3]; simp; omega) c5 (fun l hl => ?_) (fun hf l hl d hd => ?_)
          ⟨hcsl, .inr ⟨w.heap.size, n, cs, rfl, Nat.zero_le _, by simp, Nat.le_refl _, by simp only [maxLen]; omega, by simpa using r2, List.take_of_length_le (by omega)⟩⟩ (fun i j hi hj => ?_))
        · simp [Value.ownBlock] at hb; exact .inl (by omega)
        · obtain ⟨j, hj, rfl⟩ := List.getElem_of_mem hl
          have hj' : j < ds.length := by rw [q3] at hj; simpa using hj
          have := q3' j
          rw [hLd j hj', hds j hj'] at this
          simpa [List.getD_eq_getElem?_getD, hj] using this
        · simp only [List.all_eq_true] at hf; exact hf l hl d hd
        · have hi' : i < ds.length := by omega
          have e1 := (r3 i j (by omega) hj).1
          rw [Nat.zero_add] at e1
          rw [e1]
          refine ⟨((hcells i hi').2 j (by rw [hds i hi']; exact hj)).2, ?_⟩
          have h7 := q5 (fun k => k < ({ w with heap := w.heap.push (.cells cs e) } : World).heap.size ∧ (k < A.w0.heap.size → A.ok k ∨ A.X k) ∧ (∀ o x, S.obj o = some x → o ∉ ns → bo o ≠ some k) ∧ k < w.heap.size) (fun k hk => ⟨by have := hk.1; simp; omega, hk.2.1, fun o x hx _ => hk.2.2 o x hx, hk.1⟩)
            (fun o ho b hb => by
              obtain ⟨x, hx⟩ := q4 o ho
              have hl := hR.live o x b hx hb
              exact ⟨by simp; omega, fun h => .inr (hl.2 h), fun o' x' hx' hn' hb' => hn' (by rw [← hR.inj o o' x x' b hx hx' hb hb']; exact ho), hl.1⟩) i j (by simpa using hi') (by rw [hLd i hi', hds i hi']; exact hj)
          rw [hxd i hi'] at h7
          refine h7.mono fun k hk => ⟨⟨hk.1, hk.2.1, hk.2.2.1, fun he => ?_⟩, ?_⟩
          · simp [Value.ownBlock] at he; omega
          · have := hk.2.2.2
            simp [Array.getElem?_push]; omega
      · rw [if_neg hc] at h2; exact (go_fail h2).elim
    · exact (go_fail h2).elim
  · exact (go_fail h2).elim

end Go.Eng
