import Derived.Test.YtdfepbmcglnhcaaEngH
/-! Soundness, 6: stores, new boxes, addresses, lengths. -/
set_option linter.unusedSimpArgs false
set_option linter.unusedVariables false
namespace Go.Eng
open Go
variable {P : Program} {Φ : List It → St → Prop}

theorem okS_keep {A : Amb} {S S' : St} {w w' : World} {bo : Nat → Option Nat} {X : Nat → Prop} (hk : Keep w w' X) (hX : ∀ k, X k → ∃ o x, S.obj o = some x ∧ bo o = some k)
    (hS : ∀ o x, S'.obj o = some x → (∃ y, S.obj o = some y) ∨ ∀ b, bo o = some b → w.heap.size ≤ b) : ∀ k, okS A S w bo k → okS A S' w' bo k ∧ w'.heap[k]? = w.heap[k]? := by
  intro k ⟨h1, h2, h3⟩
  refine ⟨⟨Nat.lt_of_lt_of_le h1 hk.size, h2, fun o x hx hb => ?_⟩, hk.block k h1 fun hx => ?_⟩
  · rcases hS o x hx with ⟨y, hy⟩ | h
    · exact h3 o y hy hb
    · have := h k hb; omega
  · obtain ⟨o, x, h4, h5⟩ := hX k hx
    exact h3 o x h4 h5

theorem storeVar_run {T n : Nat} (hn : tsize P T = some n) (a : Addr) (v : Value) (hv : v.cells.size = n) (w : World) : (storeVar T a v).run P w = (storeCells a v.cells.toList).run P w := by
  unfold storeVar
  simp only [Sem.run_bind, tsize_run hn, Result.andThen_ok]
  simp [hv]

theorem store_ok {A : Amb} {o : Oper} {S : St} {kl : List Nat} {x y : Operand} {T : Nat} (ho : o.op = .store T x y) {u : Upd} {os os' : List (Ora P Φ)} {R D}
    (h : ((opd x).bind fun p => (opd y).bind fun d => if o.dst.isNone && tsize P T == some (cellsOf d).length && (cellsOf d).all oneD then storeE p (cellsOf d) else .fail : RD P Φ Upd).go S os = some (u, R, D, os'))
    (hs : ∀ d ∈ D, Sat P Φ d) : OpOk P A o S u kl := by
  intro a w bo σ hR hnew K Q hK
  obtain ⟨p, R1, D1, os1, R2, D2, h1, h2, rfl, rfl⟩ := go_bind _ _ h
  obtain ⟨d, R3, D3, os3, R4, D4, h3, h4, rfl, rfl⟩ := go_bind _ _ h2
  obtain ⟨k1, rfl, rfl, k2⟩ := opd_ok hR h1
  obtain ⟨k3, rfl, rfl, k4⟩ := opd_ok hR h3
  by_cases hc : (o.dst.isNone && tsize P T == some (cellsOf d).length && (cellsOf d).all oneD) = true
  case neg => rw [if_neg hc] at h4; exact (go_fail h4).elim
  rw [if_pos hc] at h4
  simp only [Bool.and_eq_true, Option.isNone_iff_eq_none, beq_iff_eq] at hc
  obtain ⟨⟨hdst, hsz⟩, hone⟩ := hc
  obtain ⟨c1, c2⟩ := cells_rel k3 hone
  have hvs : (a.eval y).cells.size = (cellsOf d).length := by simpa using c1
  have hexec : ∀ (ad : Addr) (w' : World), a.eval x = .pointer (some ad) → (storeCells ad (a.eval y).cells.toList).run P w = .ok () w' → (execOp a.eval o).run P w = .ok .skip w' := by
    intro ad w' he hl
    have := storeVar_run (P := P) hsz ad (a.eval y) hvs w
    simp [execOp, ho, he, Instr.storeAt, Instr.sureAddr, this, hl]
  have hall : ∀ v ∈ (a.eval y).cells.toList, v.oneCell' = true := by
    intro v hv
    obtain ⟨j, hj, rfl⟩ := List.getElem_of_mem hv
    have := (c2 j (by omega)).2
    have e : (a.eval y).cells.toList.getD j undef' = (a.eval y).cells.toList[j] := by simp only [List.getD_eq_getElem?_getD, List.getElem?_eq_getElem hj, Option.getD_some]
    rw [e] at this; exact this
  have hrefs : ∀ j, j < (cellsOf d).length → ∀ q ∈ refs0 ((cellsOf d).getD j .un), q ∈ kl := by
    intro j hj q hq
    refine k4 q ?_
    cases d with
    | ag cs =>
      simp only [refs, refs1, List.mem_flatMap]
      exact ⟨_, getD_mem cs j _ hj, hq⟩
    | tu ws => simp [cellsOf] at hj; subst hj; simp [cellsOf, refs0] at hq
    | _ => simp [cellsOf] at hj; subst hj; exact hq
  unfold storeE at h4
  split at h4
  · rename_i k off
    obtain ⟨x', R5, hx, h5, -⟩ := go_obj h4
    split at h5
    · rename_i cs
      split at h5
      · rename_i hle
        obtain ⟨rfl, -, -, -⟩ := go_ret h5
        obtain ⟨b, T', vs, g1, g2, g3, g4⟩ := hR.ob k _ hx
        obtain ⟨b', g5, g6⟩ := k1
        have hb : b' = b := Option.some.inj (g5.symm.trans g1)
        subst hb
        have g1' : bo k = some b' := g1
        obtain ⟨w', r1, r2, r3, vs', r4, r5, r6⟩ := run_stores (P := P) b' off T' (a.eval y).cells.toList 0 vs w g2 (by omega) hall
        refine wp_skipv (hexec _ w' g6 r1) ?_
        have hmono := okS_keep (A := A) (S := S) (S' := S.app ⟨[], [(k, some (.box (setRange cs off (cellsOf d))))], []⟩) (bo := bo) r2 (fun k' hk' => ⟨k, _, hx, by rw [hk']; exact g1'⟩) (fun o' x' hx' => by
          rw [app_obj] at hx'
          by_cases he : k = o'
          · subst he; exact .inl ⟨_, hx⟩
          · rw [wrOb_not (by simp; exact fun e => he e.symm)] at hx'; exact .inl ⟨_, hx'⟩)
        have hobj : (S.app ⟨[], [(k, some (.box (setRange cs off (cellsOf d))))], []⟩).obj k = some (.box (setRange cs off (cellsOf d))) := by rw [app_obj]; simp [wrOb]
        have hst := hR.step (w' := w') (bo' := bo) (σ' := σ) ⟨[], [(k, some (.box (setRange cs off (cellsOf d))))], []⟩ none undef
          ⟨r2.os, r2.tape, r2.output, r2.size, fun k' hk' hn => r2.block k' hk' fun e => hn ⟨k, by simp, _, hx, by rw [e]; exact g1'⟩⟩
          (fun _ _ => ⟨rfl, rfl⟩) (.inl ⟨rfl, rfl⟩)
          (fun o' x' ho' hx' => by
            simp at ho'; subst ho'
            rw [hobj] at hx'; cases hx'
            refine ⟨⟨b', T', vs', g1', r4, by rw [r5, g3, setRange_len], fun j hj => ?_⟩, by simpa using (hR.orf o' _ hx).1, fun q hq => ?_, fun b2 hb2 => ?_⟩
            · rw [setRange_len] at hj
              rw [setRange_get _ _ _ _ (by omega), r6]
              have e0 : (off + 0 ≤ j ∧ j < off + 0 + (a.eval y).cells.toList.length) ↔ (off ≤ j ∧ j < off + (cellsOf d).length) := by rw [c1]; omega
              by_cases hin : off ≤ j ∧ j < off + (cellsOf d).length
              · rw [if_pos hin, if_pos (e0.2 hin)]
                have := c2 (j - off) (by omega)
                refine ⟨?_, by simpa using this.2⟩
                have h7 := RV0.mono (E' := A.env (S.app ⟨[], [(o', some (.box (setRange cs off (cellsOf d))))], []⟩) w' bo σ) this.1 hmono (fun _ _ => ⟨rfl, rfl⟩)
                simpa using h7
              · rw [if_neg hin, if_neg (fun h => hin (e0.1 h))]
                exact ⟨RV0.mono (g4 j hj).1 hmono (fun _ _ => ⟨rfl, rfl⟩), (g4 j hj).2⟩
            · simp only [orefs, List.mem_flatMap] at hq
              obtain ⟨e, he, hq⟩ := hq
              obtain ⟨j, hj, rfl⟩ := List.getElem_of_mem he
              have hj' : j < cs.length := by rw [setRange_len] at hj; exact hj
              have e1 : (setRange cs off (cellsOf d))[j] = (setRange cs off (cellsOf d)).getD j .un := by simp [List.getD_eq_getElem?_getD, hj]
              rw [e1, setRange_get _ _ _ _ (by omega)] at hq
              split at hq
              · exact List.mem_append.2 (.inr (hrefs _ (by omega) q hq))
              · refine List.mem_append.2 (.inr ((hR.orf o' _ hx).2 q ?_))
                simp only [orefs, List.mem_flatMap]
                exact ⟨_, getD_mem cs j _ hj', hq⟩
            · have : b2 = b' := Option.some.inj (hb2.symm.trans g1')
              subst this
              exact ⟨Nat.lt_of_lt_of_le (hR.live o' _ b2 hx g1').1 r2.size, fun _ => ⟨o', by simp, _, hx, g1'⟩⟩)
          (fun o1 o2 x1 x2 b1 ho1 ho2 _ _ _ _ => by simp at ho1 ho2; rw [ho1, ho2])
        rw [hdst] at hK ⊢
        exact hK undef w' bo σ hst
      · exact (go_fail h5).elim
    · exact (go_fail h5).elim
  · rename_i k i esz off
    obtain ⟨x', R5, hx, h5, -⟩ := go_obj h4
    split at h5
    · rename_i fl T' s n L
      split at h5
      · rename_i hse
        have hse : s = esz := by simpa using hse
        subst hse
        obtain ⟨q1, os4, rfl, h6⟩ := go_peek h5
        split at h6
        · rename_i i' L1 cs hel
          obtain ⟨_, os5, D5, -, h7, rfl⟩ := go_req h6
          obtain ⟨q2, os6, -, h8⟩ := go_peek h7
          split at h8
          · rename_i nq n' L2 i2 cs2 L' hupd
            split at h8
            · rename_i hcond
              obtain ⟨_, os7, D7, -, h9, rfl⟩ := go_req h8
              obtain ⟨rfl, -, -, -⟩ := go_ret h9
              simp only [Bool.and_eq_true, decide_eq_true_eq, List.all_eq_true] at hcond
              have hsat : 0 ≤ (i : Int) ∧ L[(i : Int).toNat]? = some cs := hs (.el i L cs) (by simp)
              have hLi : L[i]? = some cs := by simpa using hsat.2
              obtain ⟨hL', hnn⟩ : L.set i (setRange cs off (cellsOf d)) = L' ∧ n = n' := hs (.upd n n' L i (setRange cs off (cellsOf d)) L') (by simp)
              subst hL'
              subst hnn
              obtain ⟨g1, g2, g3, g4, g5, vs, g6, g7⟩ := hR.ob k _ hx
              obtain ⟨b, p1, p2⟩ := k1
              have hin : i < n := by
                rw [← g1]
                rcases Nat.lt_or_ge i L.length with h | h
                · exact h
                · rw [List.getElem?_eq_none h] at hLi; cases hLi
              have hcs : cs.length = s := g3 cs (List.mem_of_getElem? hLi)
              have hbo : bo k = some b := p1
              obtain ⟨hvl, hown⟩ := g6
              rcases hown with ⟨-, h0⟩ | ⟨g, cap, cur, hv, hg0, hh, hnc, hcm, hcs2, htk⟩
              · omega
              have hv' : σ k = .slice (some ⟨g, 0, none⟩) n cap := hv
              have hbg : b = g := by
                have e : bo k = (σ k).ownBlock := g5
                rw [hv', hbo] at e
                simpa [Value.ownBlock] using e
              subst hbg
              have hh0 : w.heap[b]? = some (.cells cur T' (0, 0)) := hh
              have hh' : w.heap[b]? = some (.cells cur.toList.toArray T' (0, 0)) := by simpa using hh0
              have hns : n * s ≤ cap * s := Nat.mul_le_mul_right s hnc
              have his : i * s + s ≤ n * s := by
                have : (i + 1) * s ≤ n * s := Nat.mul_le_mul_right s (by omega)
                have : (i + 1) * s = i * s + s := Nat.succ_mul i s
                omega
              obtain ⟨w', r1, r2, r3, vs', r4, r5, r6⟩ := run_stores (P := P) b (i * s + off) T' (a.eval y).cells.toList 0 cur.toList w hh' (by simp [hcs2]; simp at c1; omega) hall
              refine wp_skipv (hexec _ w' p2 r1) ?_
              have hmono := okS_keep (A := A) (S := S) (S' := S.app ⟨[], [(k, some (.row fl T' s n (L.set i (setRange cs off (cellsOf d)))))], []⟩) (bo := bo) r2 (fun k' hk' => ⟨k, _, hx, by rw [hk']; exact hbo⟩) (fun o' x' hx' => by
                rw [app_obj] at hx'
                by_cases he : k = o'
                · subst he; exact .inl ⟨_, hx⟩
                · rw [wrOb_not (by simp; exact fun e => he e.symm)] at hx'; exact .inl ⟨_, hx'⟩)
              have hobj : (S.app ⟨[], [(k, some (.row fl T' s n (L.set i (setRange cs off (cellsOf d)))))], []⟩).obj k = some (.row fl T' s n (L.set i (setRange cs off (cellsOf d)))) := by rw [app_obj]; simp [wrOb]
              have hvs_cur : ∀ j, j < n * s → vs.getD j undef' = cur.toList.getD j undef' := by
                intro j hj
                rw [← htk]; simp [List.getD_eq_getElem?_getD, List.getElem?_take, hj]
              have hst := hR.step (w' := w') (bo' := bo) (σ' := σ) ⟨[], [(k, some (.row fl T' s n (L.set i (setRange cs off (cellsOf d)))))], []⟩ none undef
                ⟨r2.os, r2.tape, r2.output, r2.size, fun k' hk' hn => r2.block k' hk' fun e => hn ⟨k, by simp, _, hx, by rw [e]; exact hbo⟩⟩
                (fun _ _ => ⟨rfl, rfl⟩) (.inl ⟨rfl, rfl⟩)
                (fun o' x' ho' hx' => by
                  simp at ho'; subst ho'
                  rw [hobj] at hx'; cases hx'
                  refine ⟨⟨by simpa using g1, g2, fun l hl => ?_, fun hfl l hl e he => ?_, g5, (vs'.take (n * s)), ⟨?_, .inr ⟨b, cap, vs'.toArray, hv, hg0, r4, hnc, hcm, by simp [r5, hcs2], by simp⟩⟩, fun i2 j hi2 hj => ?_⟩, by simpa using (hR.orf o' _ hx).1, fun q hq => by simp [orefs] at hq, fun b2 hb2 => ?_⟩
                  · rcases List.mem_or_eq_of_mem_set hl with h | h
                    · exact g3 l h
                    · rw [h, setRange_len, hcs]
                  · rcases List.mem_or_eq_of_mem_set hl with h | h
                    · exact g4 hfl l h e he
                    · rw [h] at he
                      obtain ⟨j, hj, rfl⟩ := List.getElem_of_mem he
                      have hj' : j < cs.length := by rw [setRange_len] at hj; exact hj
                      have e1 : (setRange cs off (cellsOf d))[j] = (setRange cs off (cellsOf d)).getD j .un := by simp [List.getD_eq_getElem?_getD, hj]
                      rw [e1, setRange_get _ _ _ _ hcond.1]
                      split
                      · exact hcond.2 _ (getD_mem _ _ _ (by omega))
                      · exact g4 hfl cs (List.mem_of_getElem? hLi) _ (getD_mem _ _ _ hj')
                  · rw [List.length_take, r5]; simp only [Array.length_toList, hcs2]; omega
                  · have hij : i2 * s + j < n * s := by
                      have : (i2 + 1) * s ≤ n * s := Nat.mul_le_mul_right s (by omega)
                      have : (i2 + 1) * s = i2 * s + s := Nat.succ_mul i2 s
                      omega
                    have e2 : (vs'.take (n * s)).getD (i2 * s + j) undef' = vs'.getD (i2 * s + j) undef' := by
                      simp [List.getD_eq_getElem?_getD, List.getElem?_take, hij]
                    rw [e2, r6]
                    by_cases hii : i2 = i
                    · subst hii
                      have e3 : (L.set i2 (setRange cs off (cellsOf d))).getD i2 [] = setRange cs off (cellsOf d) := by
                        have : i2 < L.length := by omega
                        simp [List.getD_eq_getElem?_getD, this]
                      rw [e3, setRange_get _ _ _ _ hcond.1]
                      have e0 : (i2 * s + off + 0 ≤ i2 * s + j ∧ i2 * s + j < i2 * s + off + 0 + (a.eval y).cells.toList.length) ↔ (off ≤ j ∧ j < off + (cellsOf d).length) := by rw [c1]; omega
                      by_cases hoo : off ≤ j ∧ j < off + (cellsOf d).length
                      · rw [if_pos hoo, if_pos (e0.2 hoo)]
                        have h10 := c2 (j - off) (by omega)
                        have e4 : i2 * s + j - (i2 * s + off + 0) = j - off := by omega
                        rw [e4]
                        refine ⟨?_, h10.2⟩
                        have hfl2 := hcond.2 _ (getD_mem (cellsOf d) (j - off) .un (by omega))
                        have h11 := h10.1
                        generalize (cellsOf d).getD (j - off) .un = e5 at hfl2 h11
                        cases e5 <;> simp [flatD] at hfl2 <;> simp only [RV0] at h11 <;> rw [h11] <;> constructor
                      · rw [if_neg hoo, if_neg (fun h => hoo (e0.1 h))]
                        have h10 := g7 i2 j hi2 hj
                        have e6 : L.getD i2 [] = cs := by simp [List.getD_eq_getElem?_getD, hLi]
                        rw [e6, hvs_cur _ hij] at h10
                        exact ⟨h10.1.mono hmono, h10.2⟩
                    · have e3 : (L.set i (setRange cs off (cellsOf d))).getD i2 [] = L.getD i2 [] := by
                        have : ¬ i = i2 := fun e => hii e.symm
                        simp [List.getD_eq_getElem?_getD, List.getElem?_set, this]
                      rw [e3]
                      have hnot : ¬ (i * s + off + 0 ≤ i2 * s + j ∧ i2 * s + j < i * s + off + 0 + (a.eval y).cells.toList.length) := by
                        rw [c1]
                        intro ⟨q1, q2⟩
                        rcases Nat.lt_or_gt_of_ne hii with hlt | hlt
                        · have : (i2 + 1) * s ≤ i * s := Nat.mul_le_mul_right s (by omega)
                          have : (i2 + 1) * s = i2 * s + s := Nat.succ_mul i2 s
                          omega
                        · have : (i + 1) * s ≤ i2 * s := Nat.mul_le_mul_right s (by omega)
                          have : (i + 1) * s = i * s + s := Nat.succ_mul i s
                          omega
                      rw [if_neg hnot]
                      have h10 := g7 i2 j hi2 hj
                      rw [hvs_cur _ hij] at h10
                      exact ⟨h10.1.mono hmono, h10.2⟩
                  · have : b2 = b := Option.some.inj (hb2.symm.trans hbo)
                    subst this
                    exact ⟨Nat.lt_of_lt_of_le (hR.live o' _ b2 hx hbo).1 r2.size, fun _ => ⟨o', by simp, _, hx, hbo⟩⟩)
                (fun o1 o2 x1 x2 b1 ho1 ho2 _ _ _ _ => by simp at ho1 ho2; rw [ho1, ho2])
              rw [hdst] at hK ⊢
              exact hK undef w' bo σ hst
            · exact (go_fail h8).elim
          · exact (go_fail h8).elim
        · exact (go_fail h6).elim
      · exact (go_fail h5).elim
    · exact (go_fail h5).elim
  · exact (go_fail h4).elim

end Go.Eng
