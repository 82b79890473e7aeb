import Derived.Test.YtdfepbmcglnhcaaEngN
set_option linter.unusedSimpArgs false
set_option linter.unusedVariables false
/-! Soundness, 12: appends. -/
namespace Go.Eng
open Go
variable {P : Program} {Φ : List It → St → Prop}

theorem run_append_eng {w : World} (t ty e : TypeId) (i : TypeInfo) (z : Value) (ht : P.underlying t = some (.slice e)) (hi : P.info? e = some i) (hz : i.zero = some z)
    (hzs : z.cells.size = i.size) (hsz : 0 < i.size) (hby : 0 < i.bytes)
    (v : Value) (n : Nat) (xs : List Value) (hown : w.ownsRow 0 e i.size v n xs)
    (Ad : Option Addr) (m c : Nat) (news : List Value) (hl : news.length = m * i.size) (hnews : m = 0 ∨ ∃ a, Ad = some a ∧ ∀ j u, news[j]? = some u → w.cell? (a.add j) = some u) (h1 : ∀ u ∈ news, u.oneCell' = true)
    (hbytes : (n + m) * i.bytes ≤ 140737488355328) :
    ∃ v' w', (Builtin.append_ #[t, t] ty #[v, .slice Ad m c]).run P w = .ok v' w' ∧ w'.ownsRow 0 e i.size v' (n + m) (xs ++ news) ∧ w.grownBy w' v.ownBlock ∧
      (∀ b, v'.ownBlock = some b → v.ownBlock = some b ∨ w.heap.size ≤ b) ∧ ∃ A' n' c', v' = .slice A' n' c' := by
  have h63 : n + m ≤ 140737488355328 := by
    have : (n + m) * 1 ≤ (n + m) * i.bytes := Nat.mul_le_mul_left _ hby
    omega
  have hmx : n + m ≤ maxLen := by simp only [maxLen]; omega
  have hlen : (xs ++ news).length = (n + m) * i.size := by rw [List.length_append, hown.1, hl, Nat.add_mul]
  by_cases hm0 : m = 0
  · subst hm0
    have hn : news = [] := List.eq_nil_of_length_eq_zero (by simpa using hl)
    subst hn
    refine ⟨v, w, ?_, by simpa using hown, ⟨rfl, rfl, rfl, Nat.le_refl _, fun _ _ _ => rfl⟩, fun b hb => .inl hb, ?_⟩
    · rcases hown.2 with ⟨rfl, rfl⟩ | ⟨g, cap, cur, rfl, _, _, hnc, _⟩
      · cases Ad <;> simp [Builtin.append_, run_underlying ht, sizeOf, typeInfo, hi, Builtin.lenOf, Builtin.firstCells, loadCells, loadCellsFrom]
      · cases Ad <;> simp [Builtin.append_, run_underlying ht, sizeOf, typeInfo, hi, Builtin.lenOf, Builtin.firstCells, hnc, storeCells, loadCells, loadCellsFrom]
    · rcases hown.2 with ⟨rfl, rfl⟩ | ⟨g, cap, cur, rfl, _⟩ <;> exact ⟨_, _, _, rfl⟩
  · obtain ⟨a, rfl, hne⟩ := hnews.resolve_left hm0
    clear hnews
    have hnews := hne
    have grown : ∀ (old : Nat), old < n + m → ∀ (row : Option Nat),
        (w.drew.alloc (.cells (xs.toArray ++ news.toArray ++ Builtin.zeroCells z.cells (grownCap w (n + m) old e - (n + m))) e)).ownsRow 0 e i.size
          (.slice (some ⟨w.heap.size, 0, none⟩) (n + m) (grownCap w (n + m) old e)) (n + m) (xs ++ news) ∧
        w.grownBy (w.drew.alloc (.cells (xs.toArray ++ news.toArray ++ Builtin.zeroCells z.cells (grownCap w (n + m) old e - (n + m))) e)) row := by
      intro old ho row
      have hge := grownCap_ge w (n + m) old e
      have hcm : grownCap w (n + m) old e ≤ maxLen := grownCap_le_maxLen w (n + m) old e hmx
      refine ⟨⟨hlen, .inr ⟨w.heap.size, _, _, rfl, Nat.zero_le _, heap_alloc_new w.drew _, hge, hcm, ?_, ?_⟩⟩, ⟨rfl, rfl, rfl, by simp, fun k hk _ => heap_alloc_old w.drew _ (by simpa using hk)⟩⟩
      · simp only [Array.size_append, List.size_toArray, size_zeroCells, hzs, hown.1, hl, ← Nat.add_mul]
        congr 1
        omega
      · simp only [Array.toList_append, List.append_assoc]
        rw [← List.append_assoc, ← hlen]
        exact List.take_left
    rcases hown.2 with ⟨rfl, rfl⟩ | ⟨g, cap, cur, rfl, hbg, hg, hnc, hcm, hcs, htake⟩
    · have hx : xs = [] := List.eq_nil_of_length_eq_zero (by simpa using hown.1)
      subst hx
      have hr := run_append_nil (P := P) w t ty e i z ht hi hz a m c news hl hnews (by omega) (by omega) (by have hb := hbytes; simp only [Nat.zero_add] at hb; omega)
      have hgr := grown 0 (by omega) (Value.ownBlock (.slice none 0 0))
      simp only [Nat.zero_add, List.nil_append, Array.empty_append] at hgr ⊢
      exact ⟨_, _, hr, hgr.1, hgr.2, fun b hb => .inr (by simp [Value.ownBlock] at hb; omega), _, _, _, rfl⟩
    · by_cases hroom : n + m ≤ cap
      · have hfit : n * i.size + news.length ≤ cur.size := by rw [hl, hcs, ← Nat.add_mul]; exact Nat.mul_le_mul_right _ hroom
        have hr := run_append_room (P := P) w t ty e i ht hi g n cap cur hg a m c news hl hnews h1 hroom hfit
        refine ⟨_, _, hr, ⟨hlen, .inr ⟨g, cap, _, rfl, hbg, setRow_heap w g cur _ e _ hg, hroom, hcm, ?_, ?_⟩⟩, ⟨rfl, rfl, rfl, by simp, fun k _ hk => setRow_other w g k _ (fun e => hk (by simp [Value.ownBlock, e]))⟩, fun b hb => .inl hb, _, _, _, rfl⟩
        · simp only [List.size_toArray, List.length_append, List.length_take, List.length_drop, Array.length_toList]
          omega
        · rw [htake, ← hlen]
          exact List.take_left
      · have holds : ∀ j u, xs[j]? = some u → w.cell? ((⟨g, 0, none⟩ : Addr).add j) = some u := hown.cells (g := g) rfl
        have hr := run_append_grow (P := P) w t ty e i z ht hi hz ⟨g, 0, none⟩ n cap xs hown.1 holds a m c news hl hnews (by omega) (by omega) (growslice_fits (by omega) hbytes)
        have hgr := grown cap (by omega) (Value.ownBlock (.slice (some ⟨g, 0, none⟩) n cap))
        exact ⟨_, _, hr, hgr.1, hgr.2, fun b hb => .inr (by simp [Value.ownBlock] at hb; omega), _, _, _, rfl⟩

theorem divmod (i j s : Nat) (h : j < s) : (i * s + j) / s = i ∧ (i * s + j) % s = j := by
  have hs : 0 < s := by omega
  constructor
  · rw [Nat.mul_comm, Nat.mul_add_div hs, Nat.div_eq_of_lt h, Nat.add_zero]
  · rw [Nat.mul_comm, Nat.mul_add_mod, Nat.mod_eq_of_lt h]

theorem append_ok {A : Amb} {o : Oper} {S : St} {kl : List Nat} {c : Call} {x y : Operand} {T : Nat} (ho : o.op = .call c) (hc : c.callee = .builtin .append) (hx : c.args.toList = [x, y]) (hT : c.argTypes.toList = [T, T]) {u : Upd} {os os' : List (Ora P Φ)} {R D}
    (h : ((opd x).bind fun d => (opd y).bind fun e => appendE o.dst T d e : RD P Φ Upd).go S os = some (u, R, D, os')) (hs : ∀ d ∈ D, Sat P Φ d) : OpOk P A o S u kl := by
  intro a w bo σ hR hnew K Q hK
  obtain ⟨d, R1, D1, os1, R2, D2, h1, h2, rfl, rfl⟩ := go_bind _ _ h
  obtain ⟨k1, rfl, rfl, k2⟩ := opd_ok hR h1
  obtain ⟨d', R3, D3, os3, R4, D4, h3, h4, rfl, rfl⟩ := go_bind _ _ h2
  obtain ⟨k3, rfl, rfl, k4⟩ := opd_ok hR h3
  have hargs : c.args = #[x, y] := by rw [← Array.toArray_toList (xs := c.args), hx]
  have hts : c.argTypes = #[T, T] := by rw [← Array.toArray_toList (xs := c.argTypes), hT]
  unfold appendE at h4
  split at h4
  · rename_i e t he hd
    split at h4
    · rename_i i hi
      obtain ⟨⟨gl, esz, m, M⟩, R5, D5, os5, R6, D6, h5, h6, rfl, rfl⟩ := go_bind _ _ h4
      obtain ⟨⟨fl, oo, n, L⟩, R7, D7, os7, R8, D8, h7, h8, rfl, rfl⟩ := go_bind _ _ h6
      simp only at h8
      by_cases hcond : (i.size == esz && decide (0 < esz) && zeroOk P e esz) = true
      · rw [if_pos hcond] at h8
        simp only [Bool.and_eq_true, beq_iff_eq, decide_eq_true_eq] at hcond
        obtain ⟨⟨hie, hpos⟩, hzo⟩ := hcond
        subst hie
        obtain ⟨q1, os9, rfl, h9⟩ := go_peek h8
        obtain ⟨_, os10, D10, -, h10, rfl⟩ := go_req h9
        obtain ⟨q2, os11, rfl, h11⟩ := go_peek h10
        split at h11
        · rename_i n' k' L1 M1 L' hcat
          obtain ⟨_, os12, D12, -, h12, rfl⟩ := go_req h11
          obtain ⟨rfl, -, -, -⟩ := go_ret h12
          have hbytes : (n + m) * i.bytes ≤ 140737488355328 := hs (.le _ _) (by simp)
          have hcat' : L ++ M = L' ∧ n' = n + m := hs (.cat n' (n + m) L M L') (by simp)
          obtain ⟨rfl, rfl⟩ := hcat'
          obtain ⟨i2, z, hi2, hsz2, hz, hby, hzs⟩ := zeroOk_spec hzo
          have : i2 = i := Option.some.inj (hi2.symm.trans hi)
          subst this
          have hTT := elemT_spec he
          -- the source
          have src : M.length = m ∧ (∀ l ∈ M, l.length = i2.size) ∧ (gl = true → ∀ l ∈ M, ∀ d ∈ l, flatD d = true) ∧
              ∃ Ad cc, a.eval y = .slice Ad m cc ∧ (m = 0 ∨ ∃ (ad : Addr) (f : Nat → Nat → Value), Ad = some ad ∧ (∀ i j, i < m → j < i2.size → w.cell? (ad.add (i * i2.size + j)) = some (f i j) ∧ (f i j).oneCell' = true ∧ RP w (okS A S w bo) ((M.getD i []).getD j .un) (f i j))) := by
            split at h5
            · obtain ⟨hee, -, -, -⟩ := go_ret h5
              cases hee
              exact ⟨rfl, fun l hl => (by cases hl), fun _ l hl => (by cases hl), none, 0, k3, .inl rfl⟩
            · obtain ⟨-, -, g1, g2, g3, Ad, cc, g4, g5⟩ := rowOf_ok hR k3 h5
              exact ⟨g1, g2, g3, Ad, cc, g4, g5⟩
          obtain ⟨hM1, hM2, hM3, Ad, cc, hy, hM4⟩ := src
          -- the destination
          have dst : ∃ (v : Value) (vs : List Value) (ns : List Nat), a.eval x = v ∧ dropO oo = ns.map (fun o => (o, none)) ∧ (∀ o ∈ ns, ∃ x, S.obj o = some x) ∧
              w.ownsRow 0 e i2.size v n vs ∧ L.length = n ∧ (∀ l ∈ L, l.length = i2.size) ∧ (fl = true → ∀ l ∈ L, ∀ d ∈ l, flatD d = true) ∧
              (∀ b, v.ownBlock = some b → ∃ o ∈ ns, bo o = some b) ∧
              ∀ i j, i < n → j < i2.size → RP w (okS A S w bo) ((L.getD i []).getD j .un) (vs.getD (i * i2.size + j) undef') ∧ (vs.getD (i * i2.size + j) undef').oneCell' = true := by
            split at h7
            · obtain ⟨hee, -, -, -⟩ := go_ret h7
              cases hee
              exact ⟨_, [], [], k1, rfl, fun o ho => (by cases ho), World.ownsRow_nil w 0 e i2.size, rfl, fun l hl => (by cases hl), fun _ l hl => (by cases hl), fun b hb => by simp [Value.ownBlock] at hb, fun i j hi => (by omega)⟩
            · rename_i o'
              obtain ⟨x', R9, hx', h13, -⟩ := go_obj h7
              split at h13
              · rename_i fl' T' s' n2 L2
                split at h13
                · rename_i hcc
                  simp only [Bool.and_eq_true, beq_iff_eq] at hcc
                  obtain ⟨rfl, rfl⟩ := hcc
                  obtain ⟨hee, -, -, -⟩ := go_ret h13
                  cases hee
                  obtain ⟨g1, g2, g3, g4, g5, vs, g6, g7⟩ := hR.ob o' _ hx'
                  obtain ⟨hσ, -⟩ := k1
                  have hσ' : σ o' = a.eval x := hσ
                  refine ⟨_, vs, [o'], rfl, rfl, fun o ho => by simp at ho; subst ho; exact ⟨_, hx'⟩, by rw [← hσ']; exact g6, g1, g3, g4, fun b hb => ⟨o', by simp, ?_⟩, g7⟩
                  have e5 : bo o' = (σ o').ownBlock := g5
                  rw [e5, hσ']; exact hb
                · exact (go_fail h13).elim
              · exact (go_fail h13).elim
            · exact (go_fail h7).elim
          obtain ⟨v, vs, ns, hv, hns, hnl, hown, hL1, hL2, hL3, hblk, hL4⟩ := dst
          -- the new cells
          obtain ⟨news, hnl2, hnews, hnget⟩ : ∃ news : List Value, news.length = m * i2.size ∧ (m = 0 ∨ ∃ a, Ad = some a ∧ ∀ j u, news[j]? = some u → w.cell? (a.add j) = some u) ∧
              ∀ i j, i < m → j < i2.size → (news.getD (i * i2.size + j) undef').oneCell' = true ∧ RP w (okS A S w bo) ((M.getD i []).getD j .un) (news.getD (i * i2.size + j) undef') := by
            rcases hM4 with h0 | ⟨ad, f, rfl, hf⟩
            · exact ⟨[], by simp [h0], .inl h0, fun i j hi => by omega⟩
            · refine ⟨(List.range (m * i2.size)).map fun k => f (k / i2.size) (k % i2.size), by simp, .inr ⟨ad, rfl, fun j u hu => ?_⟩, fun i j hi hj => ?_⟩
              · have hlt : j < m * i2.size := by
                  rcases Nat.lt_or_ge j (m * i2.size) with h | h
                  · exact h
                  · rw [List.getElem?_eq_none (by simpa using h)] at hu; cases hu
                simp [hlt] at hu
                subst hu
                have := (hf (j / i2.size) (j % i2.size) (Nat.div_lt_of_lt_mul (by rw [Nat.mul_comm]; exact hlt)) (Nat.mod_lt _ hpos)).1
                rw [Nat.div_add_mod' j i2.size] at this
                exact this
              · have hlt : i * i2.size + j < m * i2.size := by
                  have : (i + 1) * i2.size ≤ m * i2.size := Nat.mul_le_mul_right _ (by omega)
                  have : (i + 1) * i2.size = i * i2.size + i2.size := Nat.succ_mul i _
                  omega
                have e1 : ((List.range (m * i2.size)).map fun k => f (k / i2.size) (k % i2.size)).getD (i * i2.size + j) undef' = f i j := by
                  simp only [List.getD_eq_getElem?_getD, List.getElem?_map, List.getElem?_range hlt, Option.map_some, Option.getD_some]
                  rw [(divmod i j _ hj).1, (divmod i j _ hj).2]
                rw [e1]
                exact (hf i j hi hj).2
          have hone : ∀ u ∈ news, u.oneCell' = true := by
            intro u hu
            obtain ⟨k, hk, rfl⟩ := List.getElem_of_mem hu
            have := (hnget (k / i2.size) (k % i2.size) (Nat.div_lt_of_lt_mul (by rw [Nat.mul_comm]; omega)) (Nat.mod_lt _ hpos)).1
            rw [Nat.div_add_mod' k i2.size] at this
            have e1 : news.getD k undef' = news[k] := by simp [List.getD_eq_getElem?_getD, hk]
            rw [e1] at this; exact this
          obtain ⟨v', w', hr, r2, r3, r4, A', nn', c', r5⟩ := run_append_eng (P := P) (w := w) T o.type e i2 z hTT hi hz hzs hpos hby v n vs hown Ad m cc news hnl2 hnews hone hbytes
          have hrun : (execOp a.eval o).run P w = .ok (.value v') w' := by
            simp [execOp, ho, hc, resolve, invoke, builtin, hargs, hts, hv, hy, hr]
          refine wp_value hrun ?_
          rw [hd] at hK ⊢
          have hupd : ({ sl := [(t, DV.ow t)], ob := dropO oo ++ [(t, some (.row (fl && gl) e i2.size (n + m) (L ++ M)))], new := [t] } : Upd) =
              ⟨[(t, .ow t)], ns.map (fun o => (o, none)) ++ [(t, some (.row (fl && gl) e i2.size (n + m) (L ++ M)))], [t]⟩ := by rw [hns]
          have hkk : Keep w w' (fun k => ∃ o ∈ ns, bo o = some k) := ⟨r3.os, r3.tape, r3.output, r3.size, fun k hk hn => r3.block k hk fun e => hn (hblk k e.symm)⟩
          have hokw : ∀ k, okS A S w bo k → (k < w'.heap.size ∧ (k < A.w0.heap.size → A.ok k ∨ A.X k) ∧ (∀ o x, S.obj o = some x → o ∉ ns → bo o ≠ some k) ∧ v'.ownBlock ≠ some k) ∧ w'.heap[k]? = w.heap[k]? := by
            intro k hk
            refine ⟨⟨Nat.lt_of_lt_of_le hk.1 r3.size, hk.2.1, fun o x hx _ => hk.2.2 o x hx, fun he => ?_⟩, r3.block k hk.1 fun he => ?_⟩
            · rcases r4 k he with h | h
              · obtain ⟨o, ho, hb⟩ := hblk k h
                obtain ⟨x, hx⟩ := hnl o ho
                exact hk.2.2 o x hx hb
              · have := hk.1; omega
            · obtain ⟨o, ho, hb⟩ := hblk k he.symm
              obtain ⟨x, hx⟩ := hnl o ho
              exact hk.2.2 o x hx hb
          have hfin := row_new (A := A) hR t v' ns (fl && gl) e i2.size (n + m) (L ++ M) (vs ++ news) (hnew t (by simp)) hnl hkk (fun b hb => by
              rcases r4 b hb with h | h
              · exact .inr (hblk b h)
              · exact .inl h) ⟨A', nn', c', r5⟩ (by simp [hL1, hM1]) hpos (fun l hl => by
              rcases List.mem_append.1 hl with h | h
              · exact hL2 l h
              · exact hM2 l h) (fun hf l hl d hd => by
              simp only [Bool.and_eq_true] at hf
              rcases List.mem_append.1 hl with h | h
              · exact hL3 hf.1 l h d hd
              · exact hM3 hf.2 l h d hd) r2 (fun i j hi hj => by
              have hvl : vs.length = n * i2.size := hown.1
              by_cases hin : i < n
              · have hlt : i * i2.size + j < vs.length := by
                  have : (i + 1) * i2.size ≤ n * i2.size := Nat.mul_le_mul_right _ (by omega)
                  have : (i + 1) * i2.size = i * i2.size + i2.size := Nat.succ_mul i _
                  omega
                have e1 : (vs ++ news).getD (i * i2.size + j) undef' = vs.getD (i * i2.size + j) undef' := by
                  simp only [List.getD_eq_getElem?_getD, List.getElem?_append, hlt, if_true]
                have e2 : (L ++ M).getD i [] = L.getD i [] := by
                  have : i < L.length := by omega
                  simp only [List.getD_eq_getElem?_getD, List.getElem?_append, this, if_true]
                rw [e1, e2]
                exact ⟨(hL4 i j hin hj).2, (hL4 i j hin hj).1.mono hokw⟩
              · have hge : n * i2.size ≤ i * i2.size := Nat.mul_le_mul_right _ (by omega)
                have hsub : i * i2.size + j - n * i2.size = (i - n) * i2.size + j := by
                  rw [Nat.sub_mul]; omega
                have e1 : (vs ++ news).getD (i * i2.size + j) undef' = news.getD ((i - n) * i2.size + j) undef' := by
                  have h5 : ¬ i * i2.size + j < n * i2.size := by omega
                  simp only [List.getD_eq_getElem?_getD, List.getElem?_append, hvl, h5, if_false, hsub]
                have e2 : (L ++ M).getD i [] = M.getD (i - n) [] := by
                  simp only [List.getD_eq_getElem?_getD, List.getElem?_append, hL1, hin, if_false]
                rw [e1, e2]
                have := hnget (i - n) j (by omega) hj
                exact ⟨this.1, this.2.mono hokw⟩)
          have := hK v' w' _ _ (by rw [hupd]; exact hfin)
          exact this
        · exact (go_fail h11).elim
      · rw [if_neg hcond] at h8; exact (go_fail h8).elim
    · exact (go_fail h4).elim
  · exact (go_fail h4).elim

end Go.Eng
