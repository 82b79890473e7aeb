import Derived.Test.YtdfepbmcglnhcaaEngQa
import Derived.Laws.OwnMore
import Derived.Laws.IdiomStrings
set_option linter.unusedSimpArgs false
set_option linter.unusedVariables false
/-! Soundness, 14b: bytes of strings, rows of zeros, bytes as strings, + on strings. -/
namespace Go.Eng
open Go
variable {P : Program} {Φ : List It → St → Prop}

theorem add_ok {A : Amb} {o : Oper} {S : St} {kl : List Nat} {T yT : Nat} {x y : Operand} (ho : o.op = .binOp .add T x y yT) {d : DV} {os os' : List (Ora P Φ)} {R D}
    (h : (addE T x y : RD P Φ DV).go S os = some (d, R, D, os')) (hs : ∀ d ∈ D, Sat P Φ d) (a : Act) (w : World) (bo : Nat → Option Nat) (σ : Nat → Value) (hR : Rel A S a.tmps w bo σ kl) :
    ∃ v, (execOp a.eval o).run P w = .ok (.value v) w ∧ RV (A.env S w bo σ) d v ∧ ∀ p ∈ refs d, p ∈ kl := by
  obtain ⟨dx, R1, D1, os1, R2, D2, h1, h2, rfl, rfl⟩ := go_bind _ _ h
  obtain ⟨k1, rfl, rfl, -⟩ := opd_ok hR h1
  split at h2
  · rename_i s
    obtain ⟨dy, R3, D3, os3, R4, D4, h3, h4, rfl, rfl⟩ := go_bind _ _ h2
    obtain ⟨k2, rfl, rfl, -⟩ := opd_ok hR h3
    split at h4
    · rename_i s'
      obtain ⟨q, os7, rfl, h7⟩ := go_peek h4
      obtain ⟨_, os8, D8, -, h8, rfl⟩ := go_req h7
      obtain ⟨rfl, -, -, -⟩ := go_ret h8
      have hle : s.size + s'.size ≤ 9223372036854775807 := hs (.le _ _) (by simp)
      have e1 : a.eval x = .string s := k1
      have e2 : a.eval y = .string s' := k2
      refine ⟨_, ?_, rfl, fun p hp => by simp [refs, refs1, refs0] at hp⟩
      have hlt : ¬ (((s.size + s'.size : Nat) : Int) > IntKind.i64.max) := by
        have : IntKind.i64.max = 9223372036854775807 := by decide
        rw [this]; omega
      simp only [execOp, ho, e1, e2]
      simp [eqGuard, binOp, Op.stringOp]
      have : IntKind.i64.max = 9223372036854775807 := by decide
      omega
    · exact (go_fail h4).elim
  · exact bin_ok ho h2 a w bo σ hR

theorem idx_ok {A : Amb} {o : Oper} {S : St} {kl : List Nat} {T : Nat} {x i : Operand} (ho : o.op = .index T x i) {d : DV} {os os' : List (Ora P Φ)} {R D}
    (h : (idxE T x i : RD P Φ DV).go S os = some (d, R, D, os')) (hs : ∀ d ∈ D, Sat P Φ d) (a : Act) (w : World) (bo : Nat → Option Nat) (σ : Nat → Value) (hR : Rel A S a.tmps w bo σ kl) :
    ∃ v, (execOp a.eval o).run P w = .ok (.value v) w ∧ RV (A.env S w bo σ) d v ∧ ∀ p ∈ refs d, p ∈ kl := by
  unfold idxE at h
  obtain ⟨dx, R1, D1, os1, R2, D2, h1, h2, rfl, rfl⟩ := go_bind _ _ h
  obtain ⟨k1, rfl, rfl, -⟩ := opd_ok hR h1
  obtain ⟨di, R3, D3, os3, R4, D4, h3, h4, rfl, rfl⟩ := go_bind _ _ h2
  obtain ⟨k2, rfl, rfl, -⟩ := opd_ok hR h3
  obtain ⟨n, R5, D5, os5, R6, D6, h5, h6, rfl, rfl⟩ := go_bind _ _ h4
  obtain ⟨⟨k, rfl⟩, rfl, rfl⟩ := intOfD_ok h5
  split at h6
  · rename_i hu
    split at h6
    · rename_i s
      obtain ⟨q, os7, rfl, h7⟩ := go_peek h6
      split at h7
      · obtain ⟨_, os8, D8, -, h8, rfl⟩ := go_req h7
        obtain ⟨rfl, -, -, -⟩ := go_ret h8
        rename_i b _ _
        obtain ⟨g1, g2⟩ : 0 ≤ n ∧ s[n.toNat]? = some b := hs (.sx n s b) (by simp)
        have e1 : a.eval x = .string s := k1
        have e2 : a.eval i = .int k n := k2
        refine ⟨_, ?_, rfl, fun p hp => by simp [refs, refs1, refs0] at hp⟩
        simp [execOp, ho, Instr.index, e1, e2, asIntOf, under_run hu, g1, g2]
      · exact (go_fail h7).elim
    · exact (go_fail h6).elim
  · exact (go_fail h6).elim

theorem cv_ok {A : Amb} {o : Oper} {S : St} {kl : List Nat} {s t : Nat} {x : Operand} (ho : o.op = .convert s t x) {d : DV} {os os' : List (Ora P Φ)} {R D}
    (h : (cvE s t x : RD P Φ DV).go S os = some (d, R, D, os')) (hs : ∀ d ∈ D, Sat P Φ d) (a : Act) (w : World) (bo : Nat → Option Nat) (σ : Nat → Value) (hR : Rel A S a.tmps w bo σ kl) :
    ∃ v, (execOp a.eval o).run P w = .ok (.value v) w ∧ RV (A.env S w bo σ) d v ∧ ∀ p ∈ refs d, p ∈ kl := by
  have key : ∀ {dx : DV} {os1 R2 D2}, (strE s t dx : RD P Φ DV).go S os1 = some (d, R2, D2, os') → (∀ d ∈ D2, Sat P Φ d) → RV (A.env S w bo σ) dx (a.eval x) →
      ∃ v, (execOp a.eval o).run P w = .ok (.value v) w ∧ RV (A.env S w bo σ) d v ∧ ∀ p ∈ refs d, p ∈ kl := by
    intro dx os1 R2 D2 h2 hs2 k1
    unfold strE at h2
    split at h2
    · rename_i e hu1 hu2
      split at h2
      · rename_i hu3
        obtain ⟨⟨fl, esz, n, L⟩, R3, D3, os3, R4, D4, h3, h4, rfl, rfl⟩ := go_bind _ _ h2
        obtain ⟨rfl, rfl, hL, he, -, Ad, c, hx, hrow⟩ := rowOf_ok hR k1 h3
        split at h4
        · rename_i he1
          have he1 : esz = 1 := by simpa using he1
          subst he1
          obtain ⟨q, os7, rfl, h7⟩ := go_peek h4
          split at h7
          · rename_i Lq b hb
            obtain ⟨_, os8, D8, -, h8, rfl⟩ := go_req h7
            obtain ⟨rfl, -, -, -⟩ := go_ret h8
            have hLb : L = b.data.toList.map fun c => [DV.v (.int .u8 (c.toNat : Int))] := hs2 (.str L b) (by simp)
            refine ⟨.string b, ?_, rfl, fun p hp => by simp [refs, refs1, refs0] at hp⟩
            have hn : n = b.data.size := by rw [← hL, hLb]; simp
            have hconv : (convert s t (a.eval x)).run P w = .ok (.string b) w := by
              rw [hx, run_convert_bytes_string w s t e Ad n c hu1 hu3 hu2]
              rcases hrow with h0 | ⟨ad, f, rfl, hc⟩
              · subst h0
                have hb0 : b = ByteArray.empty := by
                  have h1 : b.data = #[] := by apply Array.eq_empty_of_size_eq_zero; omega
                  cases b; simp at h1; subst h1; rfl
                subst hb0
                cases Ad with
                | none => simp [Conv.bytesToString]
                | some ad => 
                  have := run_bytesToString (P := P) w ad 0 c [] (by simp [loadCells, loadCellsFrom])
                  rw [this]; rfl
              · have hl : (loadCells ad n).run P w = .ok ((b.data.toList.map fun c => (c.toNat : Int)).map (Value.int .u8)).toArray w := by
                  have := run_loadCells (P := P) ad (fun j => f j 0) n 0 #[] w (fun j hj => by rw [Nat.zero_add]; simpa using (hc j 0 hj (by omega)).1)
                  rw [loadCells, this]
                  congr 1
                  apply Array.ext'
                  simp only [Array.empty_append, List.map_map]
                  apply List.ext_getElem
                  · simp [hn]
                  · intro j h1 h2
                    have hj : j < n := by simpa using h1
                    have h3 := (hc j 0 hj (by omega)).2.2
                    have hjb : j < b.data.size := by omega
                    have e3 : (L.getD j []).getD 0 .un = .v (.int .u8 ((b.data[j]'hjb).toNat : Int)) := by
                      rw [hLb]; simp [List.getD_eq_getElem?_getD, Array.getElem?_eq_getElem hjb]
                    rw [e3] at h3
                    have h4 : f j 0 = .int .u8 ((b.data[j]'hjb).toNat : Int) := by generalize f j 0 = y at h3; cases h3; rfl
                    simp [h4]
                rw [run_bytesToString w ad n c _ hl, foldl_push_byteCells]
                have e9 : (ByteArray.empty.data ++ b.data.toList.toArray) = b.data := by apply Array.ext'; simp [ByteArray.empty, ByteArray.emptyWithCapacity]; rfl
                rw [e9]
            simp only [execOp, ho, Sem.run_bind, hconv, Result.andThen_ok, Sem.run_pure]
          · exact (go_fail h7).elim
        · exact (go_fail h4).elim
      · exact (go_fail h2).elim
    · exact (go_fail h2).elim
  obtain ⟨dx, R1, D1, os1, R2, D2, h1, h2, rfl, rfl⟩ := go_bind _ _ h
  obtain ⟨k1, rfl, rfl, -⟩ := opd_ok hR h1
  split at h2
  · exact key h2 (fun d hd => hs d (by simp [hd])) k1
  · exact key h2 (fun d hd => hs d (by simp [hd])) k1
  · exact conv_ok ho h2 a w bo σ hR

theorem mk_ok {A : Amb} {o : Oper} {S : St} {kl : List Nat} {T : Nat} {len cap : Operand} (ho : o.op = .makeSlice T len cap) {u : Upd} {os os' : List (Ora P Φ)} {R D}
    (h : (mkE o.dst T len cap : RD P Φ Upd).go S os = some (u, R, D, os')) (hs : ∀ d ∈ D, Sat P Φ d) : OpOk P A o S u kl := by
  intro a w bo σ hR hnew K Q hK
  unfold mkE at h
  split at h
  · rename_i t e hd he
    split at h
    · rename_i i hi
      split at h
      · rename_i z hz
        by_cases hc : (okV z && (cellsOf (ofV z)).all zeroD && zeroOk P e i.size && decide (0 < i.size)) = true
        case neg => rw [if_neg hc] at h; exact (go_fail h).elim
        rw [if_pos hc] at h
        simp only [Bool.and_eq_true, decide_eq_true_eq] at hc
        obtain ⟨⟨⟨c1, c2⟩, c3⟩, c4⟩ := hc
        obtain ⟨da, R1, D1, os1, R2, D2, h1, h2, rfl, rfl⟩ := go_bind _ _ h
        obtain ⟨k1, rfl, rfl, -⟩ := opd_ok hR h1
        obtain ⟨n, R3, D3, os3, R4, D4, h3, h4, rfl, rfl⟩ := go_bind _ _ h2
        obtain ⟨⟨ka, rfl⟩, rfl, rfl⟩ := intOfD_ok h3
        obtain ⟨db, R5, D5, os5, R6, D6, h5, h6, rfl, rfl⟩ := go_bind _ _ h4
        obtain ⟨k2, rfl, rfl, -⟩ := opd_ok hR h5
        obtain ⟨m, R7, D7, os7, R8, D8, h7, h8, rfl, rfl⟩ := go_bind _ _ h6
        obtain ⟨⟨kb, rfl⟩, rfl, rfl⟩ := intOfD_ok h7
        obtain ⟨q, os9, rfl, h9⟩ := go_peek h8
        split at h9
        · rename_i nq mq k zq L hq
          obtain ⟨_, os10, D10, -, h10, rfl⟩ := go_req h9
          obtain ⟨q2, os11, rfl, h11⟩ := go_peek h10
          obtain ⟨_, os12, D12, -, h12, rfl⟩ := go_req h11
          obtain ⟨rfl, -, -, -⟩ := go_ret h12
          obtain ⟨rfl, rfl, rfl⟩ : n = (k : Int) ∧ m = (k : Int) ∧ List.replicate k (zeroL z) = L := hs (.mks n m k (zeroL z) L) (by simp)
          have hle : k * i.bytes ≤ 140737488355328 := hs (.le (k * i.bytes) 140737488355328) (by simp)
          obtain ⟨i', z', hi', hz1, hz2, hby, hzs⟩ := zeroOk_spec c3
          rw [hi] at hi'; cases hi'
          rw [hz] at hz2; cases hz2
          have hT := elemT_spec he
          have e1 : a.eval len = .int ka k := k1
          have e2 : a.eval cap = .int kb k := k2
          have hk : k ≤ 140737488355328 := Nat.le_trans (Nat.le_mul_of_pos_right k hby) hle
          have hb' : (i.bytes : Int) * (k : Int) ≤ 281474976710656 := by
            have h : ((k * i.bytes : Nat) : Int) ≤ 281474976710656 := by omega
            rw [Int.natCast_mul] at h
            rwa [Int.mul_comm]
          have hr := run_make (P := P) w T e i z hT hi hz ka kb k k (by omega) (Int.le_refl _) hb' (by omega)
          simp only [Int.toNat_natCast] at hr
          have hrun : (execOp a.eval o).run P w = .ok (.value (.slice (some ⟨w.heap.size, 0, none⟩) k k)) { w with heap := w.heap.push (.cells (madeCells z.cells (k * i.size)) e) } := by
            simp only [execOp, ho, e1, e2, Sem.run_bind, hr, Result.andThen_ok, Sem.run_pure]
            rfl
          refine wp_value hrun ?_
          rw [hd] at hK ⊢
          have hcr := cellsRel_ofV (A.env S w bo σ) c1
          have hzl : (zeroL z).length = i.size := by
            unfold zeroL; rw [List.length_map]
            have := hcr.1
            rw [hzs] at this
            omega
          have hmk : ∀ a j, a < k → j < i.size → (madeCells z.cells (k * i.size)).toList.getD (a * i.size + j) undef' = z.cells.toList.getD j undef' := by
            intro a j ha hj
            have hlt : a * i.size + j < k * i.size := by
              have : (a + 1) * i.size ≤ k * i.size := Nat.mul_le_mul_right _ (by omega)
              rw [Nat.succ_mul] at this
              omega
            have hmod : (a * i.size + j) % z.cells.size = j := by rw [hzs, (divmod a j i.size hj).2]
            unfold madeCells
            simp [List.getD_eq_getElem?_getD, hlt, hmod]
            have hjz : j < z.cells.size := by omega
            rw [getElem!_pos z.cells j hjz]
            simp [hjz]
          refine hK _ _ _ _ (row_new hR t _ [] ((zeroL z).all flatD) e i.size k _ (madeCells z.cells (k * i.size)).toList (hnew t (by simp)) (fun o ho => by cases ho) (Keep.new w _ _) (fun b hb => ?_) ⟨_, _, _, rfl⟩ (by simp) c4 (fun l hl => ?_) (fun hf l hl d hd => ?_)
            ⟨by simp [size_madeCells], .inr ⟨w.heap.size, k, madeCells z.cells (k * i.size), rfl, Nat.zero_le _, by simp, Nat.le_refl _, by simp only [maxLen]; omega, size_madeCells _ _, by rw [List.take_of_length_le]; simp [size_madeCells]⟩⟩ (fun b j hb hj => ?_))
          · simp [Value.ownBlock] at hb; exact .inl (by omega)
          · rw [List.mem_replicate] at hl
            rw [hl.2, hzl]
          · rw [List.mem_replicate] at hl
            rw [hl.2] at hd
            simp only [List.all_eq_true] at hf
            exact hf d hd
          · rw [hmk b j hb hj]
            have hjc : j < (cellsOf (ofV z)).length := by unfold zeroL at hzl; rw [List.length_map] at hzl; omega
            obtain ⟨g1, g2⟩ := hcr.2 j hjc
            refine ⟨g2, ?_⟩
            have e3 : ((List.replicate k (zeroL z)).getD b []).getD j .un = nrm0 ((cellsOf (ofV z)).getD j .un) := by
              simp [List.getD_eq_getElem?_getD, hb, zeroL, hjc]
            rw [e3]
            have hrp : zeroD ((cellsOf (ofV z)).getD j .un) = true := by
              simp only [List.all_eq_true] at c2
              exact c2 _ (getD_mem _ j _ hjc)
            generalize (cellsOf (ofV z)).getD j .un = dz at hrp g1
            generalize z.cells.toList.getD j undef' = xz at g1
            cases dz <;> simp [zeroD] at hrp <;> simp only [RV0] at g1 <;> subst g1
            · exact .v _
            · exact .v _
            · exact .nl
        · exact (go_fail h9).elim
      · exact (go_fail h).elim
    · exact (go_fail h).elim
  · exact (go_fail h).elim

theorem sl_ok {A : Amb} {o : Oper} {S : St} {kl : List Nat} {T : Nat} {x : Operand} {lo hi : Option Operand} (ho : o.op = .slice T x lo hi none) {u : Upd} {os os' : List (Ora P Φ)} {R D}
    (h : (slE o.dst T x lo hi : RD P Φ Upd).go S os = some (u, R, D, os')) (hs : ∀ d ∈ D, Sat P Φ d) : OpOk P A o S u kl := by
  unfold slE at h
  obtain ⟨dx, R1, D1, os1, R2, D2, h1, h2, rfl, rfl⟩ := go_bind _ _ h
  split at h2
  · rename_i o'
    intro a w bo σ hR hnew K Q hK
    obtain ⟨k1, rfl, rfl, k2⟩ := opd_ok hR h1
    unfold preE at h2
    split at h2
    · rename_i t e hd he
      obtain ⟨y, R3, hy, h3, -⟩ := go_obj h2
      split at h3
      · rename_i fl T' esz n L
        split at h3
        · rename_i hc
          simp only [Bool.and_eq_true, beq_iff_eq] at hc
          obtain ⟨rfl, hsz⟩ := hc
          obtain ⟨hh, R5, D5, os5, R6, D6, h5, h6, rfl, rfl⟩ := go_bind _ _ h3
          obtain ⟨rfl, rfl, hhi⟩ := optI_ok hR h5
          obtain ⟨q, os7, rfl, h7⟩ := go_peek h6
          split at h7
          · rename_i Lq L' lq hq nq n' hsg
            obtain ⟨_, os8, D8, -, h8, rfl⟩ := go_req h7
            obtain ⟨rfl, -, -, -⟩ := go_ret h8
            obtain ⟨b0, b1, b2, b3, b4⟩ : 0 ≤ (0 : Int) ∧ 0 ≤ hh ∧ hh ≤ (n : Int) ∧ (L.take hh.toNat).drop (0 : Int).toNat = L' ∧ L'.length = n' := hs (.seg L L' 0 hh n n') (by simp)
            obtain ⟨g1, g2, g3, g4, g5, vs, ⟨g6, hown⟩, g7⟩ := hR.ob o' _ hy
            have hT := elemT_spec he
            have hσ : σ o' = a.eval x := k1.1
            have hn' : n' = hh.toNat := by rw [← b4, ← b3]; simp; omega
            have hL' : L' = L.take hh.toNat := by rw [← b3]; simp
            have hle : hh.toNat ≤ n := by omega
            have hle2 : n' * esz ≤ n * esz := Nat.mul_le_mul_right _ (by omega)
            have hbo : bo o' = (σ o').ownBlock := g5
            have main : ∃ v, (execOp a.eval o).run P w = .ok (.value v) w ∧ w.ownsRow 0 T' esz v n' (vs.take (n' * esz)) ∧ v.ownBlock = (σ o').ownBlock ∧ ∃ A n c, v = .slice A n c := by
              have hown' : (σ o' = .slice none 0 0 ∧ n = 0) ∨ ∃ g cap cur, σ o' = .slice (some ⟨g, 0, none⟩) n cap ∧ 0 ≤ g ∧ w.heap[g]? = some (.cells cur T' (0, 0)) ∧ n ≤ cap ∧ cap ≤ maxLen ∧ cur.size = cap * esz ∧ cur.toList.take (n * esz) = vs := hown
              rcases hown' with ⟨hv, rfl⟩ | ⟨g, cap, cur, hv, hg0, hg, hnc, hm, hcs, htk⟩
              · have h0 : hh = 0 := by omega
                have hn0 : n' = 0 := by omega
                subst h0
                rw [hv] at hσ
                have hb := bounds_ok (P := P) (ρ := a.eval) (isS := true) (len := 0) (cap := 0) (lo := none) (.inl ⟨rfl, rfl⟩) hhi (Int.le_refl _) (Int.le_refl _) (by omega) w
                refine ⟨.slice none 0 0, ?_, ⟨by simp [hn0], .inl ⟨rfl, hn0⟩⟩, by rw [hv], none, 0, 0, rfl⟩
                simp at hb
                simp [execOp, ho, ← hσ, Instr.sliceAt, Instr.slice, under_run hT, hb, tsize_run hsz]
              · rw [hv] at hσ
                have hb := bounds_ok (P := P) (ρ := a.eval) (isS := true) (len := n) (cap := cap) (lo := none) (.inl ⟨rfl, rfl⟩) hhi (Int.le_refl _) b1 (by omega) w
                refine ⟨.slice (some ⟨g, 0, none⟩) n' cap, ?_, ⟨by rw [List.length_take, g6]; exact Nat.min_eq_left hle2, .inr ⟨g, cap, cur, rfl, hg0, hg, by omega, hm, hcs, ?_⟩⟩, by rw [hv]; rfl, _, _, _, rfl⟩
                · simp at hb
                  by_cases hc0 : cap = 0
                  · subst hc0
                    simp [execOp, ho, ← hσ, Instr.sliceAt, Instr.slice, under_run hT, hb, tsize_run hsz, hn']
                  · simp [execOp, ho, ← hσ, Instr.sliceAt, Instr.slice, under_run hT, hb, tsize_run hsz, hn', hc0, Addr.add]
                · rw [← htk, List.take_take, Nat.min_eq_left hle2]
            obtain ⟨v, hrun, hrow, hblk, hsl⟩ := main
            refine wp_value hrun ?_
            rw [hd] at hK ⊢
            refine hK _ _ _ _ (row_new hR t v [o'] fl T' esz n' L' (vs.take (n' * esz)) (hnew t (by simp)) (fun o2 ho2 => by simp at ho2; subst ho2; exact ⟨_, hy⟩) ⟨rfl, rfl, rfl, Nat.le_refl _, fun _ _ _ => rfl⟩
              (fun b hb => .inr ⟨o', by simp, by rw [hbo, ← hblk]; exact hb⟩) hsl b4 g2 (fun l hl => g3 l (by rw [hL'] at hl; exact List.mem_of_mem_take hl)) (fun hf l hl => g4 hf l (by rw [hL'] at hl; exact List.mem_of_mem_take hl)) hrow (fun i j hi hj => ?_))
            have hi2 : i < n := by omega
            obtain ⟨r1, r2⟩ := g7 i j hi2 hj
            have hlt : i * esz + j < n' * esz := by
              have : (i + 1) * esz ≤ n' * esz := Nat.mul_le_mul_right esz (by omega)
              rw [Nat.succ_mul] at this
              omega
            have e1 : (vs.take (n' * esz)).getD (i * esz + j) undef' = vs.getD (i * esz + j) undef' := by
              simp [List.getD_eq_getElem?_getD, List.getElem?_take, hlt]
            have e2 : L'.getD i [] = L.getD i [] := by
              rw [hL']; have : i < hh.toNat := by omega
              simp [List.getD_eq_getElem?_getD, List.getElem?_take, this]
            rw [e1, e2]
            exact ⟨r2, r1.mono fun k hk => ⟨⟨hk.1, hk.2.1, fun o2 x2 h2 _ => hk.2.2 o2 x2 h2, fun hb => hk.2.2 o' _ hy (by rw [hbo, ← hblk]; exact hb)⟩, rfl⟩⟩
          · exact (go_fail h7).elim
        · exact (go_fail h3).elim
      · exact (go_fail h3).elim
    · exact (go_fail h2).elim
  · exact ofDst_ok h2 (fun d hd => hs d (by simp [hd])) fun d os2 R3 D3 h3 hs3 a w bo σ hR => slice_ok ho h3 hs3 a w bo σ hR

end Go.Eng
