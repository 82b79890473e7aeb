import Derived.Test.YtdfepbmcglnhcaaEngF
/-! Soundness, 4: operations. -/
set_option linter.unusedSimpArgs false
set_option linter.unusedVariables false
namespace Go.Eng
open Go
variable {P : Program} {Φ : List It → St → Prop}

theorem go_fail {α : Type} {S : St} {b : α} {os os' : List (Ora P Φ)} {R D} (h : (RD.fail : RD P Φ α).go S os = some (b, R, D, os')) : False := by simp [RD.go] at h

theorem resE_ok {S : St} {v : Option Value} {d : DV} {os os' : List (Ora P Φ)} {R D} (h : (resE v : RD P Φ DV).go S os = some (d, R, D, os')) : ∃ x, v = some x ∧ okV x = true ∧ d = ofR x ∧ D = [] := by
  obtain ⟨x, R1, D1, os1, R2, D2, h1, h2, rfl, rfl⟩ := go_bind _ _ h
  obtain ⟨rfl, rfl⟩ := go_ofO h1
  split at h2
  · rename_i hx
    obtain ⟨rfl, _, rfl, _⟩ := go_ret h2
    exact ⟨x, rfl, hx, rfl, rfl⟩
  · exact (go_fail h2).elim

/-- the shape of all value operations: what the reading gives, a value of it that the machine yields -/
theorem ofDst_ok {A : Amb} {o : Oper} {S : St} {kl : List Nat} {r : RD P Φ DV} {u : Upd} {os os' : List (Ora P Φ)} {R D}
    (h : (ofDst o.dst r).go S os = some (u, R, D, os')) (hs : ∀ d ∈ D, Sat P Φ d)
    (hr : ∀ d os1 R1 D1, r.go S os = some (d, R1, D1, os1) → (∀ d ∈ D1, Sat P Φ d) → ∀ (a : Act) (w : World) (bo : Nat → Option Nat) (σ : Nat → Value), Rel A S a.tmps w bo σ kl →
      ∃ v, (execOp a.eval o).run P w = .ok (.value v) w ∧ RV (A.env S w bo σ) d v ∧ ∀ p ∈ refs d, p ∈ kl) : OpOk P A o S u kl := by
  obtain ⟨d, R1, D1, os1, R2, D2, h1, h2, rfl, rfl⟩ := go_bind _ _ h
  obtain ⟨rfl, _, rfl, _⟩ := go_ret h2
  exact OpOk.val (hr d os1 R1 D1 h1 fun e he => hs e (by simp [he]))

theorem bin_ok {A : Amb} {o : Oper} {S : St} {kl : List Nat} {op : BinOp} {T yT : Nat} {x y : Operand} (ho : o.op = .binOp op T x y yT) {d : DV} {os os' : List (Ora P Φ)} {R D}
    (h : (binE op T x y : RD P Φ DV).go S os = some (d, R, D, os')) (a : Act) (w : World) (bo : Nat → Option Nat) (σ : Nat → Value) (hR : Rel A S a.tmps w bo σ kl) :
    ∃ v, (execOp a.eval o).run P w = .ok (.value v) w ∧ RV (A.env S w bo σ) d v ∧ ∀ p ∈ refs d, p ∈ kl := by
  obtain ⟨dx, R1, D1, os1, R2, D2, h1, h2, rfl, rfl⟩ := go_bind _ _ h
  obtain ⟨dy, R3, D3, os3, R4, D4, h3, h4, rfl, rfl⟩ := go_bind _ _ h2
  split at h4
  · rename_i vx vy hx hy
    obtain ⟨v, hv, hok, rfl, _⟩ := resE_ok h4
    obtain ⟨k1, -, rfl, -⟩ := opd_ok hR h1
    obtain ⟨k2, -, -, -⟩ := opd_ok hR h3
    have e1 := toV_ok hx k1
    have e2 := toV_ok hy k2
    refine ⟨v, ?_, rv_ofR _ v hok, fun p hp => by rw [refs_ofR] at hp; cases hp⟩
    have := evP_run _ hv w
    simp only [execOp, ho, e1, e2]
    simp only [Sem.run_bind, this, Result.andThen_ok, Sem.run_pure]
  · exact (go_fail h4).elim

theorem un_ok {A : Amb} {o : Oper} {S : St} {kl : List Nat} {op : UnOp} {T : Nat} {x : Operand} (ho : o.op = .unOp op T x) {d : DV} {os os' : List (Ora P Φ)} {R D}
    (h : (unE op x : RD P Φ DV).go S os = some (d, R, D, os')) (a : Act) (w : World) (bo : Nat → Option Nat) (σ : Nat → Value) (hR : Rel A S a.tmps w bo σ kl) :
    ∃ v, (execOp a.eval o).run P w = .ok (.value v) w ∧ RV (A.env S w bo σ) d v ∧ ∀ p ∈ refs d, p ∈ kl := by
  obtain ⟨dx, R1, D1, os1, R2, D2, h1, h2, rfl, rfl⟩ := go_bind _ _ h
  obtain ⟨k1, -, rfl, -⟩ := opd_ok hR h1
  split at h2
  · rename_i b
    obtain ⟨rfl, _, _, _⟩ := go_ret h2
    simp only [RV, RV1, RV0] at k1
    refine ⟨.bool (!b), ?_, by simp [RV, RV1, RV0], fun p hp => by simp [refs, refs1, refs0] at hp⟩
    simp [execOp, ho, k1, Op.unary]
  · split at h2
    · rename_i vx hx
      obtain ⟨v, hv, hok, rfl, _⟩ := resE_ok h2
      have e1 := toV_ok hx k1
      refine ⟨v, ?_, rv_ofR _ v hok, fun p hp => by rw [refs_ofR] at hp; cases hp⟩
      have := evP_run _ hv w
      simp only [execOp, ho, e1]
      simp only [Sem.run_bind, this, Result.andThen_ok, Sem.run_pure]
    · exact (go_fail h2).elim

theorem conv_ok {A : Amb} {o : Oper} {S : St} {kl : List Nat} {s t : Nat} {x : Operand} (ho : o.op = .convert s t x) {d : DV} {os os' : List (Ora P Φ)} {R D}
    (h : (convE s t x : RD P Φ DV).go S os = some (d, R, D, os')) (a : Act) (w : World) (bo : Nat → Option Nat) (σ : Nat → Value) (hR : Rel A S a.tmps w bo σ kl) :
    ∃ v, (execOp a.eval o).run P w = .ok (.value v) w ∧ RV (A.env S w bo σ) d v ∧ ∀ p ∈ refs d, p ∈ kl := by
  obtain ⟨dx, R1, D1, os1, R2, D2, h1, h2, rfl, rfl⟩ := go_bind _ _ h
  obtain ⟨k1, -, rfl, -⟩ := opd_ok hR h1
  split at h2
  · rename_i vx hx
    obtain ⟨v, hv, hok, rfl, _⟩ := resE_ok h2
    have e1 := toV_ok hx k1
    refine ⟨v, ?_, rv_ofR _ v hok, fun p hp => by rw [refs_ofR] at hp; cases hp⟩
    have := evP_run _ hv w
    simp only [execOp, ho, e1]
    simp only [Sem.run_bind, this, Result.andThen_ok, Sem.run_pure]
  · exact (go_fail h2).elim

theorem rv_int {E : Env} {k : IntKind} {n : Int} {x : Value} (h : RV E (.v (.int k n)) x) : x = .int k n := h

theorem div_ok {A : Amb} {o : Oper} {S : St} {kl : List Nat} {quo : Bool} {T yT : Nat} {x y : Operand} (ho : o.op = .binOp (if quo then .quo else .rem) T x y yT) {d : DV} {os os' : List (Ora P Φ)} {R D}
    (h : (divE quo x y : RD P Φ DV).go S os = some (d, R, D, os')) (hs : ∀ d ∈ D, Sat P Φ d) (a : Act) (w : World) (bo : Nat → Option Nat) (σ : Nat → Value) (hR : Rel A S a.tmps w bo σ kl) :
    ∃ v, (execOp a.eval o).run P w = .ok (.value v) w ∧ RV (A.env S w bo σ) d v ∧ ∀ p ∈ refs d, p ∈ kl := by
  obtain ⟨dx, R1, D1, os1, R2, D2, h1, h2, rfl, rfl⟩ := go_bind _ _ h
  obtain ⟨dy, R3, D3, os3, R4, D4, h3, h4, rfl, rfl⟩ := go_bind _ _ h2
  obtain ⟨k1, rfl, rfl, -⟩ := opd_ok hR h1
  obtain ⟨k2, rfl, rfl, -⟩ := opd_ok hR h3
  split at h4
  · rename_i k vx k' vy
    split at h4
    · rename_i hk
      have hk' : k = k' := by simpa using hk
      subst hk'
      cases os3 with
      | nil => simp [RD.go] at h4
      | cons q os3 =>
        simp only [RD.go] at h4
        cases h4
        have hz : vy ≠ 0 := hs (.nz vy) (by simp)
        have e1 := rv_int k1
        have e2 := rv_int k2
        refine ⟨_, ?_, rfl, fun p hp => by simp [refs, refs1, refs0] at hp⟩
        cases quo <;> simp [execOp, ho, e1, e2, eqGuard, binOp, Op.intDiv, hz]
    · exact (go_fail h4).elim
  · exact (go_fail h4).elim

theorem toVals_ok {E : Env} : ∀ {ds : List DV} {vs : List Value}, toVals ds = some vs → ∀ {xs : List Value}, xs.length = ds.length → (∀ j, j < ds.length → RV E (ds.getD j .un) (xs.getD j undef')) → xs = vs
  | [], vs, h, xs, hl, _ => by simp [toVals] at h; subst h; exact List.eq_nil_of_length_eq_zero hl
  | d :: ds, vs, h, xs, hl, hr => by
    simp only [toVals] at h
    split at h
    · rename_i x ys h1 h2
      cases h
      cases xs with
      | nil => simp at hl
      | cons v xs =>
        have e1 := toV_ok h1 (by simpa using hr 0 (by simp))
        have e2 := toVals_ok h2 (xs := xs) (by simpa using hl) (fun j hj => by simpa using hr (j + 1) (by simpa using hj))
        rw [e1, e2]
    · cases h

theorem max_ok {A : Amb} {o : Oper} {S : St} {kl : List Nat} {m : Bool} {c : Call} (ho : o.op = .call c) (hc : c.callee = .builtin (if m then .max else .min)) {d : DV} {os os' : List (Ora P Φ)} {R D}
    (h : (maxE m c.argTypes o.type c.args.toList : RD P Φ DV).go S os = some (d, R, D, os')) (a : Act) (w : World) (bo : Nat → Option Nat) (σ : Nat → Value) (hR : Rel A S a.tmps w bo σ kl) :
    ∃ v, (execOp a.eval o).run P w = .ok (.value v) w ∧ RV (A.env S w bo σ) d v ∧ ∀ p ∈ refs d, p ∈ kl := by
  obtain ⟨ds, R1, D1, os1, R2, D2, h1, h2, rfl, rfl⟩ := go_bind _ _ h
  obtain ⟨k0, _, rfl, k1, _⟩ := opds_ok hR h1
  split at h2
  · rename_i vs hvs
    obtain ⟨v, hv, hok, rfl, _⟩ := resE_ok h2
    have e1 := toVals_ok hvs (xs := c.args.toList.map a.eval) (by simp [k0]) (fun j hj => k1 j (by rw [← k0]; exact hj))
    have e2 : c.args.map a.eval = vs.toArray := by apply Array.ext'; simpa using e1
    refine ⟨v, ?_, rv_ofR _ v hok, fun p hp => by rw [refs_ofR] at hp; cases hp⟩
    have := evP_run _ hv w
    cases m
    · have h3 : (Builtin.min_ c.argTypes o.type vs.toArray).run P w = .ok v w := this
      simp [execOp, ho, hc, resolve, invoke, builtin, e2, h3]
    · have h3 : (Builtin.max_ c.argTypes o.type vs.toArray).run P w = .ok v w := this
      simp [execOp, ho, hc, resolve, invoke, builtin, e2, h3]
  · exact (go_fail h2).elim


theorem nil_ok {A : Amb} {o : Oper} {S : St} {kl : List Nat} {x : Operand} (ho : o.op = .nilCheck x) {d : DV} {os os' : List (Ora P Φ)} {R D}
    (h : ((opd x).bind (fun d => match d with | .bx k off => .ret (.bx k off) | _ => .fail) : RD P Φ DV).go S os = some (d, R, D, os')) (a : Act) (w : World) (bo : Nat → Option Nat) (σ : Nat → Value) (hR : Rel A S a.tmps w bo σ kl) :
    ∃ v, (execOp a.eval o).run P w = .ok (.value v) w ∧ RV (A.env S w bo σ) d v ∧ ∀ p ∈ refs d, p ∈ kl := by
  obtain ⟨dx, R1, D1, os1, R2, D2, h1, h2, rfl, rfl⟩ := go_bind _ _ h
  obtain ⟨k1, -, rfl, k2⟩ := opd_ok hR h1
  split at h2
  · obtain ⟨rfl, -, -, -⟩ := go_ret h2
    refine ⟨a.eval x, ?_, k1, k2⟩
    obtain ⟨b, -, hx⟩ := k1
    simp [execOp, ho, hx]
  · exact (go_fail h2).elim

theorem extract_ok {A : Amb} {o : Oper} {S : St} {kl : List Nat} {x : Operand} {j : Nat} (ho : o.op = .extract x j) {d : DV} {os os' : List (Ora P Φ)} {R D}
    (h : ((opd x).bind (fun d => match d with | .tu vs => ofO vs[j]? | _ => .fail) : RD P Φ DV).go S os = some (d, R, D, os')) (a : Act) (w : World) (bo : Nat → Option Nat) (σ : Nat → Value) (hR : Rel A S a.tmps w bo σ kl) :
    ∃ v, (execOp a.eval o).run P w = .ok (.value v) w ∧ RV (A.env S w bo σ) d v ∧ ∀ p ∈ refs d, p ∈ kl := by
  obtain ⟨dx, R1, D1, os1, R2, D2, h1, h2, rfl, rfl⟩ := go_bind _ _ h
  obtain ⟨k1, -, rfl, k2⟩ := opd_ok hR h1
  split at h2
  · rename_i vs
    obtain ⟨hj, -⟩ := go_ofO h2
    obtain ⟨xs, hx, hl, hv⟩ := k1
    have hlt : j < vs.length := by
      rcases Nat.lt_or_ge j vs.length with h | h
      · exact h
      · rw [List.getElem?_eq_none h] at hj; cases hj
    have hd : vs.getD j .un = d := by simp [List.getD_eq_getElem?_getD, hj]
    have h3 := hv j hlt
    rw [hd] at h3
    obtain ⟨y, hy⟩ : ∃ y, xs[j]? = some y := ⟨xs[j]'(by omega), List.getElem?_eq_getElem (by omega)⟩
    have hyy : xs.getD j undef' = y := by simp [List.getD_eq_getElem?_getD, hy]
    rw [hyy] at h3
    refine ⟨y, ?_, ?_, fun p hp => k2 p ?_⟩
    · simp [execOp, ho, hx, Instr.extract, hy]
    · cases d with
      | tu ws => exact (show False from h3).elim
      | _ => exact h3
    · simp only [refs, List.mem_flatMap]
      have hm : d ∈ vs := List.mem_of_getElem? hj
      refine ⟨d, hm, ?_⟩
      cases d with
      | tu ws => exact (show False from h3).elim
      | _ => exact hp
  · exact (go_fail h2).elim

/-! memory -/
theorem tsize_run {T n : Nat} (h : tsize P T = some n) (w : World) : (sizeOf T).run P w = .ok n w := by
  unfold tsize at h
  cases hi : P.info? T with
  | none => rw [hi] at h; cases h
  | some i => rw [hi] at h; cases h; simp [sizeOf, typeInfo, hi]

theorem agg_run {T : Nat} {g : Bool} (h : tagg P T = some g) (w : World) : (isAgg T).run P w = .ok g w := by
  unfold tagg at h
  unfold isAgg underlying
  simp only [Sem.run_bind, run_program, Result.andThen_ok]
  cases hu : P.underlying T with
  | none => rw [hu] at h; cases h
  | some d =>
    rw [hu] at h
    cases d <;> simp at h <;> subst h <;> simp

theorem run_loadCells (a : Addr) (f : Nat → Value) : ∀ (n i : Nat) (acc : Array Value) (w : World), (∀ j, j < n → w.cell? (a.add (i + j)) = some (f j)) →
    (loadCellsFrom a i n acc).run P w = .ok (acc ++ ((List.range n).map f).toArray) w
  | 0, i, acc, w, _ => by simp [loadCellsFrom]
  | n + 1, i, acc, w, h => by
    have h0 : w.cell? (a.add i) = some (f 0) := by simpa using h 0 (by omega)
    have ih := run_loadCells a (fun j => f (j + 1)) n (i + 1) (acc.push (f 0)) w (fun j hj => by have := h (j + 1) (by omega); rw [show i + 1 + j = i + (j + 1) from by omega]; exact this)
    have hl : (load (a.add i)).run P w = .ok (f 0) w := by simp [load, Sem.run, h0]
    simp only [loadCellsFrom, Sem.run_bind, hl, Result.andThen_ok, ih]
    rw [List.range_succ_eq_map]
    simp [Function.comp_def]

/-- a load of cells that are known -/
theorem run_load_cells {T n : Nat} {g : Bool} (hn : tsize P T = some n) (hg : tagg P T = some g) (a : Addr) (f : Nat → Value) (w : World) (h : ∀ j, j < n → w.cell? (a.add j) = some (f j)) (hpos : g = false → 0 < n) :
    (loadVar T a).run P w = .ok (if g then .agg ((List.range n).map f).toArray else f 0) w := by
  unfold loadVar
  simp only [Sem.run_bind, agg_run hg, Result.andThen_ok]
  cases g with
  | true =>
    simp only [if_true]
    simp only [Sem.run_bind, tsize_run hn, Result.andThen_ok, loadCells]
    rw [run_loadCells a f n 0 #[] w (fun j hj => by rw [Nat.zero_add]; exact h j hj)]
    simp
  | false =>
    simp only [Bool.false_eq_true, if_false]
    have h0 := h 0 (hpos rfl)
    have : a.add 0 = a := by simp [Addr.add]
    rw [this] at h0
    simp [load, Sem.run, h0]

theorem pickC_spec {T : Nat} {cs : List DV} {off : Nat} {d : DV} (h : pickC P T cs off = some d) :
    ∃ n g, tsize P T = some n ∧ tagg P T = some g ∧ off + n ≤ cs.length ∧ 0 < n ∧ ((g = true ∧ d = .ag ((cs.drop off).take n)) ∨ (g = false ∧ cs[off]? = some d)) := by
  unfold pickC at h
  split at h
  · rename_i n g hn hg
    split at h
    · rename_i hle
      refine ⟨n, g, hn, hg, hle.1, hle.2, ?_⟩
      cases g with
      | true => simp at h; exact .inl ⟨rfl, h.symm⟩
      | false => simp at h; exact .inr ⟨rfl, by simpa using h⟩
    · cases h
  · cases h

theorem add_add (a : Addr) (i j : Nat) : (a.add i).add j = a.add (i + j) := by
  unfold Addr.add
  by_cases hi : i = 0 <;> by_cases hj : j = 0 <;> simp [hi, hj, Nat.add_assoc]

theorem add_mk (b o j : Nat) : (⟨b, o, none⟩ : Addr).add j = ⟨b, o + j, none⟩ := by unfold Addr.add; split <;> simp_all

/-- loading what is picked out of cells that lie from 'a' on -/
theorem run_pick {E : Env} {T : Nat} {cs : List DV} {off : Nat} {d : DV} (h : pickC P T cs off = some d) (a : Addr) (f : Nat → Value)
    (hc : ∀ j, j < cs.length → E.w.cell? (a.add j) = some (f j) ∧ RV0 E (cs.getD j .un) (f j) ∧ (f j).oneCell' = true) :
    ∃ v, (loadVar T (a.add off)).run P E.w = .ok v E.w ∧ RV E d v ∧ ∀ p ∈ refs d, ∃ e ∈ cs, p ∈ refs0 e := by
  obtain ⟨n, g, hn, hg, hle, hpos, hd⟩ := pickC_spec h
  have hrun := run_load_cells (P := P) hn hg (a.add off) (fun j => f (off + j)) E.w (fun j hj => by rw [add_add]; exact (hc (off + j) (by omega)).1) (fun _ => hpos)
  refine ⟨_, hrun, ?_, ?_⟩
  · rcases hd with ⟨rfl, rfl⟩ | ⟨rfl, hd⟩
    · simp only [if_true, RV, RV1]
      refine ⟨_, rfl, by simp; omega, fun j hj => ?_⟩
      have hjn : j < n := by simp at hj; omega
      have h1 : ((cs.drop off).take n).getD j .un = cs.getD (off + j) .un := by
        simp [List.getD_eq_getElem?_getD, hjn, List.getElem?_drop]
      have h2 : (List.map (fun j => f (off + j)) (List.range n)).getD j undef' = f (off + j) := by
        simp [List.getD_eq_getElem?_getD, hjn]
      rw [h1, h2]
      exact (hc (off + j) (by omega)).2
    · simp only [Bool.false_eq_true, if_false, Nat.add_zero]
      have h1 := (hc off (by omega)).2.1
      have h2 : cs.getD off .un = d := by simp [List.getD_eq_getElem?_getD, hd]
      rw [h2] at h1
      cases d with
      | ag ws => exact (show False from h1).elim
      | tu ws => exact (show False from h1).elim
      | _ => exact h1
  · intro p hp
    rcases hd with ⟨rfl, rfl⟩ | ⟨rfl, hd⟩
    · simp only [refs, refs1, List.mem_flatMap] at hp
      obtain ⟨e, he, hp⟩ := hp
      exact ⟨e, List.mem_of_mem_drop (List.mem_of_mem_take he), hp⟩
    · have h1 := (hc off (by omega)).2.1
      have h2 : cs.getD off .un = d := by simp [List.getD_eq_getElem?_getD, hd]
      rw [h2] at h1
      refine ⟨d, List.mem_of_getElem? hd, ?_⟩
      cases d with
      | ag ws => exact (show False from h1).elim
      | tu ws => exact (show False from h1).elim
      | _ => exact hp

end Go.Eng
