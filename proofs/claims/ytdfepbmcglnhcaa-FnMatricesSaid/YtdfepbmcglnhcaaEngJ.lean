import Derived.Test.YtdfepbmcglnhcaaEngI
set_option linter.unusedSimpArgs false
set_option linter.unusedVariables false
/-! Soundness, 7: new boxes, addresses, lengths, values built. -/
namespace Go.Eng
open Go
variable {P : Program} {Φ : List It → St → Prop}

theorem Keep.new (w : World) (o : Obj) (X : Nat → Prop) : Keep w { w with heap := w.heap.push o } X :=
  ⟨rfl, rfl, rfl, by simp, fun k hk _ => by simp [Array.getElem?_push]; omega⟩

def upd {α : Type} (f : Nat → α) (t : Nat) (v : α) (o : Nat) : α := if o = t then v else f o

theorem upd_same {α : Type} (f : Nat → α) (t : Nat) (v : α) : upd f t v t = v := by simp [upd]
theorem upd_ne {α : Type} (f : Nat → α) {t o : Nat} (v : α) (h : o ≠ t) : upd f t v o = f o := by simp [upd, h]

/-- a new object in a new block -/
theorem Rel.new {A : Amb} {S : St} {tm : Array Value} {w : World} {bo : Nat → Option Nat} {σ : Nat → Value} {kl : List Nat} (hR : Rel A S tm w bo σ kl) (t : Nat) (d : DV) (x : Ob) (v : Value) (ob : Obj) (sv : Value)
    (ht : t ∉ kl) (hd : ∀ o ∈ refs d, o = t) (hx : ∀ p ∈ orefs x, p ∈ kl)
    (hv : ∀ E : Env, E.bo t = some w.heap.size → E.σ t = sv → RV E d v)
    (hob : ∀ E' : Env, E'.w = { w with heap := w.heap.push ob } → (∀ k, okS A S w bo k → E'.ok k) → E'.bo t = some w.heap.size → E'.σ t = sv → (∀ p ∈ kl, E'.bo p = bo p ∧ E'.σ p = σ p) → ObOk E' t x) :
    Rel A (S.app ⟨[(t, d)], [(t, some x)], [t]⟩) (putT tm (some t) v) { w with heap := w.heap.push ob } (upd bo t (some w.heap.size)) (upd σ t sv) ([t] ++ kl) := by
  have hobj : (S.app ⟨[(t, d)], [(t, some x)], [t]⟩).obj t = some x := by rw [app_obj]; simp [wrOb]
  have hnone : S.obj t = none := by
    cases h : S.obj t with
    | none => rfl
    | some y => exact absurd (hR.orf t y h).1 ht
  have hbo : ∀ o ∈ kl, upd bo t (some w.heap.size) o = bo o ∧ upd σ t sv o = σ o := by
    intro o ho
    have : o ≠ t := fun e => ht (e ▸ ho)
    exact ⟨upd_ne _ _ this, upd_ne _ _ this⟩
  refine hR.step _ (some t) v (Keep.new w ob _) hbo (.inr ⟨t, d, rfl, rfl, ?_, fun o ho => by rw [hd o ho]; simp⟩) ?_ (fun o1 o2 x1 x2 b1 h1 h2 _ _ _ _ => by simp at h1 h2; rw [h1, h2])
  · exact hv _ (upd_same _ _ _) (upd_same _ _ _)
  · intro o y ho hy
    simp at ho; subst ho
    rw [hobj] at hy; cases hy
    refine ⟨hob _ rfl (fun k hk => ?_) (upd_same _ _ _) (upd_same _ _ _) hbo, by simp, fun p hp => List.mem_append.2 (.inr (hx p hp)), fun b hb => ?_⟩
    · obtain ⟨h1, h2, h3⟩ := hk
      refine ⟨by simp; omega, h2, fun o' x' hx' hb' => ?_⟩
      rw [app_obj] at hx'
      by_cases he : o' = o
      · subst he
        rw [upd_same] at hb'
        have := Option.some.inj hb'
        omega
      · rw [wrOb_not (by simp; exact he)] at hx'
        rw [upd_ne _ _ he] at hb'
        exact h3 o' x' hx' hb'
    · rw [upd_same] at hb
      have := Option.some.inj hb
      subst this
      exact ⟨by simp, fun h => absurd h (by omega)⟩

theorem oneD_ofV0 (y : Value) (h : y.oneCell' = true) : oneD (ofV0 y) = true := by
  unfold ofV0; split <;> simp [oneD, h]

theorem ofV_one {z : Value} (hok : okV z = true) : (cellsOf (ofV z)).all oneD = true := by
  cases z with
  | agg cs =>
    rw [List.all_eq_true]
    intro d hdm
    simp only [ofV, cellsOf, List.mem_map] at hdm
    obtain ⟨y, hy, rfl⟩ := hdm
    simp only [okV, List.all_eq_true] at hok
    exact oneD_ofV0 y (hok y hy)
  | bool b => rfl
  | slice a n c => cases a <;> cases n <;> cases c <;> rfl
  | tuple vs => simp [okV, Value.oneCell'] at hok
  | _ => rfl

/-- a box of the cells of a value -/
theorem Rel.box {A : Amb} {S : St} {tm : Array Value} {w : World} {bo : Nat → Option Nat} {σ : Nat → Value} {kl : List Nat} (hR : Rel A S tm w bo σ kl) (t T : Nat) (d : DV) (x : Value)
    (ht : t ∉ kl) (hd : ∀ o ∈ refs d, o ∈ kl) (hone : (cellsOf d).all oneD = true) (hx : RV (A.env S w bo σ) d x) :
    Rel A (S.app ⟨[(t, .bx t 0)], [(t, some (.box (cellsOf d)))], [t]⟩) (putT tm (some t) (.pointer (some ⟨w.heap.size, 0, none⟩))) { w with heap := w.heap.push (.cells x.cells T) }
      (upd bo t (some w.heap.size)) (upd σ t undef') ([t] ++ kl) := by
  have hrefs : ∀ j, j < (cellsOf d).length → ∀ q ∈ refs0 ((cellsOf d).getD j .un), q ∈ kl := by
    intro j hj q hq
    refine hd q ?_
    cases d with
    | ag cs =>
      simp only [refs, refs1, List.mem_flatMap]
      exact ⟨_, getD_mem cs j _ hj, hq⟩
    | tu ws => simp [cellsOf] at hj; subst hj; simp [cellsOf, refs0] at hq
    | _ => simp [cellsOf] at hj; subst hj; exact hq
  obtain ⟨c1, c2⟩ := cells_rel hx hone
  refine hR.new t (.bx t 0) _ _ _ undef' ht (fun o ho => by simpa [refs, refs1, refs0] using ho) ?_ (fun E h1 h2 => ⟨_, h1, rfl⟩) ?_
  · intro p hp
    simp only [orefs, List.mem_flatMap] at hp
    obtain ⟨e, he, hp⟩ := hp
    obtain ⟨j, hj, rfl⟩ := List.getElem_of_mem he
    refine hrefs j hj p ?_
    have : (cellsOf d).getD j .un = (cellsOf d)[j] := by simp [List.getD_eq_getElem?_getD, hj]
    rw [this]; exact hp
  · intro E' hw hok' hb hs hkl
    refine ⟨w.heap.size, T, x.cells.toList, hb, by rw [hw]; simp, c1, fun j hj => ⟨RV0.mono (c2 j hj).1 (fun k hk => ⟨hok' k hk, ?_⟩) fun o ho => hkl o (hrefs j hj o ho), (c2 j hj).2⟩⟩
    rw [hw]
    have : k < w.heap.size := hk.1
    simp [Amb.env, Array.getElem?_push]; omega

theorem alloc_ok {A : Amb} {o : Oper} {S : St} {kl : List Nat} {T : Nat} (ho : o.op = .alloc T) {u : Upd} {os os' : List (Ora P Φ)} {R D}
    (h : (match o.dst, tzero P T with
      | some t, some z => if okV z then .ret ⟨[(t, .bx t 0)], [(t, some (.box (cellsOf (ofV z))))], [t]⟩ else .fail
      | _, _ => .fail : RD P Φ Upd).go S os = some (u, R, D, os')) : OpOk P A o S u kl := by
  intro a w bo σ hR hnew K Q hK
  split at h
  · rename_i t z hd hz
    by_cases hok : okV z = true
    · rw [if_pos hok] at h
      obtain ⟨rfl, -, -, -⟩ := go_ret h
      have hz' : (zeroValue T).run P w = .ok z w := by
        unfold tzero at hz
        split at hz
        · rename_i i hi
          simp [zeroValue, typeInfo, hi, hz]
        · cases hz
      have hrun : (execOp a.eval o).run P w = .ok (.value (.pointer (some ⟨w.heap.size, 0, none⟩))) { w with heap := w.heap.push (.cells z.cells T) } := by
        simp [execOp, ho, Instr.alloc, newVar, newRow, hz']
      refine wp_value hrun ?_
      rw [hd] at hK ⊢
      exact hK _ _ _ _ (hR.box t T (ofV z) z (hnew t (by simp)) (fun o ho => by rw [refs_ofV] at ho; cases ho) (ofV_one hok) (rv_ofV _ z hok))
    · rw [if_neg hok] at h; exact (go_fail h).elim
  · exact (go_fail h).elim

theorem box_ok {A : Amb} {o : Oper} {S : St} {kl : List Nat} {T : Nat} {x : Operand} (ho : o.op = .box T x) {u : Upd} {os os' : List (Ora P Φ)} {R D}
    (h : ((opd x).bind fun d => match o.dst with
      | some t => if (cellsOf d).all oneD then .ret ⟨[(t, .bx t 0)], [(t, some (.box (cellsOf d)))], [t]⟩ else .fail
      | none => .fail : RD P Φ Upd).go S os = some (u, R, D, os')) : OpOk P A o S u kl := by
  intro a w bo σ hR hnew K Q hK
  obtain ⟨d, R1, D1, os1, R2, D2, h1, h2, rfl, rfl⟩ := go_bind _ _ h
  obtain ⟨k1, -, rfl, k2⟩ := opd_ok hR h1
  split at h2
  · rename_i t hd
    by_cases hok : (cellsOf d).all oneD = true
    · rw [if_pos hok] at h2
      obtain ⟨rfl, -, -, -⟩ := go_ret h2
      have hrun : (execOp a.eval o).run P w = .ok (.value (.pointer (some ⟨w.heap.size, 0, none⟩))) { w with heap := w.heap.push (.cells (a.eval x).cells T) } := by
        simp [execOp, ho, Instr.box, newVar, newRow]
      refine wp_value hrun ?_
      rw [hd] at hK ⊢
      exact hK _ _ _ _ (hR.box t T d (a.eval x) (hnew t (by simp)) k2 hok k1)
    · rw [if_neg hok] at h2; exact (go_fail h2).elim
  · exact (go_fail h2).elim

/-! addresses -/
theorem place_struct {T f off s : Nat} {fs : Array Field} (hu : P.underlying T = some (.struct fs)) (h : place P T f = some (off, s)) : ∃ fd, fs[f]? = some fd ∧ fd.offset = off ∧ tsize P fd.type = some s := by
  unfold place at h
  rw [hu] at h
  simp only at h
  split at h
  · rename_i fd hfd
    cases hs : tsize P fd.type with
    | none => rw [hs] at h; cases h
    | some s' => rw [hs] at h; cases h; exact ⟨fd, hfd, rfl, hs⟩
  · cases h

theorem place_array {T f off s n e : Nat} (hu : P.underlying T = some (.array n e)) (h : place P T f = some (off, s)) : f < n ∧ off = f * s ∧ tsize P e = some s := by
  unfold place at h
  rw [hu] at h
  simp only at h
  split at h
  · rename_i hlt
    cases hs : tsize P e with
    | none => rw [hs] at h; cases h
    | some s' => rw [hs] at h; cases h; exact ⟨hlt, rfl, rfl⟩
  · cases h

/-- a field's address: from an address on to one that lies 'off' further -/
theorem fieldE_ok {E : Env} {S : St} {T f : Nat} {d d' : DV} {x : Value} {os os' : List (Ora P Φ)} {R D} (h : (fieldE T f d : RD P Φ DV).go S os = some (d', R, D, os')) (hx : RV E d x) :
    ∃ off s ad, place P T f = some (off, s) ∧ s ≠ 0 ∧ x = .pointer (some ad) ∧ RV E d' (.pointer (some (ad.add off))) ∧ refs d' = refs d ∧ D = [] := by
  unfold fieldE at h
  split at h
  · rename_i off s hp
    split at h
    · exact (go_fail h).elim
    · rename_i hs
      have hs' : s ≠ 0 := by simpa using hs
      split at h
      · rename_i k o1
        obtain ⟨rfl, -, rfl, -⟩ := go_ret h
        obtain ⟨b, h1, rfl⟩ := hx
        exact ⟨off, s, _, hp, hs', rfl, ⟨b, h1, by rw [add_mk]⟩, rfl, rfl⟩
      · rename_i cs o1
        obtain ⟨rfl, -, rfl, -⟩ := go_ret h
        obtain ⟨a0, h1, rfl, h3⟩ := hx
        exact ⟨off, s, _, hp, hs', rfl, ⟨a0, h1, by rw [add_add], h3⟩, rfl, rfl⟩
      · rename_i k i esz o1
        obtain ⟨rfl, -, rfl, -⟩ := go_ret h
        obtain ⟨b, h1, rfl⟩ := hx
        exact ⟨off, s, _, hp, hs', rfl, ⟨b, h1, by rw [add_mk, Nat.add_assoc]⟩, rfl, rfl⟩
      · exact (go_fail h).elim
  · exact (go_fail h).elim

theorem under_run {T : Nat} {d : TypeDesc} (h : P.underlying T = some d) (w : World) : (underlying T).run P w = .ok d w := by
  simp [underlying, h]

theorem field_ok {A : Amb} {o : Oper} {S : St} {kl : List Nat} {T f : Nat} {x : Operand} (ho : o.op = .fieldAddr T x f) {d : DV} {os os' : List (Ora P Φ)} {R D}
    (h : (match P.underlying T with
      | some (.struct _) => (opd x).bind fun d => fieldE T f d
      | _ => .fail : RD P Φ DV).go S os = some (d, R, D, os')) (a : Act) (w : World) (bo : Nat → Option Nat) (σ : Nat → Value) (hR : Rel A S a.tmps w bo σ kl) :
    ∃ v, (execOp a.eval o).run P w = .ok (.value v) w ∧ RV (A.env S w bo σ) d v ∧ ∀ p ∈ refs d, p ∈ kl := by
  split at h
  · rename_i fs hu
    obtain ⟨dx, R1, D1, os1, R2, D2, h1, h2, rfl, rfl⟩ := go_bind _ _ h
    obtain ⟨k1, -, rfl, k2⟩ := opd_ok hR h1
    obtain ⟨off, s, ad, hp, hs, hx, hv, hrf, -⟩ := fieldE_ok h2 k1
    obtain ⟨fd, hfd, rfl, hsz⟩ := place_struct hu hp
    refine ⟨_, ?_, hv, fun p hp => k2 p (by rw [← hrf]; exact hp)⟩
    simp [execOp, ho, Instr.fieldAt, under_run hu, hfd, hx, Instr.sureAddr, fieldPlace, tsize_run hsz, hs]
  · exact (go_fail h).elim

theorem intOfD_ok {S : St} {d : DV} {n : Int} {os os' : List (Ora P Φ)} {R D} (h : (intOfD d : RD P Φ Int).go S os = some (n, R, D, os')) : (∃ k, d = .v (.int k n)) ∧ D = [] ∧ os' = os := by
  unfold intOfD at h
  split at h
  · rename_i k m
    obtain ⟨rfl, -, rfl, rfl⟩ := go_ret h
    exact ⟨⟨k, rfl⟩, rfl, rfl⟩
  · exact (go_fail h).elim

theorem index_arr {A : Amb} {o : Oper} {S : St} {kl : List Nat} {T : Nat} {x i : Operand} (ho : o.op = .indexAddr T x i) {k : Nat} {off j : Nat} {d : DV} {os os' : List (Ora P Φ)} {R D}
    (h : (indexE.placeE T j (.bx k off) : RD P Φ DV).go S os = some (d, R, D, os')) (a : Act) (w : World) (bo : Nat → Option Nat) (σ : Nat → Value) (hR : Rel A S a.tmps w bo σ kl)
    (hx : RV (A.env S w bo σ) (.bx k off) (a.eval x)) (hkk : ∀ p ∈ refs (.bx k off), p ∈ kl) {kd : IntKind} {n : Int} (hi : a.eval i = .int kd n) (hn : 0 ≤ n) (hj : n.toNat = j) :
    ∃ v, (execOp a.eval o).run P w = .ok (.value v) w ∧ RV (A.env S w bo σ) d v ∧ ∀ p ∈ refs d, p ∈ kl := by
  unfold indexE.placeE at h
  split at h
  · rename_i len e hu
    obtain ⟨off', s, ad, hp, hs, hx', hv, hrf, -⟩ := fieldE_ok h hx
    obtain ⟨hlt, rfl, hsz⟩ := place_array hu hp
    refine ⟨_, ?_, hv, fun p hp => hkk p (by rw [← hrf]; exact hp)⟩
    have hcond : 0 ≤ n ∧ n < (len : Int) := by omega
    simp [execOp, ho, Instr.indexAt, under_run hu, hx', hi, asIntOf, Instr.sureAddr, hcond, tsize_run hsz, hj]
  · exact (go_fail h).elim

end Go.Eng
