import Derived.Test.YtdfepbmcglnhcaaGreatPtEA
import Derived.Laws.Tables
import Derived.Laws.AppendOwn
import Derived.Laws.OwnMore
section
set_option linter.unusedSimpArgs false
set_option linter.unusedVariables false
/-! Soundness, 7: new boxes, addresses, lengths, values built. -/
namespace Go.Eng
open Go
variable {P : Program} {Φ : List It → St → Prop}

theorem Keep.new (w : World) (o : Obj) (X : Nat → Prop) : Keep w { w with heap := w.heap.push o } X :=
  ⟨rfl, rfl, rfl, by simp, fun k hk _ => by simp [Array.getElem?_push]; omega⟩

def upd {α : Type} (f : Nat → α) (t : Nat) (v : α) (o : Nat) : α := if o = t then v else f o

theorem upd_same {α : Type} (f : Nat → α) (t : Nat) (v : α) : upd f t v t = v := by simp [upd]
theorem upd_ne {α : Type} (f : Nat → α) {t o : Nat} (v : α) (h : o ≠ t) : upd f t v o = f o := by simp [upd, h]

/-- a new object in a new block -/
theorem Rel.new {A : Amb} {S : St} {tm : Array Value} {w : World} {bo : Nat → Option Nat} {σ : Nat → Value} {kl : List Nat} (hR : Rel A S tm w bo σ kl) (t : Nat) (d : DV) (x : Ob) (v : Value) (ob : Obj) (sv : Value)
    (ht : t ∉ kl) (hd : ∀ o ∈ refs d, o = t) (hx : ∀ p ∈ orefs x, p ∈ kl)
    (hv : ∀ E : Env, E.bo t = some w.heap.size → E.σ t = sv → RV E d v)
    (hob : ∀ E' : Env, E'.w = { w with heap := w.heap.push ob } → (∀ k, okS A S w bo k → E'.ok k) → E'.bo t = some w.heap.size → E'.σ t = sv → (∀ p ∈ kl, E'.bo p = bo p ∧ E'.σ p = σ p) → ObOk E' t x) :
    Rel A (S.app ⟨[(t, d)], [(t, some x)], [t]⟩) (putT tm (some t) v) { w with heap := w.heap.push ob } (upd bo t (some w.heap.size)) (upd σ t sv) ([t] ++ kl) := by
  have hobj : (S.app ⟨[(t, d)], [(t, some x)], [t]⟩).obj t = some x := by rw [app_obj]; simp [wrOb]
  have hnone : S.obj t = none := by
    cases h : S.obj t with
    | none => rfl
    | some y => exact absurd (hR.orf t y h).1 ht
  have hbo : ∀ o ∈ kl, upd bo t (some w.heap.size) o = bo o ∧ upd σ t sv o = σ o := by
    intro o ho
    have : o ≠ t := fun e => ht (e ▸ ho)
    exact ⟨upd_ne _ _ this, upd_ne _ _ this⟩
  refine hR.step _ (some t) v (Keep.new w ob _) hbo (.inr ⟨t, d, rfl, rfl, ?_, fun o ho => by rw [hd o ho]; simp⟩) ?_ (fun o1 o2 x1 x2 b1 h1 h2 _ _ _ _ => by simp at h1 h2; rw [h1, h2])
  · exact hv _ (upd_same _ _ _) (upd_same _ _ _)
  · intro o y ho hy
    simp at ho; subst ho
    rw [hobj] at hy; cases hy
    refine ⟨hob _ rfl (fun k hk => ?_) (upd_same _ _ _) (upd_same _ _ _) hbo, by simp, fun p hp => List.mem_append.2 (.inr (hx p hp)), fun b hb => ?_⟩
    · obtain ⟨h1, h2, h3⟩ := hk
      refine ⟨by simp; omega, h2, fun o' x' hx' hb' => ?_⟩
      rw [app_obj] at hx'
      by_cases he : o' = o
      · subst he
        rw [upd_same] at hb'
        have := Option.some.inj hb'
        omega
      · rw [wrOb_not (by simp; exact he)] at hx'
        rw [upd_ne _ _ he] at hb'
        exact h3 o' x' hx' hb'
    · rw [upd_same] at hb
      have := Option.some.inj hb
      subst this
      exact ⟨by simp, fun h => absurd h (by omega)⟩

theorem oneD_ofV0 (y : Value) (h : y.oneCell' = true) : oneD (ofV0 y) = true := by
  unfold ofV0; split <;> simp [oneD, h]

theorem ofV_one {z : Value} (hok : okV z = true) : (cellsOf (ofV z)).all oneD = true := by
  cases z with
  | agg cs =>
    rw [List.all_eq_true]
    intro d hdm
    simp only [ofV, cellsOf, List.mem_map] at hdm
    obtain ⟨y, hy, rfl⟩ := hdm
    simp only [okV, List.all_eq_true] at hok
    exact oneD_ofV0 y (hok y hy)
  | bool b => rfl
  | slice a n c => cases a <;> cases n <;> cases c <;> rfl
  | tuple vs => simp [okV, Value.oneCell'] at hok
  | _ => rfl

/-- a box of the cells of a value -/
theorem Rel.box {A : Amb} {S : St} {tm : Array Value} {w : World} {bo : Nat → Option Nat} {σ : Nat → Value} {kl : List Nat} (hR : Rel A S tm w bo σ kl) (t T : Nat) (d : DV) (x : Value)
    (ht : t ∉ kl) (hd : ∀ o ∈ refs d, o ∈ kl) (hone : (cellsOf d).all oneD = true) (hx : RV (A.env S w bo σ) d x) :
    Rel A (S.app ⟨[(t, .bx t 0)], [(t, some (.box (cellsOf d)))], [t]⟩) (putT tm (some t) (.pointer (some ⟨w.heap.size, 0, none⟩))) { w with heap := w.heap.push (.cells x.cells T) }
      (upd bo t (some w.heap.size)) (upd σ t undef') ([t] ++ kl) := by
  have hrefs : ∀ j, j < (cellsOf d).length → ∀ q ∈ refs0 ((cellsOf d).getD j .un), q ∈ kl := by
    intro j hj q hq
    refine hd q ?_
    cases d with
    | ag cs =>
      simp only [refs, refs1, List.mem_flatMap]
      exact ⟨_, getD_mem cs j _ hj, hq⟩
    | tu ws => simp [cellsOf] at hj; subst hj; simp [cellsOf, refs0] at hq
    | _ => simp [cellsOf] at hj; subst hj; exact hq
  obtain ⟨c1, c2⟩ := cells_rel hx hone
  refine hR.new t (.bx t 0) _ _ _ undef' ht (fun o ho => by simpa [refs, refs1, refs0] using ho) ?_ (fun E h1 h2 => ⟨_, h1, rfl⟩) ?_
  · intro p hp
    simp only [orefs, List.mem_flatMap] at hp
    obtain ⟨e, he, hp⟩ := hp
    obtain ⟨j, hj, rfl⟩ := List.getElem_of_mem he
    refine hrefs j hj p ?_
    have : (cellsOf d).getD j .un = (cellsOf d)[j] := by simp [List.getD_eq_getElem?_getD, hj]
    rw [this]; exact hp
  · intro E' hw hok' hb hs hkl
    refine ⟨w.heap.size, T, x.cells.toList, hb, by rw [hw]; simp, c1, fun j hj => ⟨RV0.mono (c2 j hj).1 (fun k hk => ⟨hok' k hk, ?_⟩) fun o ho => hkl o (hrefs j hj o ho), (c2 j hj).2⟩⟩
    rw [hw]
    have : k < w.heap.size := hk.1
    simp [Amb.env, Array.getElem?_push]; omega

theorem alloc_ok {A : Amb} {o : Oper} {S : St} {kl : List Nat} {T : Nat} (ho : o.op = .alloc T) {u : Upd} {os os' : List (Ora P Φ)} {R D}
    (h : (match o.dst, tzero P T with
      | some t, some z => if okV z then .ret ⟨[(t, .bx t 0)], [(t, some (.box (cellsOf (ofV z))))], [t]⟩ else .fail
      | _, _ => .fail : RD P Φ Upd).go S os = some (u, R, D, os')) : OpOk P A o S u kl := by
  intro a w bo σ hR hnew K Q hK
  split at h
  · rename_i t z hd hz
    by_cases hok : okV z = true
    · rw [if_pos hok] at h
      obtain ⟨rfl, -, -, -⟩ := go_ret h
      have hz' : (zeroValue T).run P w = .ok z w := by
        unfold tzero at hz
        split at hz
        · rename_i i hi
          simp [zeroValue, typeInfo, hi, hz]
        · cases hz
      have hrun : (execOp a.eval o).run P w = .ok (.value (.pointer (some ⟨w.heap.size, 0, none⟩))) { w with heap := w.heap.push (.cells z.cells T) } := by
        simp [execOp, ho, Instr.alloc, newVar, newRow, hz']
      refine wp_value hrun ?_
      rw [hd] at hK ⊢
      exact hK _ _ _ _ (hR.box t T (ofV z) z (hnew t (by simp)) (fun o ho => by rw [refs_ofV] at ho; cases ho) (ofV_one hok) (rv_ofV _ z hok))
    · rw [if_neg hok] at h; exact (go_fail h).elim
  · exact (go_fail h).elim

theorem box_ok {A : Amb} {o : Oper} {S : St} {kl : List Nat} {T : Nat} {x : Operand} (ho : o.op = .box T x) {u : Upd} {os os' : List (Ora P Φ)} {R D}
    (h : ((opd x).bind fun d => match o.dst with
      | some t => if (cellsOf d).all oneD then .ret ⟨[(t, .bx t 0)], [(t, some (.box (cellsOf d)))], [t]⟩ else .fail
      | none => .fail : RD P Φ Upd).go S os = some (u, R, D, os')) : OpOk P A o S u kl := by
  intro a w bo σ hR hnew K Q hK
  obtain ⟨d, R1, D1, os1, R2, D2, h1, h2, rfl, rfl⟩ := go_bind _ _ h
  obtain ⟨k1, -, rfl, k2⟩ := opd_ok hR h1
  split at h2
  · rename_i t hd
    by_cases hok : (cellsOf d).all oneD = true
    · rw [if_pos hok] at h2
      obtain ⟨rfl, -, -, -⟩ := go_ret h2
      have hrun : (execOp a.eval o).run P w = .ok (.value (.pointer (some ⟨w.heap.size, 0, none⟩))) { w with heap := w.heap.push (.cells (a.eval x).cells T) } := by
        simp [execOp, ho, Instr.box, newVar, newRow]
      refine wp_value hrun ?_
      rw [hd] at hK ⊢
      exact hK _ _ _ _ (hR.box t T d (a.eval x) (hnew t (by simp)) k2 hok k1)
    · rw [if_neg hok] at h2; exact (go_fail h2).elim
  · exact (go_fail h2).elim

/-! addresses -/
theorem place_struct {T f off s : Nat} {fs : Array Field} (hu : P.underlying T = some (.struct fs)) (h : place P T f = some (off, s)) : ∃ fd, fs[f]? = some fd ∧ fd.offset = off ∧ tsize P fd.type = some s := by
  unfold place at h
  rw [hu] at h
  simp only at h
  split at h
  · rename_i fd hfd
    cases hs : tsize P fd.type with
    | none => rw [hs] at h; cases h
    | some s' => rw [hs] at h; cases h; exact ⟨fd, hfd, rfl, hs⟩
  · cases h

theorem place_array {T f off s n e : Nat} (hu : P.underlying T = some (.array n e)) (h : place P T f = some (off, s)) : f < n ∧ off = f * s ∧ tsize P e = some s := by
  unfold place at h
  rw [hu] at h
  simp only at h
  split at h
  · rename_i hlt
    cases hs : tsize P e with
    | none => rw [hs] at h; cases h
    | some s' => rw [hs] at h; cases h; exact ⟨hlt, rfl, rfl⟩
  · cases h

/-- a field's address: from an address on to one that lies 'off' further -/
theorem fieldE_ok {E : Env} {S : St} {T f : Nat} {d d' : DV} {x : Value} {os os' : List (Ora P Φ)} {R D} (h : (fieldE T f d : RD P Φ DV).go S os = some (d', R, D, os')) (hx : RV E d x) :
    ∃ off s ad, place P T f = some (off, s) ∧ s ≠ 0 ∧ x = .pointer (some ad) ∧ RV E d' (.pointer (some (ad.add off))) ∧ refs d' = refs d ∧ D = [] := by
  unfold fieldE at h
  split at h
  · rename_i off s hp
    split at h
    · exact (go_fail h).elim
    · rename_i hs
      have hs' : s ≠ 0 := by simpa using hs
      split at h
      · rename_i k o1
        obtain ⟨rfl, -, rfl, -⟩ := go_ret h
        obtain ⟨b, h1, rfl⟩ := hx
        exact ⟨off, s, _, hp, hs', rfl, ⟨b, h1, by rw [add_mk]⟩, rfl, rfl⟩
      · rename_i cs o1
        obtain ⟨rfl, -, rfl, -⟩ := go_ret h
        obtain ⟨a0, h1, rfl, h3⟩ := hx
        exact ⟨off, s, _, hp, hs', rfl, ⟨a0, h1, by rw [add_add], h3⟩, rfl, rfl⟩
      · rename_i k i esz o1
        obtain ⟨rfl, -, rfl, -⟩ := go_ret h
        obtain ⟨b, h1, rfl⟩ := hx
        exact ⟨off, s, _, hp, hs', rfl, ⟨b, h1, by rw [add_mk, Nat.add_assoc]⟩, rfl, rfl⟩
      · exact (go_fail h).elim
  · exact (go_fail h).elim

theorem under_run {T : Nat} {d : TypeDesc} (h : P.underlying T = some d) (w : World) : (underlying T).run P w = .ok d w := by
  simp [underlying, h]

theorem field_ok {A : Amb} {o : Oper} {S : St} {kl : List Nat} {T f : Nat} {x : Operand} (ho : o.op = .fieldAddr T x f) {d : DV} {os os' : List (Ora P Φ)} {R D}
    (h : (match P.underlying T with
      | some (.struct _) => (opd x).bind fun d => fieldE T f d
      | _ => .fail : RD P Φ DV).go S os = some (d, R, D, os')) (a : Act) (w : World) (bo : Nat → Option Nat) (σ : Nat → Value) (hR : Rel A S a.tmps w bo σ kl) :
    ∃ v, (execOp a.eval o).run P w = .ok (.value v) w ∧ RV (A.env S w bo σ) d v ∧ ∀ p ∈ refs d, p ∈ kl := by
  split at h
  · rename_i fs hu
    obtain ⟨dx, R1, D1, os1, R2, D2, h1, h2, rfl, rfl⟩ := go_bind _ _ h
    obtain ⟨k1, -, rfl, k2⟩ := opd_ok hR h1
    obtain ⟨off, s, ad, hp, hs, hx, hv, hrf, -⟩ := fieldE_ok h2 k1
    obtain ⟨fd, hfd, rfl, hsz⟩ := place_struct hu hp
    refine ⟨_, ?_, hv, fun p hp => k2 p (by rw [← hrf]; exact hp)⟩
    simp [execOp, ho, Instr.fieldAt, under_run hu, hfd, hx, Instr.sureAddr, fieldPlace, tsize_run hsz, hs]
  · exact (go_fail h).elim

theorem intOfD_ok {S : St} {d : DV} {n : Int} {os os' : List (Ora P Φ)} {R D} (h : (intOfD d : RD P Φ Int).go S os = some (n, R, D, os')) : (∃ k, d = .v (.int k n)) ∧ D = [] ∧ os' = os := by
  unfold intOfD at h
  split at h
  · rename_i k m
    obtain ⟨rfl, -, rfl, rfl⟩ := go_ret h
    exact ⟨⟨k, rfl⟩, rfl, rfl⟩
  · exact (go_fail h).elim

theorem index_arr {A : Amb} {o : Oper} {S : St} {kl : List Nat} {T : Nat} {x i : Operand} (ho : o.op = .indexAddr T x i) {k : Nat} {off j : Nat} {d : DV} {os os' : List (Ora P Φ)} {R D}
    (h : (indexE.placeE T j (.bx k off) : RD P Φ DV).go S os = some (d, R, D, os')) (a : Act) (w : World) (bo : Nat → Option Nat) (σ : Nat → Value) (hR : Rel A S a.tmps w bo σ kl)
    (hx : RV (A.env S w bo σ) (.bx k off) (a.eval x)) (hkk : ∀ p ∈ refs (.bx k off), p ∈ kl) {kd : IntKind} {n : Int} (hi : a.eval i = .int kd n) (hn : 0 ≤ n) (hj : n.toNat = j) :
    ∃ v, (execOp a.eval o).run P w = .ok (.value v) w ∧ RV (A.env S w bo σ) d v ∧ ∀ p ∈ refs d, p ∈ kl := by
  unfold indexE.placeE at h
  split at h
  · rename_i len e hu
    obtain ⟨off', s, ad, hp, hs, hx', hv, hrf, -⟩ := fieldE_ok h hx
    obtain ⟨hlt, rfl, hsz⟩ := place_array hu hp
    refine ⟨_, ?_, hv, fun p hp => hkk p (by rw [← hrf]; exact hp)⟩
    have hcond : 0 ≤ n ∧ n < (len : Int) := by omega
    simp [execOp, ho, Instr.indexAt, under_run hu, hx', hi, asIntOf, Instr.sureAddr, hcond, tsize_run hsz, hj]
  · exact (go_fail h).elim

end Go.Eng
end
section
set_option linter.unusedSimpArgs false
set_option linter.unusedVariables false
/-! Soundness, 8: elements, lengths, values built. -/
namespace Go.Eng
open Go
variable {P : Program} {Φ : List It → St → Prop}

theorem elemT_spec {T e : Nat} (h : elemT P T = some e) : P.underlying T = some (.slice e) := by
  unfold elemT at h
  split at h
  · rename_i e' hu; cases h; exact hu
  · cases h

theorem index_ok {A : Amb} {o : Oper} {S : St} {kl : List Nat} {T : Nat} {x i : Operand} (ho : o.op = .indexAddr T x i) {d : DV} {os os' : List (Ora P Φ)} {R D}
    (h : ((opd x).bind fun d => (opd i).bind fun e => (intOfD e).bind fun n => indexE T i d n : RD P Φ DV).go S os = some (d, R, D, os')) (hs : ∀ d ∈ D, Sat P Φ d)
    (a : Act) (w : World) (bo : Nat → Option Nat) (σ : Nat → Value) (hR : Rel A S a.tmps w bo σ kl) :
    ∃ v, (execOp a.eval o).run P w = .ok (.value v) w ∧ RV (A.env S w bo σ) d v ∧ ∀ p ∈ refs d, p ∈ kl := by
  obtain ⟨dx, R1, D1, os1, R2, D2, h1, h2, rfl, rfl⟩ := go_bind _ _ h
  obtain ⟨di, R3, D3, os3, R4, D4, h3, h4, rfl, rfl⟩ := go_bind _ _ h2
  obtain ⟨n, R5, D5, os5, R6, D6, h5, h6, rfl, rfl⟩ := go_bind _ _ h4
  obtain ⟨k1, rfl, rfl, k2⟩ := opd_ok hR h1
  obtain ⟨k3, rfl, rfl, -⟩ := opd_ok hR h3
  obtain ⟨⟨kd, rfl⟩, rfl, rfl⟩ := intOfD_ok h5
  have hi : a.eval i = .int kd n := k3
  unfold indexE at h6
  split at h6
  · rename_i k off
    split at h6
    · split at h6
      · rename_i hn
        exact index_arr ho h6 a w bo σ hR k1 k2 hi hn rfl
      · exact (go_fail h6).elim
    · obtain ⟨q, os6, rfl, h7⟩ := go_peek h6
      split at h7
      · rename_i n' m hnm
        split at h7
        · rename_i hm
          obtain ⟨_, os7, D7, -, h8, rfl⟩ := go_req h7
          have : n = m := hs (.num n m) (by simp)
          subst this
          exact index_arr ho h8 a w bo σ hR k1 k2 hi hm rfl
        · exact (go_fail h7).elim
      · exact (go_fail h7).elim
  · rename_i k
    obtain ⟨x', R7, hx, h7, -⟩ := go_obj h6
    split at h7
    · rename_i fl T' esz n' L
      split at h7
      · rename_i hc
        simp only [Bool.and_eq_true, beq_iff_eq] at hc
        obtain ⟨q, os6, rfl, h8⟩ := go_peek h7
        obtain ⟨_, os7, D7, -, h9, rfl⟩ := go_req h8
        obtain ⟨rfl, -, -, -⟩ := go_ret h9
        have hib : 0 ≤ n ∧ n < (n' : Int) := hs (.ib n n') (by simp)
        obtain ⟨g1, g2, g3, g4, g5, vs, ⟨g6, hown⟩, g7⟩ := hR.ob k _ hx
        obtain ⟨hσ, A', n2, c2, hsl⟩ := k1
        rcases hown with ⟨-, h0⟩ | ⟨g, cap, cur, hv, hg0, hh, hnc, -, hcs2, htk⟩
        · omega
        · rw [hσ] at hv
          have hbo : bo k = some g := by
            have e : bo k = (σ k).ownBlock := g5
            have e2 : σ k = a.eval x := hσ
            rw [e, e2, hv]; rfl
          have hu := elemT_spec hc.1
          refine ⟨.pointer (some ⟨g, n.toNat * esz, none⟩), ?_, ⟨g, hbo, by simp⟩, fun p hp => k2 p ?_⟩
          · simp [execOp, ho, Instr.indexAt, under_run hu, hv, hi, asIntOf, hib, tsize_run hc.2, add_mk]
          · simpa [refs, refs1, refs0] using hp
      · exact (go_fail h7).elim
    · exact (go_fail h7).elim
  · rename_i fl esz n' L
    split at h6
    · rename_i T' hT
      split at h6
      · rename_i hsz
        have hsz : tsize P T' = some esz := by simpa using hsz
        obtain ⟨q, os6, rfl, h7⟩ := go_peek h6
        split at h7
        · rename_i i' L1 cs hel
          obtain ⟨_, os7, D7, -, h8, rfl⟩ := go_req h7
          obtain ⟨rfl, -, -, -⟩ := go_ret h8
          have hsat : 0 ≤ n ∧ L[n.toNat]? = some cs := hs (.el n L cs) (by simp)
          have hu := elemT_spec hT
          generalize hax : a.eval x = ax at k1
          have k1' : RP w (okS A S w bo) (.ro fl esz n' L) ax := k1
          cases k1' with
          | ro _ _ _ _ Ad c ad f hL hc hm hA he hf hr h1' hp =>
            have hlt : n.toNat < n' := by
              rw [← hL]
              rcases Nat.lt_or_ge n.toNat L.length with h | h
              · exact h
              · have := hsat.2; rw [List.getElem?_eq_none h] at this; cases this
            rcases hA with h0 | ⟨rfl, hok⟩
            · omega
            · have hcs : cs.length = esz := he cs (List.mem_of_getElem? hsat.2)
              have hLd : L.getD n.toNat [] = cs := by simp [List.getD_eq_getElem?_getD, hsat.2]
              refine ⟨.pointer (some (ad.add (n.toNat * esz))), ?_, ⟨ad.add (n.toNat * esz), by rw [add_block]; exact hok, by simp [Addr.add], fun j hj => ?_⟩, fun p hp => by simp [refs, refs1, refs0] at hp⟩
              · have hcond : 0 ≤ n ∧ n < (n' : Int) := by omega
                simp [execOp, ho, Instr.indexAt, under_run hu, hax, hi, asIntOf, hcond, tsize_run hsz]
              · have h9 := hp n.toNat j hlt (by omega)
                rw [hLd] at h9
                exact ⟨f n.toNat j, by rw [add_add]; exact hr n.toNat j hlt (by omega), h1' n.toNat j hlt (by omega), h9⟩
        · exact (go_fail h7).elim
      · exact (go_fail h6).elim
    · exact (go_fail h6).elim
  · exact (go_fail h6).elim

/-- a row, and the value that tells it -/
theorem rowOf_ok {A : Amb} {S : St} {tm : Array Value} {w : World} {bo : Nat → Option Nat} {σ : Nat → Value} {kl : List Nat} (hR : Rel A S tm w bo σ kl) {d : DV} {x : Value} (hx : RV (A.env S w bo σ) d x)
    {fl : Bool} {esz n : Nat} {L : List (List DV)} {os os' : List (Ora P Φ)} {R D} (h : (rowOf d : RD P Φ (Bool × Nat × Nat × List (List DV))).go S os = some ((fl, esz, n, L), R, D, os')) :
    D = [] ∧ os' = os ∧ L.length = n ∧ (∀ l ∈ L, l.length = esz) ∧ (fl = true → ∀ l ∈ L, ∀ d ∈ l, flatD d = true) ∧
      ∃ Ad c, x = .slice Ad n c ∧ (n = 0 ∨ ∃ (ad : Addr) (f : Nat → Nat → Value), Ad = some ad ∧ (∀ i j, i < n → j < esz → w.cell? (ad.add (i * esz + j)) = some (f i j) ∧ (f i j).oneCell' = true ∧ RP w (okS A S w bo) ((L.getD i []).getD j .un) (f i j))) := by
  unfold rowOf at h
  split at h
  · rename_i fl' esz' n' L'
    obtain ⟨he, -, rfl, rfl⟩ := go_ret h
    cases he
    have hx' : RP w (okS A S w bo) (.ro fl esz n L) x := hx
    cases hx' with
    | ro _ _ _ _ Ad c ad f hL hc hm hA he hf hr h1' hp =>
      refine ⟨rfl, rfl, hL, he, hf, Ad, c, rfl, ?_⟩
      rcases hA with h0 | ⟨rfl, hok⟩
      · exact .inl h0
      · exact .inr ⟨ad, f, rfl, fun i j hi hj => ⟨hr i j hi hj, h1' i j hi hj, hp i j hi hj⟩⟩
  · rename_i o
    obtain ⟨x', R7, hx', h7, -⟩ := go_obj h
    split at h7
    · rename_i fl' T' esz' n' L'
      obtain ⟨he, -, rfl, rfl⟩ := go_ret h7
      cases he
      obtain ⟨g1, g2, g3, g4, g5, vs, ⟨g6, hown⟩, g7⟩ := hR.ob o _ hx'
      obtain ⟨hσ, -⟩ := hx
      have hσ' : σ o = x := hσ
      rcases hown with ⟨hv, h0⟩ | ⟨g, cap, cur, hv, hg0, hh, hnc, -, hcs2, htk⟩
      · have hv' : σ o = .slice none 0 0 := hv
        refine ⟨rfl, rfl, g1, g3, g4, none, 0, ?_, .inl h0⟩
        rw [← hσ', hv', h0]
      · have hv' : σ o = .slice (some ⟨g, 0, none⟩) n cap := hv
        have hh' : w.heap[g]? = some (.cells cur T' (0, 0)) := hh
        refine ⟨rfl, rfl, g1, g3, g4, some ⟨g, 0, none⟩, cap, by rw [← hσ', hv'], .inr ⟨⟨g, 0, none⟩, fun i j => vs.getD (i * esz + j) undef', rfl, fun i j hi hj => ⟨?_, (g7 i j hi hj).2, (g7 i j hi hj).1⟩⟩⟩
        have hlt : i * esz + j < n * esz := by
          have : (i + 1) * esz ≤ n * esz := Nat.mul_le_mul_right esz (by omega)
          have : (i + 1) * esz = i * esz + esz := Nat.succ_mul i esz
          omega
        have hns : n * esz ≤ cap * esz := Nat.mul_le_mul_right esz hnc
        have e1 : vs.getD (i * esz + j) undef' = cur[i * esz + j]?.getD undef' := by
          rw [← htk]
          simp [List.getD_eq_getElem?_getD, List.getElem?_take, hlt]
        rw [add_mk, Nat.zero_add]
        show _ = some (vs.getD (i * esz + j) undef')
        rw [e1]
        have hsz : i * esz + j < cur.size := by omega
        simp [World.cell?, hh', hsz]
    · exact (go_fail h7).elim
  · exact (go_fail h).elim

theorem len_ok {A : Amb} {o : Oper} {S : St} {kl : List Nat} {c : Call} {x : Operand} {T : Nat} (ho : o.op = .call c) (hc : c.callee = .builtin .len) (hx : c.args.toList = [x]) (hT : c.argTypes.toList = [T]) {d : DV} {os os' : List (Ora P Φ)} {R D}
    (h : ((opd x).bind fun d => lenE T d : RD P Φ DV).go S os = some (d, R, D, os')) (a : Act) (w : World) (bo : Nat → Option Nat) (σ : Nat → Value) (hR : Rel A S a.tmps w bo σ kl) :
    ∃ v, (execOp a.eval o).run P w = .ok (.value v) w ∧ RV (A.env S w bo σ) d v ∧ ∀ p ∈ refs d, p ∈ kl := by
  obtain ⟨dx, R1, D1, os1, R2, D2, h1, h2, rfl, rfl⟩ := go_bind _ _ h
  obtain ⟨k1, rfl, rfl, k2⟩ := opd_ok hR h1
  have hargs : c.args = #[x] := by rw [← Array.toArray_toList (xs := c.args), hx]
  have hts : c.argTypes = #[T] := by rw [← Array.toArray_toList (xs := c.argTypes), hT]
  unfold lenE at h2
  split at h2
  · rename_i hu
    split at h2
    · rename_i s
      obtain ⟨rfl, -, -, -⟩ := go_ret h2
      have e : a.eval x = .string s := k1
      refine ⟨_, ?_, rfl, fun p hp => by simp [refs, refs1, refs0] at hp⟩
      simp [execOp, ho, hc, resolve, invoke, builtin, hargs, hts, Builtin.len_, e, under_run hu, goInt]
    · exact (go_fail h2).elim
  · rename_i e hu
    split at h2
    · obtain ⟨rfl, -, -, -⟩ := go_ret h2
      have e : a.eval x = .slice none 0 0 := k1
      refine ⟨_, ?_, rfl, fun p hp => by simp [refs, refs1, refs0] at hp⟩
      simp [execOp, ho, hc, resolve, invoke, builtin, hargs, hts, Builtin.len_, e, under_run hu, goInt]
    · obtain ⟨⟨fl, esz, n, L⟩, R3, D3, os3, R4, D4, h3, h4, rfl, rfl⟩ := go_bind _ _ h2
      obtain ⟨rfl, -, -, -⟩ := go_ret h4
      obtain ⟨-, -, -, -, -, Ad, cc, e, -⟩ := rowOf_ok hR k1 h3
      refine ⟨_, ?_, rfl, fun p hp => by simp [refs, refs1, refs0] at hp⟩
      simp [execOp, ho, hc, resolve, invoke, builtin, hargs, hts, Builtin.len_, e, under_run hu, goInt]
  · exact (go_fail h2).elim

/-! values built -/
theorem fold_set (l : List Value) : ∀ (off : Nat) (cs : Array Value) (k : Nat), ((l.zipIdx k).foldl (fun cs (p : Value × Nat) => cs.setIfInBounds (off + p.2) p.1) cs).toList.length = cs.size ∧
    ∀ j, ((l.zipIdx k).foldl (fun cs (p : Value × Nat) => cs.setIfInBounds (off + p.2) p.1) cs).toList.getD j undef' = if off + k ≤ j ∧ j < off + k + l.length ∧ j < cs.size then l.getD (j - (off + k)) undef' else cs.toList.getD j undef' := by
  induction l with
  | nil =>
    intro off cs k
    refine ⟨by simp, fun j => ?_⟩
    have : ¬ (off + k ≤ j ∧ j < off + k + ([] : List Value).length ∧ j < cs.size) := by simp; omega
    rw [if_neg this]; rfl
  | cons v l ih =>
    intro off cs k
    simp only [List.zipIdx_cons, List.foldl_cons]
    obtain ⟨h1, h2⟩ := ih off (cs.setIfInBounds (off + k) v) (k + 1)
    refine ⟨by rw [h1]; simp, fun j => ?_⟩
    rw [h2]
    simp only [Array.size_setIfInBounds, List.length_cons]
    by_cases hj : j = off + k
    · subst hj
      have h3 : ¬ (off + (k + 1) ≤ off + k ∧ off + k < off + (k + 1) + l.length ∧ off + k < cs.size) := by omega
      rw [if_neg h3]
      by_cases h4 : off + k < cs.size
      · have h5 : off + k ≤ off + k ∧ off + k < off + k + (l.length + 1) ∧ off + k < cs.size := by omega
        rw [if_pos h5]
        simp [List.getD_eq_getElem?_getD, Array.getElem?_setIfInBounds, h4]
      · have h5 : ¬ (off + k ≤ off + k ∧ off + k < off + k + (l.length + 1) ∧ off + k < cs.size) := by omega
        rw [if_neg h5]
        simp [List.getD_eq_getElem?_getD, Array.getElem?_setIfInBounds, h4]
    · have e1 : (cs.setIfInBounds (off + k) v).toList.getD j undef' = cs.toList.getD j undef' := by
        have : ¬ off + k = j := fun e => hj e.symm
        simp [List.getD_eq_getElem?_getD, Array.getElem?_setIfInBounds, this]
      rw [e1]
      by_cases h4 : off + (k + 1) ≤ j ∧ j < off + (k + 1) + l.length ∧ j < cs.size
      · have h5 : off + k ≤ j ∧ j < off + k + (l.length + 1) ∧ j < cs.size := by omega
        rw [if_pos h4, if_pos h5]
        have : j - (off + k) = (j - (off + (k + 1))) + 1 := by omega
        rw [this]; simp
      · have h5 : ¬ (off + k ≤ j ∧ j < off + k + (l.length + 1) ∧ j < cs.size) := by omega
        rw [if_neg h4, if_neg h5]

/-- cells of abstract values and of values go together -/
def CellsRel (E : Env) (cs : List DV) (vs : Array Value) : Prop :=
  vs.size = cs.length ∧ ∀ j, j < cs.length → RV0 E (cs.getD j .un) (vs.toList.getD j undef') ∧ (vs.toList.getD j undef').oneCell' = true

theorem fill_ok {E : Env} {T : Nat} {pl : Nat → Option (Nat × Nat)} (hpl : ∀ i p, place P T i = some p → pl i = some p) : ∀ {ps : List (Nat × DV)} {cs cs' : List DV} {vs : List Value} {xs : Array Value},
    buildC P T ps cs = some cs' → vs.length = ps.length → (∀ j, j < ps.length → RV E (ps.getD j default).2 (vs.getD j undef') ∧ (cellsOf (ps.getD j default).2).all oneD = true) → CellsRel E cs xs →
    ∃ xs', Instr.fill pl xs ((ps.map (·.1)).zip vs) = some xs' ∧ CellsRel E cs' xs'
  | [], cs, cs', vs, xs, h, _, _, hc => by
    simp only [buildC] at h; cases h
    exact ⟨xs, by simp [Instr.fill], hc⟩
  | (i, d) :: ps, cs, cs', vs, xs, h, hl, hv, hc => by
    cases vs with
    | nil => simp at hl
    | cons v vs =>
      simp only [buildC] at h
      split at h
      · rename_i off s hp
        split at h
        · rename_i hcond
          simp only [Bool.and_eq_true, beq_iff_eq, decide_eq_true_eq] at hcond
          obtain ⟨h1, h2⟩ := hv 0 (by simp)
          have h1' : RV E d v := by simpa using h1
          have h2' : (cellsOf d).all oneD = true := by simpa using h2
          obtain ⟨c1, c2⟩ := cells_rel h1' h2'
          have hsz : v.cells.size = s := by rw [← hcond.1, ← c1]; simp
          obtain ⟨f1, f2⟩ := fold_set v.cells.toList off xs 0
          have hnew : CellsRel E (setRange cs off (cellsOf d)) (v.cells.zipIdx.foldl (fun cs (p : Value × Nat) => cs.setIfInBounds (off + p.2) p.1) xs) := by
            have e : v.cells.zipIdx.foldl (fun cs (p : Value × Nat) => cs.setIfInBounds (off + p.2) p.1) xs = (v.cells.toList.zipIdx 0).foldl (fun cs (p : Value × Nat) => cs.setIfInBounds (off + p.2) p.1) xs := by
              rw [← Array.foldl_toList]; simp
            rw [e]
            refine ⟨by rw [← Array.length_toList, f1, setRange_len]; exact hc.1, fun j hj => ?_⟩
            rw [setRange_len] at hj
            rw [f2, setRange_get _ _ _ _ (by omega)]
            have hcv : v.cells.toList.length = (cellsOf d).length := c1
            by_cases hin : off ≤ j ∧ j < off + (cellsOf d).length
            · have h5 : off + 0 ≤ j ∧ j < off + 0 + v.cells.toList.length ∧ j < xs.size := by rw [hcv, hc.1]; omega
              rw [if_pos hin, if_pos h5]
              exact c2 (j - off) (by omega)
            · have h5 : ¬ (off + 0 ≤ j ∧ j < off + 0 + v.cells.toList.length ∧ j < xs.size) := by rw [hcv]; omega
              rw [if_neg hin, if_neg h5]
              exact hc.2 j hj
          obtain ⟨xs', r1, r2⟩ := fill_ok hpl h (by simpa using hl) (fun j hj => by simpa using hv (j + 1) (by simpa using hj)) hnew
          refine ⟨xs', ?_, r2⟩
          simp only [List.map_cons, List.zip_cons_cons, Instr.fill, hpl i _ hp]
          have hno : ¬ (v.cells.size ≠ s || decide (off + v.cells.size > xs.size)) = true := by
            rw [hsz, hc.1]; simp; omega
          rw [if_neg (by simpa using hno)]
          exact r1
        · cases h
      · cases h

end Go.Eng
end
section
set_option linter.unusedSimpArgs false
set_option linter.unusedVariables false
/-! Soundness, 9: values built, slices built and appended to. -/
namespace Go.Eng
open Go
variable {P : Program} {Φ : List It → St → Prop}

theorem mapM_get {fs : List Field} : ∀ {places : List (Nat × Nat)}, fs.mapM (fun f => (P.info? f.type).map fun i => (f.offset, i.size)) = some places → ∀ (j : Nat) (fd : Field) (s : Nat), fs[j]? = some fd → tsize P fd.type = some s → places[j]? = some (fd.offset, s) := by
  induction fs with
  | nil => intro places h j fd s hj; simp at hj
  | cons f fs ih =>
    intro places h j fd s hj hs
    simp only [List.mapM_cons, Option.bind_eq_bind, Option.pure_def] at h
    cases hi : P.info? f.type with
    | none => simp [hi] at h
    | some i =>
      cases hr : fs.mapM (fun f => (P.info? f.type).map fun i => (f.offset, i.size)) with
      | none => simp [hi, hr] at h
      | some rest =>
        simp [hi, hr] at h
        subst h
        cases j with
        | zero =>
          simp at hj; subst hj
          simp [tsize, hi] at hs
          simp [hs]
        | succ j => simpa using ih hr j fd s (by simpa using hj) hs

theorem mapM_some {fs : List Field} (h : fs.all (fun f => (P.info? f.type).isSome) = true) : ∃ places, fs.mapM (fun f => (P.info? f.type).map fun i => (f.offset, i.size)) = some places := by
  induction fs with
  | nil => exact ⟨[], rfl⟩
  | cons f fs ih =>
    simp only [List.all_cons, Bool.and_eq_true] at h
    obtain ⟨rest, hr⟩ := ih h.2
    obtain ⟨i, hi⟩ := Option.isSome_iff_exists.1 h.1
    exact ⟨(f.offset, i.size) :: rest, by simp [List.mapM_cons, hi, hr]⟩

theorem tzero_spec {T : Nat} {z : Value} (h : tzero P T = some z) : ∃ it, P.info? T = some it ∧ it.zero = some z := by
  unfold tzero at h
  split at h
  · rename_i i hi; exact ⟨i, hi, h⟩
  · cases h

theorem cellsRel_ofV (E : Env) {z : Value} (hok : okV z = true) : CellsRel E (cellsOf (ofV z)) z.cells := by
  obtain ⟨h1, h2⟩ := cells_rel (rv_ofV E z hok) (ofV_one hok)
  exact ⟨by rw [← h1]; simp, h2⟩

theorem build_ok {A : Amb} {o : Oper} {S : St} {kl : List Nat} {T : Nat} {ps : Array (Nat × Operand)} (ho : o.op = .build T ps) {d : DV} {os os' : List (Ora P Φ)} {R D}
    (h : ((opds (ps.toList.map (·.2))).bind fun ds => match tzero P T with
      | some z => if !okV z || !ds.all (fun d => (cellsOf d).all oneD) || !fieldsOk P T then .fail else (ofO (buildC P T ((ps.toList.map (·.1)).zip ds) (cellsOf (ofV z)))).bind fun cs => .ret (.ag cs)
      | none => .fail : RD P Φ DV).go S os = some (d, R, D, os')) (a : Act) (w : World) (bo : Nat → Option Nat) (σ : Nat → Value) (hR : Rel A S a.tmps w bo σ kl) :
    ∃ v, (execOp a.eval o).run P w = .ok (.value v) w ∧ RV (A.env S w bo σ) d v ∧ ∀ p ∈ refs d, p ∈ kl := by
  obtain ⟨ds, R1, D1, os1, R2, D2, h1, h2, rfl, rfl⟩ := go_bind _ _ h
  obtain ⟨k0, rfl, rfl, k1, k2⟩ := opds_ok hR h1
  split at h2
  · rename_i z hz
    by_cases hc : (!okV z || !ds.all (fun d => (cellsOf d).all oneD) || !fieldsOk P T) = true
    · rw [if_pos hc] at h2; exact (go_fail h2).elim
    · rw [if_neg hc] at h2
      simp only [Bool.or_eq_true, Bool.not_eq_true', not_or, Bool.not_eq_false] at hc
      obtain ⟨⟨hok, hone⟩, hfo⟩ := hc
      obtain ⟨cs, R3, D3, os3, R4, D4, h3, h4, rfl, rfl⟩ := go_bind _ _ h2
      obtain ⟨hb, -⟩ := go_ofO h3
      obtain ⟨rfl, -, -, -⟩ := go_ret h4
      obtain ⟨it, hit, hzz⟩ := tzero_spec hz
      have hone' : ∀ e ∈ ds, (cellsOf e).all oneD = true := by simpa [List.all_eq_true] using hone
      have hlen : ds.length = (ps.toList.map (·.1)).length := by rw [k0]; simp
      have hzipl : ((ps.toList.map (·.1)).zip ds).length = ds.length := by simp [List.length_zip, hlen]
      -- the machine's parts
      have hparts : (ps.map fun (i, x) => (i, a.eval x)).toList = (((ps.toList.map (·.1)).zip ds).map (·.1)).zip (ps.toList.map (fun p => a.eval p.2)) := by
        have e1 : ((ps.toList.map (·.1)).zip ds).map (·.1) = ps.toList.map (·.1) := by
          rw [List.map_fst_zip]; omega
        rw [e1]
        simp [List.zip_map', Array.toList_map]
      have hfill : ∀ pl : Nat → Option (Nat × Nat), (∀ i p, place P T i = some p → pl i = some p) → ∃ xs', Instr.fill pl z.cells ((ps.map fun (i, x) => (i, a.eval x)).toList) = some xs' ∧ CellsRel (A.env S w bo σ) cs xs' := by
        intro pl hpl
        rw [hparts]
        refine fill_ok hpl hb (by rw [hzipl, k0]; simp) (fun j hj => ?_) (cellsRel_ofV _ hok)
        rw [hzipl] at hj
        have e1 : (((ps.toList.map (·.1)).zip ds).getD j default).2 = ds.getD j .un := by
          have h1 : j < ds.length := hj
          have h2 : j < (ps.toList.map (·.1)).length := by omega
          have h3 : j < ((ps.toList.map (·.1)).zip ds).length := by omega
          simp only [List.getD_eq_getElem?_getD, List.getElem?_eq_getElem h3, List.getElem?_eq_getElem h1, Option.getD_some, List.getElem_zip]
        rw [e1]
        refine ⟨?_, hone' _ (getD_mem ds j _ hj)⟩
        have := k1 j (by rw [← k0]; exact hj)
        simpa [List.map_map, Function.comp_def] using this
      have hbuilt : ∃ xs', P.built T ((ps.map fun (i, x) => (i, a.eval x)).toList) = some xs' ∧ CellsRel (A.env S w bo σ) cs xs' := by
        unfold fieldsOk at hfo
        split at hfo
        · rename_i fs hu
          obtain ⟨places, hp⟩ := mapM_some hfo
          obtain ⟨xs', h1, h2⟩ := hfill (places.toArray[·]?) (fun i p hpl => by
            obtain ⟨off, s⟩ := p
            obtain ⟨fd, hfd, rfl, hs⟩ := place_struct hu hpl
            have := mapM_get hp i fd s (by simpa using hfd) hs
            simpa using this)
          exact ⟨xs', by unfold Program.built; simp only [hit, hu, hzz, hp]; exact h1, h2⟩
        · rename_i n e hu
          obtain ⟨ie, hie⟩ := Option.isSome_iff_exists.1 hfo
          obtain ⟨xs', h1, h2⟩ := hfill (fun i => some (i * ie.size, ie.size)) (fun i p hpl => by
            obtain ⟨off, s⟩ := p
            obtain ⟨-, rfl, hs⟩ := place_array hu hpl
            simp [tsize, hie] at hs
            simp [hs])
          exact ⟨xs', by unfold Program.built; simp only [hit, hu, hzz, hie]; exact h1, h2⟩
        · cases hfo
      obtain ⟨xs', hb1, hb2⟩ := hbuilt
      refine ⟨.agg xs', ?_, ⟨xs'.toList, by simp, by simpa using hb2.1, hb2.2⟩, fun p hp => ?_⟩
      · have := run_build (P := P) w T _ xs' hb1
        simp [execOp, ho, this]
      · simp only [refs, refs1, List.mem_flatMap] at hp
        obtain ⟨e, he, hp⟩ := hp
        -- cells come out of the parts or of the zero value
        have key : ∀ (qs : List (Nat × DV)) (c0 c1 : List DV), buildC P T qs c0 = some c1 → ∀ e ∈ c1, e ∈ c0 ∨ ∃ q ∈ qs, e ∈ cellsOf q.2 := by
          intro qs
          induction qs with
          | nil => intro c0 c1 h e he; simp only [buildC] at h; cases h; exact .inl he
          | cons q qs ih =>
            intro c0 c1 h e he
            obtain ⟨i, dq⟩ := q
            simp only [buildC] at h
            split at h
            · split at h
              · rename_i off s _ hcond
                simp only [Bool.and_eq_true, beq_iff_eq, decide_eq_true_eq] at hcond
                rcases ih _ _ h e he with h1 | ⟨q, hq, h1⟩
                · obtain ⟨j, hj, rfl⟩ := List.getElem_of_mem h1
                  have e1 : (setRange c0 off (cellsOf dq))[j] = (setRange c0 off (cellsOf dq)).getD j .un := by simp [List.getD_eq_getElem?_getD, hj]
                  have hj' : j < c0.length := by rw [setRange_len] at hj; exact hj
                  rw [e1, setRange_get _ _ _ _ (by omega)]
                  split
                  · exact .inr ⟨(i, dq), by simp, getD_mem (cellsOf dq) _ _ (by omega)⟩
                  · exact .inl (getD_mem _ _ _ hj')
                · exact .inr ⟨q, by simp [hq], h1⟩
              · cases h
            · cases h
        rcases key _ _ _ hb e he with h1 | ⟨q, hq, h1⟩
        · have : refs0 e = [] := by
            have h5 := refs_ofV z
            cases hzv : ofV z with
            | ag cs0 =>
              rw [hzv] at h1 h5
              simp only [refs, refs1, List.flatMap_eq_nil_iff] at h5
              exact h5 e h1
            | _ =>
              rw [hzv] at h1 h5
              simp only [cellsOf, List.mem_singleton] at h1
              subst h1; first | exact h5 | rfl
          rw [this] at hp; cases hp
        · have hqd : q.2 ∈ ds := (List.of_mem_zip hq).2
          refine k2 q.2 hqd p ?_
          cases hq2 : q.2 with
          | ag cs0 =>
            rw [hq2] at h1
            simp only [refs, refs1, List.mem_flatMap]
            exact ⟨e, h1, hp⟩
          | tu vs =>
            rw [hq2] at h1
            simp only [cellsOf, List.mem_singleton] at h1
            subst h1; simp [refs0] at hp
          | _ =>
            rw [hq2] at h1
            simp only [cellsOf, List.mem_singleton] at h1
            subst h1; exact hp
  · exact (go_fail h2).elim

end Go.Eng
end
section
set_option linter.unusedSimpArgs false
set_option linter.unusedVariables false
/-! Soundness, 10: slices built and appended to. -/
namespace Go.Eng
open Go
variable {P : Program} {Φ : List It → St → Prop}

/-- an own row, as one that is only read -/
theorem row_rp {A : Amb} {S : St} {w : World} {bo : Nat → Option Nat} {σ : Nat → Value} {o : Nat} {fl : Bool} {T esz n : Nat} {L : List (List DV)} {x : Value}
    (h : ObOk (A.env S w bo σ) o (.row fl T esz n L)) (hx : RV0 (A.env S w bo σ) (.ow o) x) {ok' : Nat → Prop} (h1 : ∀ k, okS A S w bo k → ok' k) (h2 : ∀ b, bo o = some b → ok' b) : RP w ok' (.ro fl esz n L) x := by
  obtain ⟨g1, g2, g3, g4, g5, vs, ⟨g6, hown⟩, g7⟩ := h
  obtain ⟨hσ, -⟩ := hx
  have hσ' : σ o = x := hσ
  rcases hown with ⟨hv, h0⟩ | ⟨g, cap, cur, hv, hg0, hh, hnc, hcm, hcs2, htk⟩
  · have hv' : σ o = .slice none 0 0 := hv
    rw [← hσ', hv', ← h0]
    subst h0
    exact .ro fl esz 0 L none 0 ⟨0, 0, none⟩ (fun _ _ => undef') g1 (Nat.le_refl _) (by simp [maxLen]) (.inl rfl) g3 g4 (fun i j hi => by omega) (fun i j hi => by omega) (fun i j hi => by omega)
  · have hv' : σ o = .slice (some ⟨g, 0, none⟩) n cap := hv
    have hh' : w.heap[g]? = some (.cells cur T (0, 0)) := hh
    have hbo : bo o = some g := by
      have e : bo o = (σ o).ownBlock := g5
      rw [e, hv']; rfl
    rw [← hσ', hv']
    refine .ro fl esz n L _ cap ⟨g, 0, none⟩ (fun i j => vs.getD (i * esz + j) undef') g1 hnc hcm (.inr ⟨rfl, h2 g hbo⟩) g3 g4 (fun i j hi hj => ?_) (fun i j hi hj => (g7 i j hi hj).2) (fun i j hi hj => (g7 i j hi hj).1.mono fun k hk => ⟨h1 k hk, rfl⟩)
    have hlt : i * esz + j < n * esz := by
      have : (i + 1) * esz ≤ n * esz := Nat.mul_le_mul_right esz (by omega)
      have : (i + 1) * esz = i * esz + esz := Nat.succ_mul i esz
      omega
    have hns : n * esz ≤ cap * esz := Nat.mul_le_mul_right esz hnc
    have e1 : vs.getD (i * esz + j) undef' = cur[i * esz + j]?.getD undef' := by
      rw [← htk]
      simp [List.getD_eq_getElem?_getD, List.getElem?_take, hlt]
    rw [add_mk, Nat.zero_add, e1]
    have hsz : i * esz + j < cur.size := by omega
    simp [World.cell?, hh', hsz]

theorem rpD_rp {E : Env} {d : DV} {x : Value} (hd : rpD d = true) (h : RV0 E d x) {ok' : Nat → Prop} (h1 : ∀ k, E.ok k → ok' k) : RP E.w ok' d x := by
  cases d <;> simp [rpD] at hd <;> simp only [RV0] at h
  · subst h; exact .v _
  · subst h; exact .lb _
  · subst h; exact .nl
  · exact h.mono fun k hk => ⟨h1 k hk, rfl⟩

theorem rp_nrm {w : World} {ok : Nat → Prop} {d : DV} {x : Value} (h : RP w ok d x) : RP w ok (nrm0 d) x := by
  cases h with
  | v x => exact .v x
  | lb b => exact .v _
  | nl => exact .nl
  | ro fl esz n L A c ad f hL hc hm hA he hf hr h1 hp => exact .ro fl esz n L A c ad f hL hc hm hA he hf hr h1 hp

theorem frz_ok {A : Amb} {S : St} {tm : Array Value} {w : World} {bo : Nat → Option Nat} {σ : Nat → Value} {kl : List Nat} (hR : Rel A S tm w bo σ kl) : ∀ {ds ds' : List DV} {ns : List Nat} {vs : List Value} {os os' : List (Ora P Φ)} {R D},
    (frz ds : RD P Φ (List DV × List Nat)).go S os = some ((ds', ns), R, D, os') → vs.length = ds.length → (∀ j, j < ds.length → RV0 (A.env S w bo σ) (ds.getD j .un) (vs.getD j undef')) →
    D = [] ∧ os' = os ∧ ds'.length = ds.length ∧ (∀ o ∈ ns, ∃ x, S.obj o = some x) ∧
      ∀ ok' : Nat → Prop, (∀ k, okS A S w bo k → ok' k) → (∀ o ∈ ns, ∀ b, bo o = some b → ok' b) → ∀ j, j < ds.length → RP w ok' (ds'.getD j .un) (vs.getD j undef')
  | [], ds', ns, vs, os, os', R, D, h, _, _ => by
    obtain ⟨he, -, rfl, rfl⟩ := go_ret h
    cases he
    exact ⟨rfl, rfl, rfl, fun o ho => (by cases ho), fun _ _ _ j hj => by simp at hj⟩
  | d :: l, ds', ns, vs, os, os', R, D, h, hl, hv => by
    simp only [frz] at h
    obtain ⟨⟨d', n1⟩, R1, D1, os1, R2, D2, h1, h2, rfl, rfl⟩ := go_bind _ _ h
    obtain ⟨⟨l', n2⟩, R3, D3, os3, R4, D4, h3, h4, rfl, rfl⟩ := go_bind _ _ h2
    obtain ⟨he, -, rfl, rfl⟩ := go_ret h4
    cases he
    cases vs with
    | nil => simp at hl
    | cons v vs =>
      have hv0 : RV0 (A.env S w bo σ) d v := by simpa using hv 0 (by simp)
      obtain ⟨rfl, rfl, q3, q4, q5⟩ := frz_ok hR h3 (vs := vs) (by simpa using hl) (fun j hj => by simpa using hv (j + 1) (by simpa using hj))
      have first : D1 = [] ∧ os' = os ∧ (∀ o ∈ n1, ∃ x, S.obj o = some x) ∧ ∀ ok' : Nat → Prop, (∀ k, okS A S w bo k → ok' k) → (∀ o ∈ n1, ∀ b, bo o = some b → ok' b) → RP w ok' d' v := by
        split at h1
        · rename_i o
          obtain ⟨x', R5, hx', h5, -⟩ := go_obj h1
          split at h5
          · obtain ⟨he, -, rfl, rfl⟩ := go_ret h5
            cases he
            exact ⟨rfl, rfl, fun o' ho' => by simp at ho'; subst ho'; exact ⟨_, hx'⟩, fun ok' k1 k2 => row_rp (hR.ob o _ hx') hv0 k1 (k2 o (by simp))⟩
          · exact (go_fail h5).elim
        · split at h1
          · rename_i hrp
            obtain ⟨he, -, rfl, rfl⟩ := go_ret h1
            cases he
            simp only [Bool.and_eq_true] at hrp
            exact ⟨rfl, rfl, fun o' ho' => by simp at ho', fun ok' k1 _ => rp_nrm (rpD_rp hrp.1 hv0 k1)⟩
          · exact (go_fail h1).elim
      obtain ⟨rfl, rfl, p3, p4⟩ := first
      refine ⟨rfl, rfl, by simp [q3], fun o ho => ?_, fun ok' k1 k2 j hj => ?_⟩
      · rcases List.mem_append.1 ho with h | h
        · exact p3 o h
        · exact q4 o h
      · cases j with
        | zero => simpa using p4 ok' k1 fun o ho => k2 o (List.mem_append.2 (.inl ho))
        | succ j => simpa using q5 ok' k1 (fun o ho => k2 o (List.mem_append.2 (.inr ho))) j (by simpa using hj)

theorem frzL_ok {A : Amb} {S : St} {tm : Array Value} {w : World} {bo : Nat → Option Nat} {σ : Nat → Value} {kl : List Nat} (hR : Rel A S tm w bo σ kl) : ∀ {L L' : List (List DV)} {ns : List Nat} {vss : List (List Value)} {os os' : List (Ora P Φ)} {R D},
    (frzL L : RD P Φ (List (List DV) × List Nat)).go S os = some ((L', ns), R, D, os') → vss.length = L.length →
    (∀ i, i < L.length → (vss.getD i []).length = (L.getD i []).length ∧ ∀ j, j < (L.getD i []).length → RV0 (A.env S w bo σ) ((L.getD i []).getD j .un) ((vss.getD i []).getD j undef')) →
    D = [] ∧ os' = os ∧ L'.length = L.length ∧ (∀ i, (L'.getD i []).length = (L.getD i []).length) ∧ (∀ o ∈ ns, ∃ x, S.obj o = some x) ∧
      ∀ ok' : Nat → Prop, (∀ k, okS A S w bo k → ok' k) → (∀ o ∈ ns, ∀ b, bo o = some b → ok' b) → ∀ i j, i < L.length → j < (L.getD i []).length → RP w ok' ((L'.getD i []).getD j .un) ((vss.getD i []).getD j undef')
  | [], L', ns, vss, os, os', R, D, h, _, _ => by
    obtain ⟨he, -, rfl, rfl⟩ := go_ret h
    cases he
    exact ⟨rfl, rfl, rfl, fun _ => rfl, fun o ho => (by cases ho), fun _ _ _ j _ hj => by simp at hj⟩
  | d :: l, L', ns, vss, os, os', R, D, h, hl, hv => by
    simp only [frzL] at h
    obtain ⟨⟨d', n1⟩, R1, D1, os1, R2, D2, h1, h2, rfl, rfl⟩ := go_bind _ _ h
    obtain ⟨⟨l', n2⟩, R3, D3, os3, R4, D4, h3, h4, rfl, rfl⟩ := go_bind _ _ h2
    obtain ⟨he, -, rfl, rfl⟩ := go_ret h4
    cases he
    cases vss with
    | nil => simp at hl
    | cons v vs =>
      have hv0 := hv 0 (by simp)
      simp only [List.getD_cons_zero] at hv0
      obtain ⟨rfl, rfl, q3, q3', q4, q5⟩ := frzL_ok hR h3 (vss := vs) (by simpa using hl) (fun j hj => by simpa using hv (j + 1) (by simpa using hj))
      obtain ⟨rfl, rfl, p2, p3, p4⟩ := frz_ok hR h1 hv0.1 hv0.2
      refine ⟨rfl, rfl, by simp [q3], fun i => ?_, fun o ho => ?_, fun ok' k1 k2 i j hi hj => ?_⟩
      · cases i with
        | zero => simpa using p2
        | succ i => simpa using q3' i
      · rcases List.mem_append.1 ho with h | h
        · exact p3 o h
        · exact q4 o h
      · cases i with
        | zero => simpa using p4 ok' k1 (fun o ho => k2 o (List.mem_append.2 (.inl ho))) j (by simpa using hj)
        | succ i => simpa using q5 ok' k1 (fun o ho => k2 o (List.mem_append.2 (.inr ho))) i j (by simpa using hi) (by simpa using hj)

/-- a row of the values that lie at the objects' places -/
theorem row_new {A : Amb} {S : St} {tm : Array Value} {w w' : World} {bo : Nat → Option Nat} {σ : Nat → Value} {kl : List Nat} (hR : Rel A S tm w bo σ kl) (t : Nat) (v : Value) (ns : List Nat) (fl : Bool) (T esz n : Nat) (L : List (List DV)) (vs : List Value)
    (ht : t ∉ kl) (hns : ∀ o ∈ ns, ∃ x, S.obj o = some x) (hkeep : Keep w w' (fun k => ∃ o ∈ ns, bo o = some k))
    (hblk : ∀ b, v.ownBlock = some b → w.heap.size ≤ b ∨ ∃ o ∈ ns, bo o = some b)
    (hv : ∃ Ad n c, v = .slice Ad n c)
    (hL : L.length = n) (hesz : 0 < esz) (hl : ∀ l ∈ L, l.length = esz) (hfl : fl = true → ∀ l ∈ L, ∀ d ∈ l, flatD d = true)
    (hown : w'.ownsRow 0 T esz v n vs)
    (hrp : ∀ i j, i < n → j < esz → (vs.getD (i * esz + j) undef').oneCell' = true ∧
      RP w' (fun k => k < w'.heap.size ∧ (k < A.w0.heap.size → A.ok k ∨ A.X k) ∧ (∀ o x, S.obj o = some x → o ∉ ns → bo o ≠ some k) ∧ v.ownBlock ≠ some k) ((L.getD i []).getD j .un) (vs.getD (i * esz + j) undef')) :
    Rel A (S.app ⟨[(t, .ow t)], ns.map (fun o => (o, none)) ++ [(t, some (.row fl T esz n L))], [t]⟩) (putT tm (some t) v) w' (upd bo t v.ownBlock) (upd σ t v) ([t] ++ kl) := by
  have htn : t ∉ ns := fun h => by obtain ⟨x, hx⟩ := hns t h; exact ht (hR.orf t x hx).1
  have hkeys : (ns.map (fun o => ((o, none) : Nat × Option Ob)) ++ [(t, some (Ob.row fl T esz n L))]).map (·.1) = ns ++ [t] := by simp [Function.comp_def]
  have hwr : ∀ (l : List Nat) (o : Nat) (c : Option Ob), wrOb (l.map (fun o => ((o, none) : Nat × Option Ob))) o c = if o ∈ l then none else c := by
    intro l
    induction l with
    | nil => intro o c; simp [wrOb]
    | cons a l ih =>
      intro o c
      have := ih o (if a = o then none else c)
      simp only [wrOb, List.map_cons, List.foldl_cons] at this ⊢
      rw [this]
      by_cases h1 : o ∈ l
      · simp [h1]
      · by_cases h2 : a = o
        · simp [h1, h2]
        · have : ¬ o = a := fun e => h2 e.symm
          simp [h1, h2, this]
  have hobj : ∀ o, (S.app ⟨[(t, .ow t)], ns.map (fun o => (o, none)) ++ [(t, some (.row fl T esz n L))], [t]⟩).obj o = if o = t then some (.row fl T esz n L) else if o ∈ ns then none else S.obj o := by
    intro o
    rw [app_obj]
    have : wrOb (ns.map (fun o => ((o, none) : Nat × Option Ob)) ++ [(t, some (Ob.row fl T esz n L))]) o (S.obj o) = if t = o then some (Ob.row fl T esz n L) else wrOb (ns.map (fun o => ((o, none) : Nat × Option Ob))) o (S.obj o) := by
      simp [wrOb, List.foldl_append]
    rw [this, hwr]
    by_cases h : t = o
    · simp [h]
    · have : ¬ o = t := fun e => h e.symm
      simp [h, this]
  have hbo : ∀ o ∈ kl, upd bo t v.ownBlock o = bo o ∧ upd σ t v o = σ o := by
    intro o ho
    have : o ≠ t := fun e => ht (e ▸ ho)
    exact ⟨upd_ne _ _ this, upd_ne _ _ this⟩
  obtain ⟨Ad, n', c', hvv⟩ := hv
  refine hR.step _ (some t) v ⟨hkeep.os, hkeep.tape, hkeep.output, hkeep.size, fun k hk hn => hkeep.block k hk fun ⟨o, ho, hb⟩ => hn ⟨o, by rw [hkeys]; simp [ho], (hns o ho).choose, (hns o ho).choose_spec, hb⟩⟩
    hbo (.inr ⟨t, .ow t, rfl, rfl, ⟨upd_same _ _ _, Ad, n', c', hvv⟩, fun o ho => by simp [refs, refs1, refs0] at ho; simp [ho]⟩) ?_ ?_
  · intro o y ho hy
    rw [hobj] at hy
    by_cases hot : o = t
    · subst hot
      rw [if_pos rfl] at hy
      cases hy
      refine ⟨⟨hL, hesz, hl, hfl, ?_, vs, ?_, fun i j hi hj => ⟨(hrp i j hi hj).2.mono fun k hk => ⟨⟨hk.1, hk.2.1, fun o' x' hx' hb => ?_⟩, rfl⟩, (hrp i j hi hj).1⟩⟩, by simp, fun p hp => by simp [orefs] at hp, fun b hb => ?_⟩
      · show upd bo o v.ownBlock o = (upd σ o v o).ownBlock
        rw [upd_same, upd_same]
      · show w'.ownsRow 0 T esz (upd σ o v o) n vs
        rw [upd_same]; exact hown
      · rw [hobj] at hx'
        by_cases ho2 : o' = o
        · subst ho2
          rw [upd_same] at hb
          exact hk.2.2.2 hb
        · rw [if_neg ho2] at hx'
          rw [upd_ne _ _ ho2] at hb
          by_cases ho3 : o' ∈ ns
          · rw [if_pos ho3] at hx'; cases hx'
          · rw [if_neg ho3] at hx'
            exact hk.2.2.1 o' x' hx' ho3 hb
      · rw [upd_same] at hb
        refine ⟨ownBlock_lt hown hb, fun hlt => ?_⟩
        rcases hblk b hb with h | ⟨o2, ho2, hb2⟩
        · omega
        · exact ⟨o2, by rw [hkeys]; simp [ho2], (hns o2 ho2).choose, (hns o2 ho2).choose_spec, hb2⟩
    · rw [if_neg hot] at hy
      rw [hkeys] at ho
      rcases List.mem_append.1 ho with h | h
      · rw [if_pos h] at hy; cases hy
      · simp at h; exact absurd h hot
  · intro o1 o2 x1 x2 b1 h1 h2 hx1 hx2 _ _
    have aux : ∀ o x, o ∈ (ns.map (fun o => ((o, none) : Nat × Option Ob)) ++ [(t, some (Ob.row fl T esz n L))]).map (·.1) → (S.app ⟨[(t, .ow t)], ns.map (fun o => (o, none)) ++ [(t, some (.row fl T esz n L))], [t]⟩).obj o = some x → o = t := by
      intro o x ho hx
      rw [hkeys] at ho
      rw [hobj] at hx
      by_cases hot : o = t
      · exact hot
      · rw [if_neg hot] at hx
        rcases List.mem_append.1 ho with h | h
        · rw [if_pos h] at hx; cases hx
        · simp at h; exact absurd h hot
    rw [aux o1 x1 h1 hx1, aux o2 x2 h2 hx2]

end Go.Eng
end
section
set_option linter.unusedSimpArgs false
set_option linter.unusedVariables false
/-! Soundness, 11: slices built and appended to. -/
namespace Go.Eng
open Go
variable {P : Program} {Φ : List It → St → Prop}

/-- the parts of a slice, from the k-th on -/
theorem fill_slice (s : Nat) : ∀ (vs : List Value) (k N : Nat) (xs : Array Value), (∀ v ∈ vs, v.cells.size = s) → xs.size = N * s → k + vs.length ≤ N →
    ∃ xs', Instr.fill (fun i => some (i * s, s)) xs ((List.range' k vs.length).zip vs) = some xs' ∧ xs'.size = N * s ∧
      ∀ i j, i < vs.length → j < s → xs'.toList.getD ((k + i) * s + j) undef' = (vs.getD i undef').cells.toList.getD j undef' ∧ True
  | [], k, N, xs, _, h, _ => ⟨xs, rfl, h, fun i j hi => by simp at hi⟩
  | v :: vs, k, N, xs, hv, hx, hk => by
    have hvs : v.cells.size = s := hv v (by simp)
    simp only [List.length_cons] at hk
    have hks : k * s + s ≤ N * s := by
      have : (k + 1) * s ≤ N * s := Nat.mul_le_mul_right s (by omega)
      have : (k + 1) * s = k * s + s := Nat.succ_mul k s
      omega
    obtain ⟨f1, f2⟩ := fold_set v.cells.toList (k * s) xs 0
    have e : v.cells.zipIdx.foldl (fun cs (p : Value × Nat) => cs.setIfInBounds (k * s + p.2) p.1) xs = (v.cells.toList.zipIdx 0).foldl (fun cs (p : Value × Nat) => cs.setIfInBounds (k * s + p.2) p.1) xs := by
      rw [← Array.foldl_toList]; simp
    have hsz : (v.cells.zipIdx.foldl (fun cs (p : Value × Nat) => cs.setIfInBounds (k * s + p.2) p.1) xs).size = N * s := by rw [e, ← Array.length_toList, f1, hx]
    have keep : ∀ (ws : List Value) (k' : Nat) (ys ys' : Array Value), (∀ v ∈ ws, v.cells.size = s) → ys.size = N * s → Instr.fill (fun i => some (i * s, s)) ys ((List.range' k' ws.length).zip ws) = some ys' → ∀ j, j < k' * s → ys'.toList.getD j undef' = ys.toList.getD j undef' := by
      intro ws
      induction ws with
      | nil => intro k' ys ys' _ _ h j _; simp [Instr.fill] at h; subst h; rfl
      | cons u ws ih =>
        intro k' ys ys' hw hy h j hj
        simp only [List.length_cons, List.range'_succ, List.zip_cons_cons, Instr.fill] at h
        split at h
        · cases h
        · obtain ⟨g1, g2⟩ := fold_set u.cells.toList (k' * s) ys 0
          have e' : u.cells.zipIdx.foldl (fun cs (p : Value × Nat) => cs.setIfInBounds (k' * s + p.2) p.1) ys = (u.cells.toList.zipIdx 0).foldl (fun cs (p : Value × Nat) => cs.setIfInBounds (k' * s + p.2) p.1) ys := by
            rw [← Array.foldl_toList]; simp
          have hj' : j < (k' + 1) * s := Nat.lt_of_lt_of_le hj (Nat.mul_le_mul_right s (by omega))
          have := ih (k' + 1) _ ys' (fun v hv => hw v (by simp [hv])) (by rw [e', ← Array.length_toList, g1, hy]) h j hj'
          rw [this, e', g2]
          have hno : ¬ (k' * s + 0 ≤ j ∧ j < k' * s + 0 + u.cells.toList.length ∧ j < ys.size) := by omega
          rw [if_neg hno]
    obtain ⟨xs', r1, r2, r3⟩ := fill_slice s vs (k + 1) N _ (fun u hu => hv u (by simp [hu])) hsz (by omega)
    refine ⟨xs', ?_, r2, fun i j hi hj => ⟨?_, trivial⟩⟩
    · simp only [List.length_cons, List.range'_succ, List.zip_cons_cons, Instr.fill]
      have hno : ¬ (decide (v.cells.size ≠ s) || decide (k * s + v.cells.size > xs.size)) = true := by
        rw [hvs, hx]; simp; omega
      rw [if_neg hno]
      exact r1
    · cases i with
      | zero =>
        rw [Nat.add_zero]
        have hlt : k * s + j < (k + 1) * s := by rw [Nat.succ_mul]; omega
        rw [keep vs (k + 1) _ xs' (fun u hu => hv u (by simp [hu])) hsz r1 _ hlt, e, f2]
        have hin : k * s + 0 ≤ k * s + j ∧ k * s + j < k * s + 0 + v.cells.toList.length ∧ k * s + j < xs.size := by simp [hvs, hx]; omega
        rw [if_pos hin]
        have : k * s + j - (k * s + 0) = j := by omega
        rw [this]; rfl
      | succ i =>
        have := (r3 i j (by simpa using hi) hj).1
        rw [show k + (i + 1) = k + 1 + i from by omega, this]
        rfl

theorem zeroOk_spec {e s : Nat} (h : zeroOk P e s = true) : ∃ i z, P.info? e = some i ∧ i.size = s ∧ i.zero = some z ∧ 0 < i.bytes ∧ z.cells.size = s := by
  unfold zeroOk at h
  split at h
  · rename_i i hi
    simp only [Bool.and_eq_true, beq_iff_eq, decide_eq_true_eq] at h
    obtain ⟨⟨⟨h1, h2⟩, h3⟩, h4⟩ := h
    obtain ⟨z, hz⟩ := Option.isSome_iff_exists.1 h2
    rw [hz] at h4
    exact ⟨i, z, hi, h1, hz, h3, by simpa [h1] using h4⟩
  · cases h

theorem buildSlice_ok {A : Amb} {o : Oper} {S : St} {kl : List Nat} {T n : Nat} {ps : Array (Nat × Operand)} (ho : o.op = .buildSlice T n ps) {u : Upd} {os os' : List (Ora P Φ)} {R D}
    (h : (opE o : RD P Φ Upd).go S os = some (u, R, D, os')) : OpOk P A o S u kl := by
  intro a w bo σ hR hnew K Q hK
  simp only [opE, ho] at h
  obtain ⟨ds, R1, D1, os1, R2, D2, h1, h2, rfl, rfl⟩ := go_bind _ _ h
  obtain ⟨k0, rfl, rfl, k1, k2⟩ := opds_ok hR h1
  split at h2
  · rename_i t e hd he
    split at h2
    · rename_i s hs
      by_cases hc : (n == ds.length && ps.toList.map (·.1) == List.range n && ds.all (fun d => (cellsOf d).length == s) && decide (n * s ≤ 1000) && decide (0 < s) && zeroOk P e s) = true
      · rw [if_pos hc] at h2
        simp only [Bool.and_eq_true, beq_iff_eq, decide_eq_true_eq, List.all_eq_true] at hc
        obtain ⟨⟨⟨⟨⟨c1, c2⟩, c3⟩, c4⟩, c5⟩, c6⟩ := hc
        obtain ⟨⟨L, ns⟩, R3, D3, os3, R4, D4, h3, h4, rfl, rfl⟩ := go_bind _ _ h2
        obtain ⟨rfl, -, -, -⟩ := go_ret h4
        obtain ⟨i, z, hi, hi2, hz, hby, hzs⟩ := zeroOk_spec c6
        have hT := elemT_spec he
        let xs : List Value := ps.toList.map fun p => a.eval p.2
        have hxl : xs.length = ds.length := by simp [xs, k0]
        have k1' : ∀ j, j < ds.length → RV (A.env S w bo σ) (ds.getD j .un) (xs.getD j undef') := by
          intro j hj
          have := k1 j (by rw [← k0]; exact hj)
          simpa [xs, List.map_map, Function.comp_def] using this
        -- every part is told by cells of one place each
        have hone : ∀ j, j < ds.length → (cellsOf (ds.getD j .un)).all oneD = true := by
          have aux : ∀ (l : List DV) {l' : List DV} {ns : List Nat} {os os' : List (Ora P Φ)} {R D}, (frz l : RD P Φ _).go S os = some ((l', ns), R, D, os') → l.all oneD = true := by
            intro l
            induction l with
            | nil => intros; rfl
            | cons d l ih =>
              intro l' ns os os' R D h
              simp only [frz] at h
              obtain ⟨⟨d', n1⟩, R1, D1, os1, R2, D2, h1, h2, rfl, rfl⟩ := go_bind _ _ h
              obtain ⟨⟨l', n2⟩, R3, D3, os3, R4, D4, h3, h4, rfl, rfl⟩ := go_bind _ _ h2
              simp only [List.all_cons, Bool.and_eq_true]
              refine ⟨?_, ih h3⟩
              split at h1
              · rfl
              · split at h1
                · rename_i hrp
                  simp only [Bool.and_eq_true] at hrp
                  exact hrp.2
                · exact (go_fail h1).elim
          have aux2 : ∀ (l : List (List DV)) {l' : List (List DV)} {ns : List Nat} {os os' : List (Ora P Φ)} {R D}, (frzL l : RD P Φ _).go S os = some ((l', ns), R, D, os') → ∀ d ∈ l, d.all oneD = true := by
            intro l
            induction l with
            | nil => intros; rename_i h; cases h
            | cons d l ih =>
              intro l' ns os os' R D h
              simp only [frzL] at h
              obtain ⟨⟨d', n1⟩, R1, D1, os1, R2, D2, h1, h2, rfl, rfl⟩ := go_bind _ _ h
              obtain ⟨⟨l', n2⟩, R3, D3, os3, R4, D4, h3, h4, rfl, rfl⟩ := go_bind _ _ h2
              intro d2 hd2
              rcases List.mem_cons.1 hd2 with rfl | hd2
              · exact aux _ h1
              · exact ih h3 d2 hd2
          intro j hj
          exact aux2 _ h3 _ (List.mem_map.2 ⟨_, getD_mem ds j .un hj, rfl⟩)
        have hcells : ∀ j, j < ds.length → (xs.getD j undef').cells.toList.length = (cellsOf (ds.getD j .un)).length ∧ ∀ l, l < (cellsOf (ds.getD j .un)).length → RV0 (A.env S w bo σ) ((cellsOf (ds.getD j .un)).getD l .un) ((xs.getD j undef').cells.toList.getD l undef') ∧ ((xs.getD j undef').cells.toList.getD l undef').oneCell' = true :=
          fun j hj => cells_rel (k1' j hj) (hone j hj)
        have hds : ∀ j, j < ds.length → (cellsOf (ds.getD j .un)).length = s := fun j hj => c3 _ (getD_mem ds j .un hj)
        have hLd : ∀ j, j < ds.length → (ds.map cellsOf).getD j [] = cellsOf (ds.getD j .un) := fun j hj => by
          simp [List.getD_eq_getElem?_getD, hj]
        have hxd : ∀ j, j < ds.length → (xs.map fun v => v.cells.toList).getD j [] = (xs.getD j undef').cells.toList := fun j hj => by
          have : j < xs.length := by omega
          simp [List.getD_eq_getElem?_getD, this]
        obtain ⟨rfl, rfl, q3, q3', q4, q5⟩ := frzL_ok hR h3 (vss := xs.map fun v => v.cells.toList) (by simp [hxl]) (fun i hi => by
          have hi' : i < ds.length := by simpa using hi
          rw [hLd i hi', hxd i hi']
          exact ⟨(hcells i hi').1, fun j hj => ((hcells i hi').2 j hj).1⟩)
        have hxs : ∀ v ∈ xs, v.cells.size = s := by
          intro v hv
          obtain ⟨j, hj, rfl⟩ := List.getElem_of_mem hv
          have := (hcells j (by omega)).1
          have e : xs.getD j undef' = xs[j] := by simp [List.getD_eq_getElem?_getD, hj]
          rw [e, hds j (by omega)] at this
          simpa using this
        have hn : n = xs.length := by omega
        obtain ⟨cs, r1, r2, r3⟩ := fill_slice s xs 0 n ((Array.range (n * s)).map (fun i => (if n * s = 0 then #[] else z.cells)[i % (if n * s = 0 then (#[] : Array Value) else z.cells).size]!)) hxs (by simp) (by omega)
        have hparts : (ps.map fun (i, x) => (i, a.eval x)).toList = (List.range' 0 xs.length).zip xs := by
          have e1 : (ps.map fun (i, x) => (i, a.eval x)).toList = (ps.toList.map (·.1)).zip xs := by
            simp [xs, List.zip_map', Array.toList_map]
          rw [e1, c2, hn, List.range_eq_range']
        have hzero : (zeroValue e).run P w = .ok z w := by simp [zeroValue, typeInfo, hi, hz]
        have hrun : (execOp a.eval o).run P w = .ok (.value (.slice (some ⟨w.heap.size, 0, none⟩) n n)) { w with heap := w.heap.push (.cells cs e) } := by
          have hbig : ¬ (n * s > 2 ^ 24) := by omega
          simp only [execOp, ho, Instr.buildSlice, Sem.run_bind, under_run hT, Result.andThen_ok, tsize_run hs, if_neg hbig, Sem.run_pure]
          by_cases h0 : n * s = 0
          · simp only [h0, if_true, Sem.run_bind, Sem.run_pure, Result.andThen_ok] at r1 ⊢
            rw [hparts, r1]
            simp [newRow]
          · simp only [h0, if_false, Sem.run_bind, hzero, Sem.run_pure, Result.andThen_ok] at r1 ⊢
            rw [hparts, r1]
            simp [newRow]
        refine wp_value hrun ?_
        rw [hd] at hK ⊢
        have hcsl : cs.toList.length = n * s := by simpa using r2
        have hm : n ≤ 1000 := by
          have : n * 1 ≤ n * s := Nat.mul_le_mul_left n c5
          omega
        refine hK _ _ _ _ (row_new hR t _ ns (L.all fun l => l.all flatD) e s n L cs.toList (hnew t (by simp)) q4 (Keep.new w _ _) (fun b hb => ?_) ⟨_, _, _, rfl⟩ (by rw [q3]; simp; omega) c5 (fun l hl => ?_) (fun hf l hl d hd => ?_)
          ⟨hcsl, .inr ⟨w.heap.size, n, cs, rfl, Nat.zero_le _, by simp, Nat.le_refl _, by simp only [maxLen]; omega, by simpa using r2, List.take_of_length_le (by omega)⟩⟩ (fun i j hi hj => ?_))
        · simp [Value.ownBlock] at hb; exact .inl (by omega)
        · obtain ⟨j, hj, rfl⟩ := List.getElem_of_mem hl
          have hj' : j < ds.length := by rw [q3] at hj; simpa using hj
          have := q3' j
          rw [hLd j hj', hds j hj'] at this
          simpa [List.getD_eq_getElem?_getD, hj] using this
        · simp only [List.all_eq_true] at hf; exact hf l hl d hd
        · have hi' : i < ds.length := by omega
          have e1 := (r3 i j (by omega) hj).1
          rw [Nat.zero_add] at e1
          rw [e1]
          refine ⟨((hcells i hi').2 j (by rw [hds i hi']; exact hj)).2, ?_⟩
          have h7 := q5 (fun k => k < ({ w with heap := w.heap.push (.cells cs e) } : World).heap.size ∧ (k < A.w0.heap.size → A.ok k ∨ A.X k) ∧ (∀ o x, S.obj o = some x → o ∉ ns → bo o ≠ some k) ∧ k < w.heap.size) (fun k hk => ⟨by have := hk.1; simp; omega, hk.2.1, fun o x hx _ => hk.2.2 o x hx, hk.1⟩)
            (fun o ho b hb => by
              obtain ⟨x, hx⟩ := q4 o ho
              have hl := hR.live o x b hx hb
              exact ⟨by simp; omega, fun h => .inr (hl.2 h), fun o' x' hx' hn' hb' => hn' (by rw [← hR.inj o o' x x' b hx hx' hb hb']; exact ho), hl.1⟩) i j (by simpa using hi') (by rw [hLd i hi', hds i hi']; exact hj)
          rw [hxd i hi'] at h7
          refine h7.mono fun k hk => ⟨⟨hk.1, hk.2.1, hk.2.2.1, fun he => ?_⟩, ?_⟩
          · simp [Value.ownBlock] at he; omega
          · have := hk.2.2.2
            simp [Array.getElem?_push]; omega
      · rw [if_neg hc] at h2; exact (go_fail h2).elim
    · exact (go_fail h2).elim
  · exact (go_fail h2).elim

end Go.Eng
end
section
set_option linter.unusedSimpArgs false
set_option linter.unusedVariables false
/-! Soundness, 12: appends. -/
namespace Go.Eng
open Go
variable {P : Program} {Φ : List It → St → Prop}

theorem run_append_eng {w : World} (t ty e : TypeId) (i : TypeInfo) (z : Value) (ht : P.underlying t = some (.slice e)) (hi : P.info? e = some i) (hz : i.zero = some z)
    (hzs : z.cells.size = i.size) (hsz : 0 < i.size) (hby : 0 < i.bytes)
    (v : Value) (n : Nat) (xs : List Value) (hown : w.ownsRow 0 e i.size v n xs)
    (Ad : Option Addr) (m c : Nat) (news : List Value) (hl : news.length = m * i.size) (hnews : m = 0 ∨ ∃ a, Ad = some a ∧ ∀ j u, news[j]? = some u → w.cell? (a.add j) = some u) (h1 : ∀ u ∈ news, u.oneCell' = true)
    (hbytes : (n + m) * i.bytes ≤ 140737488355328) :
    ∃ v' w', (Builtin.append_ #[t, t] ty #[v, .slice Ad m c]).run P w = .ok v' w' ∧ w'.ownsRow 0 e i.size v' (n + m) (xs ++ news) ∧ w.grownBy w' v.ownBlock ∧
      (∀ b, v'.ownBlock = some b → v.ownBlock = some b ∨ w.heap.size ≤ b) ∧ ∃ A' n' c', v' = .slice A' n' c' := by
  have h63 : n + m ≤ 140737488355328 := by
    have : (n + m) * 1 ≤ (n + m) * i.bytes := Nat.mul_le_mul_left _ hby
    omega
  have hmx : n + m ≤ maxLen := by simp only [maxLen]; omega
  have hlen : (xs ++ news).length = (n + m) * i.size := by rw [List.length_append, hown.1, hl, Nat.add_mul]
  by_cases hm0 : m = 0
  · subst hm0
    have hn : news = [] := List.eq_nil_of_length_eq_zero (by simpa using hl)
    subst hn
    refine ⟨v, w, ?_, by simpa using hown, ⟨rfl, rfl, rfl, Nat.le_refl _, fun _ _ _ => rfl⟩, fun b hb => .inl hb, ?_⟩
    · rcases hown.2 with ⟨rfl, rfl⟩ | ⟨g, cap, cur, rfl, _, _, hnc, _⟩
      · cases Ad <;> simp [Builtin.append_, run_underlying ht, sizeOf, typeInfo, hi, Builtin.lenOf, Builtin.firstCells, loadCells, loadCellsFrom]
      · cases Ad <;> simp [Builtin.append_, run_underlying ht, sizeOf, typeInfo, hi, Builtin.lenOf, Builtin.firstCells, hnc, storeCells, loadCells, loadCellsFrom]
    · rcases hown.2 with ⟨rfl, rfl⟩ | ⟨g, cap, cur, rfl, _⟩ <;> exact ⟨_, _, _, rfl⟩
  · obtain ⟨a, rfl, hne⟩ := hnews.resolve_left hm0
    clear hnews
    have hnews := hne
    have grown : ∀ (old : Nat), old < n + m → ∀ (row : Option Nat),
        (w.drew.alloc (.cells (xs.toArray ++ news.toArray ++ Builtin.zeroCells z.cells (grownCap w (n + m) old e - (n + m))) e)).ownsRow 0 e i.size
          (.slice (some ⟨w.heap.size, 0, none⟩) (n + m) (grownCap w (n + m) old e)) (n + m) (xs ++ news) ∧
        w.grownBy (w.drew.alloc (.cells (xs.toArray ++ news.toArray ++ Builtin.zeroCells z.cells (grownCap w (n + m) old e - (n + m))) e)) row := by
      intro old ho row
      have hge := grownCap_ge w (n + m) old e
      have hcm : grownCap w (n + m) old e ≤ maxLen := grownCap_le_maxLen w (n + m) old e hmx
      refine ⟨⟨hlen, .inr ⟨w.heap.size, _, _, rfl, Nat.zero_le _, heap_alloc_new w.drew _, hge, hcm, ?_, ?_⟩⟩, ⟨rfl, rfl, rfl, by simp, fun k hk _ => heap_alloc_old w.drew _ (by simpa using hk)⟩⟩
      · simp only [Array.size_append, List.size_toArray, size_zeroCells, hzs, hown.1, hl, ← Nat.add_mul]
        congr 1
        omega
      · simp only [Array.toList_append, List.append_assoc]
        rw [← List.append_assoc, ← hlen]
        exact List.take_left
    rcases hown.2 with ⟨rfl, rfl⟩ | ⟨g, cap, cur, rfl, hbg, hg, hnc, hcm, hcs, htake⟩
    · have hx : xs = [] := List.eq_nil_of_length_eq_zero (by simpa using hown.1)
      subst hx
      have hr := run_append_nil (P := P) w t ty e i z ht hi hz a m c news hl hnews (by omega) (by omega) (by have hb := hbytes; simp only [Nat.zero_add] at hb; omega)
      have hgr := grown 0 (by omega) (Value.ownBlock (.slice none 0 0))
      simp only [Nat.zero_add, List.nil_append, Array.empty_append] at hgr ⊢
      exact ⟨_, _, hr, hgr.1, hgr.2, fun b hb => .inr (by simp [Value.ownBlock] at hb; omega), _, _, _, rfl⟩
    · by_cases hroom : n + m ≤ cap
      · have hfit : n * i.size + news.length ≤ cur.size := by rw [hl, hcs, ← Nat.add_mul]; exact Nat.mul_le_mul_right _ hroom
        have hr := run_append_room (P := P) w t ty e i ht hi g n cap cur hg a m c news hl hnews h1 hroom hfit
        refine ⟨_, _, hr, ⟨hlen, .inr ⟨g, cap, _, rfl, hbg, setRow_heap w g cur _ e _ hg, hroom, hcm, ?_, ?_⟩⟩, ⟨rfl, rfl, rfl, by simp, fun k _ hk => setRow_other w g k _ (fun e => hk (by simp [Value.ownBlock, e]))⟩, fun b hb => .inl hb, _, _, _, rfl⟩
        · simp only [List.size_toArray, List.length_append, List.length_take, List.length_drop, Array.length_toList]
          omega
        · rw [htake, ← hlen]
          exact List.take_left
      · have holds : ∀ j u, xs[j]? = some u → w.cell? ((⟨g, 0, none⟩ : Addr).add j) = some u := hown.cells (g := g) rfl
        have hr := run_append_grow (P := P) w t ty e i z ht hi hz ⟨g, 0, none⟩ n cap xs hown.1 holds a m c news hl hnews (by omega) (by omega) (growslice_fits (by omega) hbytes)
        have hgr := grown cap (by omega) (Value.ownBlock (.slice (some ⟨g, 0, none⟩) n cap))
        exact ⟨_, _, hr, hgr.1, hgr.2, fun b hb => .inr (by simp [Value.ownBlock] at hb; omega), _, _, _, rfl⟩

theorem divmod (i j s : Nat) (h : j < s) : (i * s + j) / s = i ∧ (i * s + j) % s = j := by
  have hs : 0 < s := by omega
  constructor
  · rw [Nat.mul_comm, Nat.mul_add_div hs, Nat.div_eq_of_lt h, Nat.add_zero]
  · rw [Nat.mul_comm, Nat.mul_add_mod, Nat.mod_eq_of_lt h]

theorem append_ok {A : Amb} {o : Oper} {S : St} {kl : List Nat} {c : Call} {x y : Operand} {T : Nat} (ho : o.op = .call c) (hc : c.callee = .builtin .append) (hx : c.args.toList = [x, y]) (hT : c.argTypes.toList = [T, T]) {u : Upd} {os os' : List (Ora P Φ)} {R D}
    (h : ((opd x).bind fun d => (opd y).bind fun e => appendE o.dst T d e : RD P Φ Upd).go S os = some (u, R, D, os')) (hs : ∀ d ∈ D, Sat P Φ d) : OpOk P A o S u kl := by
  intro a w bo σ hR hnew K Q hK
  obtain ⟨d, R1, D1, os1, R2, D2, h1, h2, rfl, rfl⟩ := go_bind _ _ h
  obtain ⟨k1, rfl, rfl, k2⟩ := opd_ok hR h1
  obtain ⟨d', R3, D3, os3, R4, D4, h3, h4, rfl, rfl⟩ := go_bind _ _ h2
  obtain ⟨k3, rfl, rfl, k4⟩ := opd_ok hR h3
  have hargs : c.args = #[x, y] := by rw [← Array.toArray_toList (xs := c.args), hx]
  have hts : c.argTypes = #[T, T] := by rw [← Array.toArray_toList (xs := c.argTypes), hT]
  unfold appendE at h4
  split at h4
  · rename_i e t he hd
    split at h4
    · rename_i i hi
      obtain ⟨⟨gl, esz, m, M⟩, R5, D5, os5, R6, D6, h5, h6, rfl, rfl⟩ := go_bind _ _ h4
      obtain ⟨⟨fl, oo, n, L⟩, R7, D7, os7, R8, D8, h7, h8, rfl, rfl⟩ := go_bind _ _ h6
      simp only at h8
      by_cases hcond : (i.size == esz && decide (0 < esz) && zeroOk P e esz) = true
      · rw [if_pos hcond] at h8
        simp only [Bool.and_eq_true, beq_iff_eq, decide_eq_true_eq] at hcond
        obtain ⟨⟨hie, hpos⟩, hzo⟩ := hcond
        subst hie
        obtain ⟨q1, os9, rfl, h9⟩ := go_peek h8
        obtain ⟨_, os10, D10, -, h10, rfl⟩ := go_req h9
        obtain ⟨q2, os11, rfl, h11⟩ := go_peek h10
        split at h11
        · rename_i n' k' L1 M1 L' hcat
          obtain ⟨_, os12, D12, -, h12, rfl⟩ := go_req h11
          obtain ⟨rfl, -, -, -⟩ := go_ret h12
          have hbytes : (n + m) * i.bytes ≤ 140737488355328 := hs (.le _ _) (by simp)
          have hcat' : L ++ M = L' ∧ n' = n + m := hs (.cat n' (n + m) L M L') (by simp)
          obtain ⟨rfl, rfl⟩ := hcat'
          obtain ⟨i2, z, hi2, hsz2, hz, hby, hzs⟩ := zeroOk_spec hzo
          have : i2 = i := Option.some.inj (hi2.symm.trans hi)
          subst this
          have hTT := elemT_spec he
          -- the source
          have src : M.length = m ∧ (∀ l ∈ M, l.length = i2.size) ∧ (gl = true → ∀ l ∈ M, ∀ d ∈ l, flatD d = true) ∧
              ∃ Ad cc, a.eval y = .slice Ad m cc ∧ (m = 0 ∨ ∃ (ad : Addr) (f : Nat → Nat → Value), Ad = some ad ∧ (∀ i j, i < m → j < i2.size → w.cell? (ad.add (i * i2.size + j)) = some (f i j) ∧ (f i j).oneCell' = true ∧ RP w (okS A S w bo) ((M.getD i []).getD j .un) (f i j))) := by
            split at h5
            · obtain ⟨hee, -, -, -⟩ := go_ret h5
              cases hee
              exact ⟨rfl, fun l hl => (by cases hl), fun _ l hl => (by cases hl), none, 0, k3, .inl rfl⟩
            · obtain ⟨-, -, g1, g2, g3, Ad, cc, g4, g5⟩ := rowOf_ok hR k3 h5
              exact ⟨g1, g2, g3, Ad, cc, g4, g5⟩
          obtain ⟨hM1, hM2, hM3, Ad, cc, hy, hM4⟩ := src
          -- the destination
          have dst : ∃ (v : Value) (vs : List Value) (ns : List Nat), a.eval x = v ∧ dropO oo = ns.map (fun o => (o, none)) ∧ (∀ o ∈ ns, ∃ x, S.obj o = some x) ∧
              w.ownsRow 0 e i2.size v n vs ∧ L.length = n ∧ (∀ l ∈ L, l.length = i2.size) ∧ (fl = true → ∀ l ∈ L, ∀ d ∈ l, flatD d = true) ∧
              (∀ b, v.ownBlock = some b → ∃ o ∈ ns, bo o = some b) ∧
              ∀ i j, i < n → j < i2.size → RP w (okS A S w bo) ((L.getD i []).getD j .un) (vs.getD (i * i2.size + j) undef') ∧ (vs.getD (i * i2.size + j) undef').oneCell' = true := by
            split at h7
            · obtain ⟨hee, -, -, -⟩ := go_ret h7
              cases hee
              exact ⟨_, [], [], k1, rfl, fun o ho => (by cases ho), World.ownsRow_nil w 0 e i2.size, rfl, fun l hl => (by cases hl), fun _ l hl => (by cases hl), fun b hb => by simp [Value.ownBlock] at hb, fun i j hi => (by omega)⟩
            · rename_i o'
              obtain ⟨x', R9, hx', h13, -⟩ := go_obj h7
              split at h13
              · rename_i fl' T' s' n2 L2
                split at h13
                · rename_i hcc
                  simp only [Bool.and_eq_true, beq_iff_eq] at hcc
                  obtain ⟨rfl, rfl⟩ := hcc
                  obtain ⟨hee, -, -, -⟩ := go_ret h13
                  cases hee
                  obtain ⟨g1, g2, g3, g4, g5, vs, g6, g7⟩ := hR.ob o' _ hx'
                  obtain ⟨hσ, -⟩ := k1
                  have hσ' : σ o' = a.eval x := hσ
                  refine ⟨_, vs, [o'], rfl, rfl, fun o ho => by simp at ho; subst ho; exact ⟨_, hx'⟩, by rw [← hσ']; exact g6, g1, g3, g4, fun b hb => ⟨o', by simp, ?_⟩, g7⟩
                  have e5 : bo o' = (σ o').ownBlock := g5
                  rw [e5, hσ']; exact hb
                · exact (go_fail h13).elim
              · exact (go_fail h13).elim
            · exact (go_fail h7).elim
          obtain ⟨v, vs, ns, hv, hns, hnl, hown, hL1, hL2, hL3, hblk, hL4⟩ := dst
          -- the new cells
          obtain ⟨news, hnl2, hnews, hnget⟩ : ∃ news : List Value, news.length = m * i2.size ∧ (m = 0 ∨ ∃ a, Ad = some a ∧ ∀ j u, news[j]? = some u → w.cell? (a.add j) = some u) ∧
              ∀ i j, i < m → j < i2.size → (news.getD (i * i2.size + j) undef').oneCell' = true ∧ RP w (okS A S w bo) ((M.getD i []).getD j .un) (news.getD (i * i2.size + j) undef') := by
            rcases hM4 with h0 | ⟨ad, f, rfl, hf⟩
            · exact ⟨[], by simp [h0], .inl h0, fun i j hi => by omega⟩
            · refine ⟨(List.range (m * i2.size)).map fun k => f (k / i2.size) (k % i2.size), by simp, .inr ⟨ad, rfl, fun j u hu => ?_⟩, fun i j hi hj => ?_⟩
              · have hlt : j < m * i2.size := by
                  rcases Nat.lt_or_ge j (m * i2.size) with h | h
                  · exact h
                  · rw [List.getElem?_eq_none (by simpa using h)] at hu; cases hu
                simp [hlt] at hu
                subst hu
                have := (hf (j / i2.size) (j % i2.size) (Nat.div_lt_of_lt_mul (by rw [Nat.mul_comm]; exact hlt)) (Nat.mod_lt _ hpos)).1
                rw [Nat.div_add_mod' j i2.size] at this
                exact this
              · have hlt : i * i2.size + j < m * i2.size := by
                  have : (i + 1) * i2.size ≤ m * i2.size := Nat.mul_le_mul_right _ (by omega)
                  have : (i + 1) * i2.size = i * i2.size + i2.size := Nat.succ_mul i _
                  omega
                have e1 : ((List.range (m * i2.size)).map fun k => f (k / i2.size) (k % i2.size)).getD (i * i2.size + j) undef' = f i j := by
                  simp only [List.getD_eq_getElem?_getD, List.getElem?_map, List.getElem?_range hlt, Option.map_some, Option.getD_some]
                  rw [(divmod i j _ hj).1, (divmod i j _ hj).2]
                rw [e1]
                exact (hf i j hi hj).2
          have hone : ∀ u ∈ news, u.oneCell' = true := by
            intro u hu
            obtain ⟨k, hk, rfl⟩ := List.getElem_of_mem hu
            have := (hnget (k / i2.size) (k % i2.size) (Nat.div_lt_of_lt_mul (by rw [Nat.mul_comm]; omega)) (Nat.mod_lt _ hpos)).1
            rw [Nat.div_add_mod' k i2.size] at this
            have e1 : news.getD k undef' = news[k] := by simp [List.getD_eq_getElem?_getD, hk]
            rw [e1] at this; exact this
          obtain ⟨v', w', hr, r2, r3, r4, A', nn', c', r5⟩ := run_append_eng (P := P) (w := w) T o.type e i2 z hTT hi hz hzs hpos hby v n vs hown Ad m cc news hnl2 hnews hone hbytes
          have hrun : (execOp a.eval o).run P w = .ok (.value v') w' := by
            simp [execOp, ho, hc, resolve, invoke, builtin, hargs, hts, hv, hy, hr]
          refine wp_value hrun ?_
          rw [hd] at hK ⊢
          have hupd : ({ sl := [(t, DV.ow t)], ob := dropO oo ++ [(t, some (.row (fl && gl) e i2.size (n + m) (L ++ M)))], new := [t] } : Upd) =
              ⟨[(t, .ow t)], ns.map (fun o => (o, none)) ++ [(t, some (.row (fl && gl) e i2.size (n + m) (L ++ M)))], [t]⟩ := by rw [hns]
          have hkk : Keep w w' (fun k => ∃ o ∈ ns, bo o = some k) := ⟨r3.os, r3.tape, r3.output, r3.size, fun k hk hn => r3.block k hk fun e => hn (hblk k e.symm)⟩
          have hokw : ∀ k, okS A S w bo k → (k < w'.heap.size ∧ (k < A.w0.heap.size → A.ok k ∨ A.X k) ∧ (∀ o x, S.obj o = some x → o ∉ ns → bo o ≠ some k) ∧ v'.ownBlock ≠ some k) ∧ w'.heap[k]? = w.heap[k]? := by
            intro k hk
            refine ⟨⟨Nat.lt_of_lt_of_le hk.1 r3.size, hk.2.1, fun o x hx _ => hk.2.2 o x hx, fun he => ?_⟩, r3.block k hk.1 fun he => ?_⟩
            · rcases r4 k he with h | h
              · obtain ⟨o, ho, hb⟩ := hblk k h
                obtain ⟨x, hx⟩ := hnl o ho
                exact hk.2.2 o x hx hb
              · have := hk.1; omega
            · obtain ⟨o, ho, hb⟩ := hblk k he.symm
              obtain ⟨x, hx⟩ := hnl o ho
              exact hk.2.2 o x hx hb
          have hfin := row_new (A := A) hR t v' ns (fl && gl) e i2.size (n + m) (L ++ M) (vs ++ news) (hnew t (by simp)) hnl hkk (fun b hb => by
              rcases r4 b hb with h | h
              · exact .inr (hblk b h)
              · exact .inl h) ⟨A', nn', c', r5⟩ (by simp [hL1, hM1]) hpos (fun l hl => by
              rcases List.mem_append.1 hl with h | h
              · exact hL2 l h
              · exact hM2 l h) (fun hf l hl d hd => by
              simp only [Bool.and_eq_true] at hf
              rcases List.mem_append.1 hl with h | h
              · exact hL3 hf.1 l h d hd
              · exact hM3 hf.2 l h d hd) r2 (fun i j hi hj => by
              have hvl : vs.length = n * i2.size := hown.1
              by_cases hin : i < n
              · have hlt : i * i2.size + j < vs.length := by
                  have : (i + 1) * i2.size ≤ n * i2.size := Nat.mul_le_mul_right _ (by omega)
                  have : (i + 1) * i2.size = i * i2.size + i2.size := Nat.succ_mul i _
                  omega
                have e1 : (vs ++ news).getD (i * i2.size + j) undef' = vs.getD (i * i2.size + j) undef' := by
                  simp only [List.getD_eq_getElem?_getD, List.getElem?_append, hlt, if_true]
                have e2 : (L ++ M).getD i [] = L.getD i [] := by
                  have : i < L.length := by omega
                  simp only [List.getD_eq_getElem?_getD, List.getElem?_append, this, if_true]
                rw [e1, e2]
                exact ⟨(hL4 i j hin hj).2, (hL4 i j hin hj).1.mono hokw⟩
              · have hge : n * i2.size ≤ i * i2.size := Nat.mul_le_mul_right _ (by omega)
                have hsub : i * i2.size + j - n * i2.size = (i - n) * i2.size + j := by
                  rw [Nat.sub_mul]; omega
                have e1 : (vs ++ news).getD (i * i2.size + j) undef' = news.getD ((i - n) * i2.size + j) undef' := by
                  have h5 : ¬ i * i2.size + j < n * i2.size := by omega
                  simp only [List.getD_eq_getElem?_getD, List.getElem?_append, hvl, h5, if_false, hsub]
                have e2 : (L ++ M).getD i [] = M.getD (i - n) [] := by
                  simp only [List.getD_eq_getElem?_getD, List.getElem?_append, hL1, hin, if_false]
                rw [e1, e2]
                have := hnget (i - n) j (by omega) hj
                exact ⟨this.1, this.2.mono hokw⟩)
          have := hK v' w' _ _ (by rw [hupd]; exact hfin)
          exact this
        · exact (go_fail h11).elim
      · rw [if_neg hcond] at h8; exact (go_fail h8).elim
    · exact (go_fail h4).elim
  · exact (go_fail h4).elim

end Go.Eng
end
section
set_option linter.unusedSimpArgs false
set_option linter.unusedVariables false
/-! Soundness, 13: calls. -/
namespace Go.Eng
open Go
variable {P : Program} {Φ : List It → St → Prop}

theorem calls_mono {P : Program} {f : FuncId} {args : Array Value} {w : World} {R R' : Ending → World → Prop} (h : Calls P f args w R) (hr : ∀ e w', R e w' → R' e w') : Calls P f args w R' :=
  fun cs => let ⟨e, w', fr, r, s⟩ := h cs; ⟨e, w', fr, hr _ _ r, s⟩

theorem nodupB_spec : ∀ {l : List Nat}, nodupB l = true → l.Nodup
  | [], _ => List.nodup_nil
  | x :: l, h => by
    simp only [nodupB, Bool.and_eq_true, Bool.not_eq_true', List.any_eq_false, beq_iff_eq] at h
    exact List.nodup_cons.2 ⟨fun hm => h.1 x hm rfl, nodupB_spec h.2⟩

theorem subB_spec {l m : List Nat} (h : subB l m = true) : ∀ x ∈ l, x ∈ m := by
  intro x hx
  simp only [subB, List.all_eq_true, List.any_eq_true, beq_iff_eq] at h
  obtain ⟨y, hy, rfl⟩ := h x hx
  exact hy

theorem fwd_mem {to : List (Nat × Nat)} {o k : Nat} (h : fwd to o = some k) : (o, k) ∈ to := by
  unfold fwd at h
  cases hf : to.find? (·.1 == o) with
  | none => rw [hf] at h; cases h
  | some p =>
    rw [hf] at h
    have h1 := List.mem_of_find?_eq_some hf
    have h2 := List.find?_some hf
    simp at h2 h
    obtain ⟨a, b⟩ := p
    simp at h2 h
    subst h2; subst h
    exact h1

theorem bwd_mem {to : List (Nat × Nat)} {o k : Nat} (h : bwd to k = some o) : (o, k) ∈ to := by
  unfold bwd at h
  cases hf : to.find? (·.2 == k) with
  | none => rw [hf] at h; cases h
  | some p =>
    rw [hf] at h
    have h1 := List.mem_of_find?_eq_some hf
    have h2 := List.find?_some hf
    simp at h2 h
    obtain ⟨a, b⟩ := p
    simp at h2 h
    subst h2; subst h
    exact h1

theorem mem_fwd {to : List (Nat × Nat)} (hn : (to.map (·.1)).Nodup) {o k : Nat} (h : (o, k) ∈ to) : fwd to o = some k := by
  induction to with
  | nil => cases h
  | cons p to ih =>
    obtain ⟨a, b⟩ := p
    simp only [List.map_cons, List.nodup_cons] at hn
    unfold fwd
    simp only [List.find?_cons]
    rcases List.mem_cons.1 h with h | h
    · cases h; simp
    · have hne : ¬ a = o := fun e => hn.1 (by rw [e]; exact List.mem_map.2 ⟨_, h, rfl⟩)
      have : (a == o) = false := by simp [hne]
      simp only [this]
      exact ih hn.2 h

theorem mem_bwd {to : List (Nat × Nat)} (hn : (to.map (·.2)).Nodup) {o k : Nat} (h : (o, k) ∈ to) : bwd to k = some o := by
  induction to with
  | nil => cases h
  | cons p to ih =>
    obtain ⟨a, b⟩ := p
    simp only [List.map_cons, List.nodup_cons] at hn
    unfold bwd
    simp only [List.find?_cons]
    rcases List.mem_cons.1 h with h | h
    · cases h; simp
    · have hne : ¬ b = k := fun e => hn.1 (by rw [e]; exact List.mem_map.2 ⟨_, h, rfl⟩)
      have : (b == k) = false := by simp [hne]
      simp only [this]
      exact ih hn.2 h

/-- what the callee may read -/
def okC (A : Amb) (S : St) (w : World) (bo : Nat → Option Nat) (to : List (Nat × Nat)) (lent : List Nat) (b : Nat) : Prop :=
  b < w.heap.size ∧ (b < A.w0.heap.size → A.ok b ∨ A.X b) ∧ ∀ o x, S.obj o = some x → ((fwd to o).isSome = true ∨ o ∉ lent) → bo o ≠ some b

def boC (to : List (Nat × Nat)) (bo : Nat → Option Nat) (k : Nat) : Option Nat := (bwd to k).bind bo
def σC (to : List (Nat × Nat)) (σ : Nat → Value) (k : Nat) : Value := match bwd to k with | some o => σ o | none => undef'

def envC (A : Amb) (S : St) (w : World) (bo : Nat → Option Nat) (σ : Nat → Value) (to : List (Nat × Nat)) (lent : List Nat) : Env := ⟨w, boC to bo, σC to σ, okC A S w bo to lent⟩

section
variable {A : Amb} {S : St} {tm : Array Value} {w : World} {bo : Nat → Option Nat} {σ : Nat → Value} {kl : List Nat} {to : List (Nat × Nat)} {lent : List Nat}

theorem okS_okC : ∀ k, okS A S w bo k → okC A S w bo to lent k := fun k hk => ⟨hk.1, hk.2.1, fun o x hx _ => hk.2.2 o x hx⟩

theorem mapC_spec {g : Nat → Option Nat} : ∀ {cs r : List (Nat × Nat)}, mapC g cs = some r → r.length = cs.length ∧ ∀ j, j < cs.length → g (cs.getD j (0, 0)).1 = some (r.getD j (0, 0)).1 ∧ (r.getD j (0, 0)).2 = (cs.getD j (0, 0)).2
  | [], r, h => by simp [mapC] at h; subst h; exact ⟨rfl, fun j hj => by simp at hj⟩
  | (o, off) :: l, r, h => by
    simp only [mapC] at h
    split at h
    · rename_i k r' h1 h2
      cases h
      obtain ⟨k1, k2⟩ := mapC_spec h2
      refine ⟨by simp [k1], fun j hj => ?_⟩
      cases j with
      | zero => exact ⟨by simpa using h1, by simp⟩
      | succ j => simpa using k2 j (by simpa using hj)
    · cases h

theorem put0_ok (hn2 : (to.map (·.2)).Nodup) {d d' : DV} {x : Value} (h : put0 to d = some d') (hx : RV0 (A.env S w bo σ) d x) : RV0 (envC A S w bo σ to lent) d' x := by
  cases d with
  | ow o =>
    simp only [put0] at h
    cases hf : fwd to o with
    | none => rw [hf] at h; cases h
    | some k =>
      rw [hf] at h; cases h
      have hb := mem_bwd hn2 (fwd_mem hf)
      obtain ⟨h1, h2⟩ := hx
      exact ⟨by show σC to σ k = x; unfold σC; rw [hb]; exact h1, h2⟩
  | bx o off =>
    simp only [put0] at h
    cases hf : fwd to o with
    | none => rw [hf] at h; cases h
    | some k =>
      rw [hf] at h; cases h
      have hb := mem_bwd hn2 (fwd_mem hf)
      obtain ⟨b, h1, h2⟩ := hx
      exact ⟨b, by show boC to bo k = some b; unfold boC; rw [hb]; exact h1, h2⟩
  | v y => simp only [put0] at h; cases h; exact hx
  | lb y => simp only [put0] at h; cases h; exact hx
  | nl => simp only [put0] at h; cases h; exact hx
  | ro fl esz n L => simp only [put0] at h; cases h; exact RP.mono hx fun k hk => ⟨okS_okC k hk, rfl⟩
  | cl f cs =>
    simp only [put0] at h
    cases hm : mapC (fwd to) cs with
    | none => rw [hm] at h; cases h
    | some r =>
      rw [hm] at h; cases h
      obtain ⟨k1, k2⟩ := mapC_spec hm
      obtain ⟨vs, h1, h2, h3⟩ := hx
      refine ⟨vs, h1, by rw [h2, k1], fun j hj => ?_⟩
      rw [k1] at hj
      obtain ⟨b, h4, h5⟩ := h3 j hj
      obtain ⟨k3, k4⟩ := k2 j hj
      refine ⟨b, ?_, by rw [k4]; exact h5⟩
      show boC to bo _ = some b
      unfold boC
      rw [mem_bwd hn2 (fwd_mem k3)]
      exact h4
  | _ => simp [put0] at h

theorem putL_ok (hn2 : (to.map (·.2)).Nodup) : ∀ {cs cs' : List DV}, putL to cs = some cs' → cs'.length = cs.length ∧ ∀ (j : Nat) (x : Value), j < cs.length → RV0 (A.env S w bo σ) (cs.getD j .un) x → RV0 (envC A S w bo σ to lent) (cs'.getD j .un) x
  | [], cs', h => by simp [putL] at h; subst h; exact ⟨rfl, fun j x hj => by simp at hj⟩
  | d :: cs, cs', h => by
    simp only [putL] at h
    split at h
    · rename_i y ys h1 h2
      cases h
      obtain ⟨k1, k2⟩ := putL_ok hn2 h2
      refine ⟨by simp [k1], fun j x hj hx => ?_⟩
      cases j with
      | zero => simpa using put0_ok (lent := lent) hn2 h1 (by simpa using hx)
      | succ j => simpa using k2 j x (by simpa using hj) (by simpa using hx)
    · cases h

theorem argOf_ok (hR : Rel A S tm w bo σ kl) (hn2 : (to.map (·.2)).Nodup) {d d' : DV} {os os' : List (Ora P Φ)} {R D} (h : (argOf to d : RD P Φ DV).go S os = some (d', R, D, os')) :
    D = [] ∧ os' = os ∧ ∀ x, (∀ o ∈ lentIds0 to d, o ∈ lent) → RV0 (A.env S w bo σ) d x → RV0 (envC A S w bo σ to lent) d' x := by
  unfold argOf at h
  split at h
  · rename_i o
    split at h
    · rename_i k hk
      obtain ⟨rfl, -, rfl, rfl⟩ := go_ret h
      exact ⟨rfl, rfl, fun x _ hx => put0_ok (d := .ow o) (lent := lent) hn2 (by simp [put0, hk]) hx⟩
    · rename_i hk
      obtain ⟨x', R1, hx', h1, -⟩ := go_obj h
      split at h1
      · obtain ⟨rfl, -, rfl, rfl⟩ := go_ret h1
        refine ⟨rfl, rfl, fun x hl hx => ?_⟩
        have hl' : o ∈ lent := hl o (by simp [lentIds0, hk])
        refine row_rp (hR.ob o _ hx') hx okS_okC fun b hb => ?_
        have hv := hR.live o _ b hx' hb
        refine ⟨hv.1, fun h => .inr (hv.2 h), fun o2 x2 h2 h3 hb2 => ?_⟩
        have := hR.inj o o2 _ _ b hx' h2 hb hb2
        subst this
        rcases h3 with h3 | h3
        · rw [hk] at h3; cases h3
        · exact h3 hl'
      · exact (go_fail h1).elim
  · cases hp : put0 to d with
    | none => rw [hp] at h; exact (go_fail h).elim
    | some e =>
      rw [hp] at h
      obtain ⟨rfl, -, rfl, rfl⟩ := go_ret h
      exact ⟨rfl, rfl, fun x _ hx => put0_ok (lent := lent) hn2 hp hx⟩

theorem argL_ok (hR : Rel A S tm w bo σ kl) (hn2 : (to.map (·.2)).Nodup) : ∀ {cs cs' : List DV} {os os' : List (Ora P Φ)} {R D}, (argL to cs : RD P Φ (List DV)).go S os = some (cs', R, D, os') →
    D = [] ∧ os' = os ∧ cs'.length = cs.length ∧ ((∀ o ∈ cs.flatMap (lentIds0 to), o ∈ lent) → ∀ (j : Nat) (x : Value), j < cs.length → RV0 (A.env S w bo σ) (cs.getD j .un) x → RV0 (envC A S w bo σ to lent) (cs'.getD j .un) x)
  | [], cs', os, os', R, D, h => by
    obtain ⟨rfl, -, rfl, rfl⟩ := go_ret h
    exact ⟨rfl, rfl, rfl, fun _ j x hj => by simp at hj⟩
  | d :: cs, cs', os, os', R, D, h => by
    simp only [argL] at h
    obtain ⟨y, R1, D1, os1, R2, D2, h1, h2, rfl, rfl⟩ := go_bind _ _ h
    obtain ⟨ys, R3, D3, os3, R4, D4, h3, h4, rfl, rfl⟩ := go_bind _ _ h2
    obtain ⟨rfl, -, rfl, rfl⟩ := go_ret h4
    obtain ⟨rfl, rfl, k1⟩ := argOf_ok (lent := lent) hR hn2 h1
    obtain ⟨rfl, rfl, k2, k3⟩ := argL_ok hR hn2 h3
    refine ⟨rfl, rfl, by simp [k2], fun hl j x hj hx => ?_⟩
    simp only [List.flatMap_cons, List.mem_append] at hl
    cases j with
    | zero => simpa using k1 x (fun o h => hl o (.inl h)) (by simpa using hx)
    | succ j => simpa using k3 (fun o h => hl o (.inr h)) j x (by simpa using hj) (by simpa using hx)

theorem argOf1_ok (hR : Rel A S tm w bo σ kl) (hn2 : (to.map (·.2)).Nodup) {d d' : DV} {os os' : List (Ora P Φ)} {R D} (h : (argOf1 to d : RD P Φ DV).go S os = some (d', R, D, os')) :
    D = [] ∧ os' = os ∧ ∀ x, (∀ o ∈ lentIds1 to d, o ∈ lent) → RV (A.env S w bo σ) d x → RV1 (envC A S w bo σ to lent) d' x := by
  unfold argOf1 at h
  split at h
  · rename_i cs
    obtain ⟨ys, R3, D3, os3, R4, D4, h3, h4, rfl, rfl⟩ := go_bind _ _ h
    obtain ⟨rfl, -, rfl, rfl⟩ := go_ret h4
    obtain ⟨rfl, rfl, k2, k3⟩ := argL_ok (lent := lent) hR hn2 h3
    refine ⟨rfl, rfl, fun x hl hx => ?_⟩
    obtain ⟨vs, rfl, h5, h6⟩ := hx
    exact ⟨vs, rfl, by rw [h5, k2], fun j hj => ⟨k3 hl j _ (by omega) (h6 j (by omega)).1, (h6 j (by omega)).2⟩⟩
  · rename_i hna
    obtain ⟨rfl, rfl, k1⟩ := argOf_ok (lent := lent) hR hn2 h
    refine ⟨rfl, rfl, fun x hl hx => ?_⟩
    have hx0 : RV0 (A.env S w bo σ) d x := by
      cases d with
      | ag cs => exact absurd rfl (hna cs)
      | tu ds => simp [argOf, put0] at h; exact (go_fail h).elim
      | _ => exact hx
    have hl0 : ∀ o ∈ lentIds0 to d, o ∈ lent := by
      cases d with
      | ag cs => exact absurd rfl (hna cs)
      | _ => exact hl
    have := k1 x hl0 hx0
    cases d' with
    | ag cs => exact this.elim
    | _ => exact this

theorem argsOf_ok (hR : Rel A S tm w bo σ kl) (hn2 : (to.map (·.2)).Nodup) : ∀ {cs cs' : List DV} {os os' : List (Ora P Φ)} {R D}, (argsOf to cs : RD P Φ (List DV)).go S os = some (cs', R, D, os') →
    D = [] ∧ os' = os ∧ cs'.length = cs.length ∧ ((∀ o ∈ cs.flatMap (lentIds1 to), o ∈ lent) → ∀ (j : Nat) (x : Value), j < cs.length → RV (A.env S w bo σ) (cs.getD j .un) x → RV1 (envC A S w bo σ to lent) (cs'.getD j .un) x)
  | [], cs', os, os', R, D, h => by
    obtain ⟨rfl, -, rfl, rfl⟩ := go_ret h
    exact ⟨rfl, rfl, rfl, fun _ j x hj => by simp at hj⟩
  | d :: cs, cs', os, os', R, D, h => by
    simp only [argsOf] at h
    obtain ⟨y, R1, D1, os1, R2, D2, h1, h2, rfl, rfl⟩ := go_bind _ _ h
    obtain ⟨ys, R3, D3, os3, R4, D4, h3, h4, rfl, rfl⟩ := go_bind _ _ h2
    obtain ⟨rfl, -, rfl, rfl⟩ := go_ret h4
    obtain ⟨rfl, rfl, k1⟩ := argOf1_ok (lent := lent) hR hn2 h1
    obtain ⟨rfl, rfl, k2, k3⟩ := argsOf_ok hR hn2 h3
    refine ⟨rfl, rfl, by simp [k2], fun hl j x hj hx => ?_⟩
    simp only [List.flatMap_cons, List.mem_append] at hl
    cases j with
    | zero => simpa using k1 x (fun o h => hl o (.inl h)) (by simpa using hx)
    | succ j => simpa using k3 (fun o h => hl o (.inr h)) j x (by simpa using hj) (by simpa using hx)

/-- the callee's objects, as the caller has them -/
theorem preOf_ok (hR : Rel A S tm w bo σ kl) (hn2 : (to.map (·.2)).Nodup) : ∀ {pre pre' : Obs} {os os' : List (Ora P Φ)} {R D}, (preOf to pre : RD P Φ Obs).go S os = some (pre', R, D, os') →
    D = [] ∧ os' = os ∧ pre'.map (·.1) = pre.map (·.1) ∧ (∀ k ∈ pre.map (·.1), ∃ o x, bwd to k = some o ∧ S.obj o = some x) ∧ ∀ p ∈ pre', ObOk (envC A S w bo σ to lent) p.1 p.2
  | [], pre', os, os', R, D, h => by
    obtain ⟨rfl, -, rfl, rfl⟩ := go_ret h
    exact ⟨rfl, rfl, rfl, fun k hk => by simp at hk, fun p hp => by cases hp⟩
  | (k, y) :: l, pre', os, os', R, D, h => by
    simp only [preOf] at h
    split at h
    · rename_i o hb
      obtain ⟨x, R1, hx, h1, -⟩ := go_obj h
      obtain ⟨x', R2, D2, os2, R3, D3, h2, h3, rfl, rfl⟩ := go_bind _ _ h1
      obtain ⟨r, R4, D4, os4, R5, D5, h4, h5, rfl, rfl⟩ := go_bind _ _ h3
      obtain ⟨rfl, -, rfl, rfl⟩ := go_ret h5
      cases hp : putO to x with
      | none => rw [hp] at h2; exact (go_fail h2).elim
      | some y' =>
        rw [hp] at h2
        obtain ⟨rfl, -, rfl, rfl⟩ := go_ret h2
        obtain ⟨rfl, rfl, k1, k2, k3⟩ := preOf_ok hR hn2 h4
        refine ⟨rfl, rfl, by simp [k1], fun k' hk' => ?_, fun p hp' => ?_⟩
        · rcases List.mem_cons.1 hk' with rfl | hk'
          · exact ⟨o, x, hb, hx⟩
          · exact k2 k' hk'
        · rcases List.mem_cons.1 hp' with rfl | hp'
          · have ho := hR.ob o x hx
            have hbo : (envC A S w bo σ to lent).bo k = bo o := by show boC to bo k = bo o; unfold boC; rw [hb]; rfl
            have hσ : (envC A S w bo σ to lent).σ k = σ o := by show σC to σ k = σ o; unfold σC; rw [hb]
            cases x with
            | box cs =>
              simp only [putO] at hp
              cases hpl : putL to cs with
              | none => rw [hpl] at hp; cases hp
              | some cs' =>
                rw [hpl] at hp; cases hp
                obtain ⟨b, T, vs, g1, g2, g3, g4⟩ := ho
                obtain ⟨q1, q2⟩ := putL_ok (A := A) (S := S) (w := w) (bo := bo) (σ := σ) (lent := lent) hn2 hpl
                exact ⟨b, T, vs, by rw [hbo]; exact g1, g2, by rw [g3, q1], fun j hj => ⟨q2 j _ (by omega) (g4 j (by omega)).1, (g4 j (by omega)).2⟩⟩
            | row fl T esz n L =>
              simp only [putO] at hp; cases hp
              obtain ⟨g1, g2, g3, g4, g5, vs, g6, g7⟩ := ho
              refine ⟨g1, g2, g3, g4, by rw [hbo, hσ]; exact g5, vs, by rw [hσ]; exact g6, fun i j hi hj => ⟨(g7 i j hi hj).1.mono fun k hk => ⟨okS_okC k hk, rfl⟩, (g7 i j hi hj).2⟩⟩
          · exact k3 p hp'
    · exact (go_fail h).elim
end

end Go.Eng
end
