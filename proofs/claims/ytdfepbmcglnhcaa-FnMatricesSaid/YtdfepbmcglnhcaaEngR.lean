import Derived.Test.YtdfepbmcglnhcaaEngQb
import Derived.Orders
set_option linter.unusedSimpArgs false
set_option linter.unusedVariables false
/-! Soundness, 15: any operation, guards. -/
namespace Go.Eng
open Go
variable {P : Program} {Φ : List It → St → Prop}

theorem known_ok {S : St} {d : DV} {b : Bool} {os os' : List (Ora P Φ)} {R D} (h : (known d : RD P Φ Bool).go S os = some (b, R, D, os')) (hs : ∀ d ∈ D, Sat P Φ d) {E : Env} {x : Value} (hx : RV E d x) : x = .bool b := by
  unfold known at h
  split at h
  · obtain ⟨rfl, -, -, -⟩ := go_ret h; exact hx
  · rename_i c
    obtain ⟨q, os1, rfl, h1⟩ := go_peek h
    split at h1
    · rename_i c' b' hb
      obtain ⟨_, os2, D2, -, h2, rfl⟩ := go_req h1
      obtain ⟨rfl, -, -, -⟩ := go_ret h2
      have : c = b := hs (.br c b) (by simp)
      subst this
      exact hx
    · exact (go_fail h1).elim
  · exact (go_fail h).elim

theorem pick_ok {A : Amb} {o : Oper} {S : St} {kl : List Nat} {c x y : Operand} (ho : o.op = .pick c x y) {d : DV} {os os' : List (Ora P Φ)} {R D}
    (h : ((opd c).bind fun d => (known d).bind fun t => if t then opd x else opd y : RD P Φ DV).go S os = some (d, R, D, os')) (hs : ∀ d ∈ D, Sat P Φ d)
    (a : Act) (w : World) (bo : Nat → Option Nat) (σ : Nat → Value) (hR : Rel A S a.tmps w bo σ kl) :
    ∃ v, (execOp a.eval o).run P w = .ok (.value v) w ∧ RV (A.env S w bo σ) d v ∧ ∀ p ∈ refs d, p ∈ kl := by
  obtain ⟨dc, R1, D1, os1, R2, D2, h1, h2, rfl, rfl⟩ := go_bind _ _ h
  obtain ⟨t, R3, D3, os3, R4, D4, h3, h4, rfl, rfl⟩ := go_bind _ _ h2
  obtain ⟨k1, rfl, rfl, -⟩ := opd_ok hR h1
  have hc := known_ok h3 (fun e he => hs e (by simp [he])) k1
  cases t with
  | true =>
    obtain ⟨k2, -, -, k3⟩ := opd_ok hR (by simpa using h4)
    exact ⟨a.eval x, by simp [execOp, ho, hc, asBool], k2, k3⟩
  | false =>
    obtain ⟨k2, -, -, k3⟩ := opd_ok hR (by simpa using h4)
    exact ⟨a.eval y, by simp [execOp, ho, hc, asBool], k2, k3⟩

theorem opE_ok {A : Amb} {o : Oper} {S : St} {kl : List Nat} {u : Upd} {os os' : List (Ora P Φ)} {R D}
    (h : (opE o : RD P Φ Upd).go S os = some (u, R, D, os')) (hs : ∀ d ∈ D, Sat P Φ d) : OpOk P A o S u kl := by
  have h0 := h
  unfold opE at h
  split at h
  · rename_i x ho
    exact move_ok (.inl ho) h
  · rename_i x ho
    exact move_ok (.inr ho) h
  · rename_i c x y ho
    exact ofDst_ok h hs fun d os1 R1 D1 h1 hs1 a w bo σ hR => pick_ok ho h1 hs1 a w bo σ hR
  · rename_i T ho
    exact alloc_ok ho h
  · rename_i T x ho
    exact box_ok ho h
  · rename_i T ps ho
    exact ofDst_ok h hs fun d os1 R1 D1 h1 hs1 a w bo σ hR => build_ok ho h1 a w bo σ hR
  · rename_i T n ps ho
    exact buildSlice_ok ho h0
  · rename_i T x ho
    exact ofDst_ok h hs fun d os1 R1 D1 h1 hs1 a w bo σ hR => load_ok ho h1 hs1 a w bo σ hR
  · rename_i T x y ho
    exact store_ok ho h hs
  · rename_i x ho
    exact ofDst_ok h hs fun d os1 R1 D1 h1 hs1 a w bo σ hR => nil_ok ho h1 a w bo σ hR
  · rename_i op T x y yT ho
    refine ofDst_ok h hs fun d os1 R1 D1 h1 hs1 a w bo σ hR => ?_
    split at h1
    · exact div_ok (quo := true) (by simpa using ho) h1 hs1 a w bo σ hR
    · exact div_ok (quo := false) (by simpa using ho) h1 hs1 a w bo σ hR
    · exact eq_ok (neg := false) (by simpa using ho) h1 a w bo σ hR
    · exact eq_ok (neg := true) (by simpa using ho) h1 a w bo σ hR
    · exact add_ok ho h1 hs1 a w bo σ hR
    · exact bin_ok ho h1 a w bo σ hR
  · rename_i op T x ho
    exact ofDst_ok h hs fun d os1 R1 D1 h1 hs1 a w bo σ hR => un_ok ho h1 a w bo σ hR
  · rename_i s t x ho
    exact ofDst_ok h hs fun d os1 R1 D1 h1 hs1 a w bo σ hR => cv_ok ho h1 hs1 a w bo σ hR
  · rename_i T x i ho
    exact ofDst_ok h hs fun d os1 R1 D1 h1 hs1 a w bo σ hR => idx_ok ho h1 hs1 a w bo σ hR
  · rename_i T len cap ho
    exact mk_ok ho h hs
  · rename_i T x f ho
    exact ofDst_ok h hs fun d os1 R1 D1 h1 hs1 a w bo σ hR => field_ok ho h1 a w bo σ hR
  · rename_i T x i ho
    exact ofDst_ok h hs fun d os1 R1 D1 h1 hs1 a w bo σ hR => index_ok ho h1 hs1 a w bo σ hR
  · rename_i T x lo hi mx ho
    split at h
    · rename_i hmx
      have : mx = none := by simpa using hmx
      subst this
      exact sl_ok ho h hs
    · exact (go_fail h).elim
  · rename_i x j ho
    exact ofDst_ok h hs fun d os1 R1 D1 h1 hs1 a w bo σ hR => extract_ok ho h1 a w bo σ hR
  · rename_i fn first caps ho
    split at h
    · rename_i f
      split at h
      · rename_i hf
        exact ofDst_ok h hs fun d os1 R1 D1 h1 hs1 a w bo σ hR => makeFunc_ok ho hf h1 a w bo σ hR
      · exact (go_fail h).elim
    · exact (go_fail h).elim
  · rename_i c ho
    split at h
    · rename_i f hc
      exact call_ok ho hc h hs
    · rename_i t hc
      exact callV_ok ho hc h hs
    · rename_i hc
      refine ofDst_ok h hs fun d os1 R1 D1 h1 hs1 a w bo σ hR => ?_
      split at h1
      · rename_i x T hx hT
        exact len_ok ho hc hx hT h1 a w bo σ hR
      · exact (go_fail h1).elim
    · rename_i hc
      split at h
      · rename_i x y T T' hx hT
        split at h
        · rename_i hTT
          have : T = T' := by simpa using hTT
          subst this
          exact append_ok ho hc hx hT h hs
        · exact (go_fail h).elim
      · exact (go_fail h).elim
    · rename_i hc
      exact ofDst_ok h hs fun d os1 R1 D1 h1 hs1 a w bo σ hR => max_ok (m := true) ho hc h1 a w bo σ hR
    · rename_i hc
      exact ofDst_ok h hs fun d os1 R1 D1 h1 hs1 a w bo σ hR => max_ok (m := false) ho hc h1 a w bo σ hR
    · exact (go_fail h).elim
  · exact (go_fail h).elim

/-- another telling of the same state -/
theorem Rel.tell {A : Amb} {S S' : St} {tm : Array Value} {w : World} {bo : Nat → Option Nat} {σ : Nat → Value} {kl kl' : List Nat} (hR : Rel A S tm w bo σ kl) (hob : ∀ o, S'.obj o = S.obj o) (hl : S'.fr.length = S.fr.length)
    (hsl : ∀ t, S'.slot t = S.slot t ∨ (RV (A.env S w bo σ) (S'.slot t) (tm.getD t undef') ∧ ∀ o ∈ refs (S'.slot t), o ∈ kl)) (hk : ∀ o ∈ kl, o ∈ kl') : Rel A S' tm w bo σ kl' := by
  have henv : A.env S' w bo σ = A.env S w bo σ := by
    unfold Amb.env
    have : okS A S' w bo = okS A S w bo := by funext k; unfold okS; simp only [hob]
    rw [this]
  refine ⟨hR.keep, by rw [hR.sz, hl], fun t => ?_, fun o x hx => ?_, fun o x b hx => ?_, fun o o' x x' b hx hx' => ?_, hR.pre, fun p hp => hk _ (hR.prk p hp), fun t o ho => ?_, fun o x hx => ?_, hR.axo⟩
  · rw [henv]
    rcases hsl t with h | ⟨h, -⟩
    · rw [h]; exact hR.sl t
    · exact h
  · rw [henv]; rw [hob] at hx; exact hR.ob o x hx
  · rw [hob] at hx; exact hR.live o x b hx
  · rw [hob] at hx hx'; exact hR.inj o o' x x' b hx hx'
  · rcases hsl t with h | ⟨-, h⟩
    · rw [h] at ho; exact hk _ (hR.rfs t o ho)
    · exact hk _ (h o ho)
  · rw [hob] at hx
    have := hR.orf o x hx
    exact ⟨hk _ this.1, fun p hp => hk _ (this.2 p hp)⟩

/-- a guarded operation -/
def GOk (P : Program) (A : Amb) (all : Array Oper) (o : Oper) (S : St) (u : Upd) (kl : List Nat) : Prop :=
  ∀ (a : Act) (w : World) (bo : Nat → Option Nat) (σ : Nat → Value), Rel A S a.tmps w bo σ kl → (∀ n ∈ u.new, n ∉ kl) →
    ∀ (K : Act → World → Prop) (Q : Exit → Act → World → Prop),
      (∀ v w' bo' σ', Rel A (S.app u) (putT a.tmps o.dst v) w' bo' σ' (u.new ++ kl) → K (a.put o.dst v) w') →
        if Region.wanted o (yielded all a.tmps) then o.wp P a w K Q else K (a.put o.dst undef) w

theorem Rel.known {A : Amb} {S : St} {u : Upd} {t : Nat} {d : DV} {b : Bool} {tm : Array Value} {w : World} {bo : Nat → Option Nat} {σ : Nat → Value} {kl : List Nat} (hu : u.sl = [(t, d)]) (hR : Rel A (S.app u) tm w bo σ kl)
    (hb : ∀ E x, RV E d x → x = .bool b) : Rel A (S.app ⟨[(t, .lb b)], u.ob, u.new⟩) tm w bo σ kl := by
  have h1 : ∀ t', (S.app u).slot t' = if t' = t ∧ t < S.fr.length then d else S.slot t' := fun t' => by unfold St.app; rw [hu]; exact slot_set S t t' d _
  have h2 : ∀ t', (S.app ⟨[(t, .lb b)], u.ob, u.new⟩).slot t' = if t' = t ∧ t < S.fr.length then .lb b else S.slot t' := fun t' => by unfold St.app; exact slot_set S t t' _ _
  refine hR.tell (fun o => by rw [app_obj, app_obj]) ?_ (fun t' => ?_) (fun _ h => h)
  · unfold St.app; rw [hu]; simp [St.put]
  · by_cases ht : t' = t ∧ t < S.fr.length
    · have h3 := hR.sl t'
      rw [h1, if_pos ht] at h3
      refine .inr ⟨?_, fun o ho => ?_⟩
      · rw [h2, if_pos ht]
        exact hb _ _ h3
      · rw [h2, if_pos ht] at ho; simp [refs, refs1, refs0] at ho
    · refine .inl ?_
      rw [h1, h2, if_neg ht, if_neg ht]

theorem opRun_ok {A : Amb} {o : Oper} {S : St} {kl : List Nat} {u : Upd} {g : Bool} {os os' : List (Ora P Φ)} {R D}
    (h : (opRun o g : RD P Φ Upd).go S os = some (u, R, D, os')) (hs : ∀ d ∈ D, Sat P Φ d) : OpOk P A o S u kl := by
  unfold opRun at h
  obtain ⟨v, R1, D1, os1, R2, D2, h1, h2, rfl, rfl⟩ := go_bind _ _ h
  have hok := opE_ok (A := A) (kl := kl) h1 (fun e he => hs e (by simp [he]))
  cases g with
  | false =>
    rw [if_neg (by simp)] at h2
    obtain ⟨rfl, -, -, -⟩ := go_ret h2
    exact hok
  | true =>
    rw [if_pos rfl] at h2
    split at h2
    · rename_i t d hsl
      obtain ⟨b, R3, D3, os3, R4, D4, h3, h4, rfl, rfl⟩ := go_bind _ _ h2
      obtain ⟨rfl, -, -, -⟩ := go_ret h4
      intro a w bo σ hR hnew K Q hK
      refine hok a w bo σ hR hnew K Q fun x w' bo' σ' hR' => hK x w' bo' σ' ?_
      exact hR'.known hsl fun E y hy => known_ok h3 (fun e he => hs e (by simp [he])) hy
    · exact (go_fail h2).elim

theorem go_slot {α : Type} {S : St} {t : Nat} {k : DV → RD P Φ α} {b : α} {os os' : List (Ora P Φ)} {R D} (h : (RD.slot t k).go S os = some (b, R, D, os')) :
    ∃ R1, (k (S.slot t)).go S os = some (b, R1, D, os') ∧ R = .sl t :: R1 := by
  simp only [RD.go] at h
  split at h
  · rename_i a R1 D1 os1 h1
    cases h
    exact ⟨R1, h1, rfl⟩
  · cases h

theorem opG_ok {A : Amb} {all : Array Oper} {o : Oper} {S : St} {kl : List Nat} {u : Upd} {g : Bool} {os os' : List (Ora P Φ)} {R D}
    (h : (opG o all.toList g : RD P Φ Upd).go S os = some (u, R, D, os')) (hs : ∀ d ∈ D, Sat P Φ d) : GOk P A all o S u kl := by
  intro a w bo σ hR hnew K Q hK
  unfold opG at h
  split at h
  · rename_i hg
    have hw : Region.wanted o (yielded all a.tmps) = true := by unfold Region.wanted; rw [hg]
    rw [if_pos hw]
    exact opRun_ok h hs a w bo σ hR hnew K Q hK
  · rename_i gi want hg
    split at h
    · rename_i og hog
      split at h
      · rename_i t ht
        obtain ⟨R1, h1, -⟩ := go_slot h
        split at h1
        · rename_i c hc
          have hv := hR.sl t
          rw [hc] at hv
          have hv' : a.tmps.getD t undef' = .bool c := hv
          have hy : yielded all a.tmps gi = some c := by
            unfold yielded
            have : all[gi]? = some og := by simpa using hog
            rw [this]
            simp only [Option.bind_some, ht]
            have htt : a.tmps[t]? = some (.bool c) := by
              rw [Array.getD_eq_getD_getElem?] at hv'
              cases hq : a.tmps[t]? with
              | none => rw [hq] at hv'; simp [undef'] at hv'
              | some y => rw [hq] at hv'; simp at hv'; rw [hv']
            rw [htt]
          have hw : Region.wanted o (yielded all a.tmps) = (c == want) := by
            unfold Region.wanted; rw [hg]; simp only [hy]; cases c <;> cases want <;> rfl
          rw [hw]
          split at h1
          · rename_i hcw
            rw [if_pos hcw]
            exact opRun_ok h1 hs a w bo σ hR hnew K Q hK
          · rename_i hcw
            rw [if_neg hcw]
            obtain ⟨rfl, -, -, -⟩ := go_ret h1
            exact hK _ w bo σ (hR.set o.dst (.v undef') undef (Keep.refl _ _) rfl (fun p hp => by simp [refs, refs1, refs0] at hp))
        · rename_i c hc
          have hv := hR.sl t
          rw [hc] at hv
          have hv' : a.tmps.getD t undef' = .tuple c := hv
          have hw : Region.wanted o (yielded all a.tmps) = false := by
            unfold Region.wanted
            rw [hg]
            have : yielded all a.tmps gi = none := by
              unfold yielded
              have : all[gi]? = some og := by simpa using hog
              rw [this]
              simp only [Option.bind_some, ht]
              rw [Array.getD_eq_getD_getElem?] at hv'
              cases hq : a.tmps[t]? with
              | none => rfl
              | some y => rw [hq] at hv'; simp at hv'; rw [hv']
            simp only [this]; cases want <;> rfl
          rw [hw, if_neg (by simp)]
          obtain ⟨rfl, -, -, -⟩ := go_ret h1
          exact hK _ w bo σ (hR.set o.dst (.v undef') undef (Keep.refl _ _) rfl (fun p hp => by simp [refs, refs1, refs0] at hp))
        · exact (go_fail h1).elim
      · exact (go_fail h).elim
    · exact (go_fail h).elim

end Go.Eng
