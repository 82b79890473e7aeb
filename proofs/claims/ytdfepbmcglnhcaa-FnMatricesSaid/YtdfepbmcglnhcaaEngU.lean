import Derived.Test.YtdfepbmcglnhcaaEngT
set_option linter.unusedSimpArgs false
set_option linter.unusedVariables false
/-! Soundness, 18: what a run shows. -/
namespace Go.Eng
open Go
variable {P : Program}

/-- what was asked holds -/
def SatR (P : Program) (Φ : List It → St → Prop) (r : DV) (post : Obs) : Ask → Prop
  | .ret r' post' => r' = r ∧ post' = post
  | d => Sat P Φ d

theorem SatR.sat {Φ : List It → St → Prop} {r : DV} {post : Obs} {d : Ask} (h : SatR P Φ r post d) : Sat P Φ d := by
  cases d <;> first | exact h | trivial

section
variable {f : Nat} {fn : Func} {pre post : Obs} {r : DV} {A : Amb} {pi po : List Nat}

theorem drew_rel {S : St} {tm : Array Value} {w : World} {bo : Nat → Option Nat} {σ : Nat → Value} {kl : List Nat} (hR : Rel A S tm w bo σ kl) : Rel A S tm { w with drawn := w.drawn + 1 } bo σ kl := by
  have h := hR.set none .un undef (w' := { w with drawn := w.drawn + 1 }) ⟨rfl, rfl, rfl, Nat.le_refl _, fun _ _ _ => rfl⟩ trivial (fun o ho => by simp [refs, refs1, refs0] at ho)
  exact h

theorem region_ok (hmix : P.follows .mixedOrders = true) {Φ : List It → St → Prop} {R : Value → World → Prop} {id : Nat} {all : Array Oper} {draw : Bool} {k : List It} {S S' : St} {kl kl' : List Nat} {os os' : List (Ora P Φ)} {I : List Info} {D : List Ask}
    (h : ops all.toList 0 all.toList S kl os = some (S', kl', I, D, os')) (hd : (!draw || drawOk all.toList I) = true) (hs : ∀ d ∈ D, Sat P Φ d)
    {a : Act} {w : World} {bo : Nat → Option Nat} {σ : Nat → Value} (hR : Rel A S a.tmps w bo σ kl) (hdf : a.defers = [])
    (hnext : ∀ a' w' bo' σ', a'.defers = [] → Rel A S' a'.tmps w' bo' σ' kl' → Runs P f R k a' w') : Runs P f R (.code (.region id all draw) :: k) a w := by
  refine Runs.wp ?_
  cases draw with
  | false =>
    refine wp_region ?_
    rw [List.range_eq_range', ← Array.length_toList]
    exact ops_seq h hs rfl a w bo σ hR fun a' w' bo' σ' hd' hR' => ⟨rfl, hnext a' w' bo' σ' (by rw [hd', hdf]) hR'⟩
  | true =>
    have hdr := drawOk_spec (l := all.toList) (I := I) (by simpa using hd)
    refine wp_region_any hmix ?_
    obtain ⟨us, g1, g2, rfl, g4, g5, g6⟩ := ops_good (A := A) h hs
    have hsz : ∀ m, (Array.replicate all.size false).getD m false = false := by
      intro m
      rw [Array.getD_eq_getD_getElem?, Array.getElem?_replicate]
      split <;> rfl
    refine any_ok (A := A) (us := us) (I := I) (S0 := S) (kl0 := kl) (klF := kl') (df := []) (by simpa using g1) hdr (fun x hx => (g4 x).2 hx) (fun m hm => g5 m (by simpa using hm)) g6 (fun a' w' bo' σ' hd' hR' => ⟨rfl, hnext a' w' bo' σ' hd' hR'⟩)
      all.size _ a _ S kl bo σ (by simp) (fun m o hm => by rw [hsz] at hm; cases hm) (fun l => ?_) rfl (fun x hx => .inl hx) ?_ hdf (drew_rel hR)
    · have e : mixF (fun m => (Array.replicate all.size false).getD m false) 0 us S = mixF (fun _ => false) 0 us S := mixF_cong _ _ _ fun m _ => by rw [Nat.zero_add]; exact hsz m
      rw [e, mixF_none]
      exact Agree.refl _ _
    · unfold open_
      exact Nat.le_trans (List.length_filter_le _ _) (by simp)

theorem cond_ok {S : St} {Φ : List It → St → Prop} {R : Value → World → Prop} {x : Operand} {c d : Code} {k : List It} {os os' : List (Ora P Φ)} {t : Bool} {Rs : List Loc} {D : List Ask} {kl : List Nat}
    (h : ((opd x : RD P Φ DV).bind known).go S os = some (t, Rs, D, os')) (hs : ∀ d ∈ D, Sat P Φ d) {a : Act} {w : World} {bo : Nat → Option Nat} {σ : Nat → Value} (hR : Rel A S a.tmps w bo σ kl)
    (hnext : Runs P f R (.code (if t then c else d) :: k) a w) : Runs P f R (.code (.cond x c d) :: k) a w := by
  obtain ⟨e, R1, D1, os1, R2, D2, h1, h2, rfl, rfl⟩ := go_bind _ _ h
  obtain ⟨k1, rfl, rfl, -⟩ := opd_ok hR h1
  have hc := known_ok h2 (fun d hd => hs d (by simp [hd])) k1
  refine hnext.head fun b cs => ?_
  have := step_cond (P := P) (b := b) (a := a) (k := k.map It.item) (cs := cs) (w := w) (x := c) (y := d) hc
  cases t <;> exact this

theorem endR_ok (hf : P.funcs[f]? = some fn) {S : St} {a : Act} {w : World} {bo : Nat → Option Nat} {σ : Nat → Value} {kl : List Nat} (hR : Rel A S a.tmps w bo σ kl) (hd : a.defers = []) {its : List It} (hi : its = [] ∨ ∃ k, its = .code .ret :: k)
    {Φ : List It → St → Prop} {os : List (Ora P Φ)} {D : List Ask} (h : endE fn po S os = some D) (hs : ∀ d ∈ D, SatR P Φ r post d) : Runs P f (Left A post r) its a w := by
  unfold endE at h
  split at h
  · rename_i r' hr
    split at h
    · cases h
      have h1 := hs _ (List.mem_singleton.2 rfl)
      obtain ⟨rfl, hpost⟩ : r' = r ∧ _ = post := h1
      obtain ⟨x, e1, e2⟩ := end_ok hf hR hd hr hpost.symm
      intro b cs hb hk
      rcases hi with rfl | ⟨k, rfl⟩
      · exact ⟨x, w, _, e2, .one step_end, hb, rfl, hd, hk, fn, by rw [show (b.at a []).fn = b.fn from rfl, hb]; exact hf, e1⟩
      · exact ⟨x, w, _, e2, .one step_ret, hb, rfl, hd, hk, fn, by rw [show (b.at a (.code .ret :: k.map It.item)).fn = b.fn from rfl, hb]; exact hf, e1⟩
    · cases h
  · cases h

theorem stepE_ok (hf : P.funcs[f]? = some fn) (hmix : P.follows .mixedOrders = true) {Φ : List It → St → Prop} {rec : Rec P Φ}
    (hrec : ∀ its S kl os D, rec its S kl os = some D → (∀ d ∈ D, SatR P Φ r post d) → ∀ a w bo σ, Rel A S a.tmps w bo σ kl → a.defers = [] → Runs P f (Left A post r) its a w)
    {its : List It} {S : St} {kl : List Nat} {os : List (Ora P Φ)} {D : List Ask} (h : stepE fn po rec its S kl os = some D) (hs : ∀ d ∈ D, SatR P Φ r post d)
    {a : Act} {w : World} {bo : Nat → Option Nat} {σ : Nat → Value} (hR : Rel A S a.tmps w bo σ kl) (hd : a.defers = []) : Runs P f (Left A post r) its a w := by
  unfold stepE at h
  split at h
  · exact endR_ok hf hR hd (.inl rfl) h hs
  · rename_i id k
    exact (hrec _ _ _ _ _ h hs a w bo σ hR hd).head fun b cs => step_inBlock
  · rename_i c k
    exact (hrec _ _ _ _ _ h hs a w bo σ hR hd).again
  · rename_i c k
    split at h
    · exact endR_ok hf hR hd (.inr ⟨k, rfl⟩) h hs
    · exact (hrec _ _ _ _ _ h hs a w bo σ hR hd).head fun b cs => step_skip
    · exact (hrec _ _ _ _ _ h hs a w bo σ hR hd).head fun b cs => step_seq
    · exact (hrec _ _ _ _ _ h hs a w bo σ hR hd).head fun b cs => step_block
    · split at h
      · rename_i k' hk'
        exact (hrec _ _ _ _ _ h hs a w bo σ hR hd).head fun b cs => step_exit (popTo_item hk')
      · cases h
    · split at h
      · split at h
        · rename_i D' h1
          cases h
          exact (hrec _ _ _ _ _ h1 (fun d hd => hs d (by simp [hd])) a w bo σ hR hd).head fun b cs => step_loop
        · cases h
      · cases h
    · split at h
      · rename_i t Rs D1 os1 h1
        split at h
        · rename_i D' h2
          cases h
          exact cond_ok h1 (fun d hd => (hs d (by simp [hd])).sat) hR (hrec _ _ _ _ _ h2 (fun d hd => hs d (by simp [hd])) a w bo σ hR hd)
        · cases h
      · cases h
    · split at h
      · rename_i S1 kl1 I1 D1 os1 h1
        split at h
        · rename_i hdraw
          split at h
          · rename_i D' h2
            cases h
            exact region_ok hmix h1 hdraw (fun d hd => (hs d (by simp [hd])).sat) hR hd fun a' w' bo' σ' hd' hR' => hrec _ _ _ _ _ h2 (fun d hd => hs d (by simp [hd])) a' w' bo' σ' hR' hd'
          · cases h
        · cases h
      · cases h
    · cases h

/-- fewer names will do -/
theorem Rel.less {S : St} {tm : Array Value} {w : World} {bo : Nat → Option Nat} {σ : Nat → Value} {kl : List Nat} (hR : Rel A S tm w bo σ kl) : Rel A S tm w bo σ (names S ++ A.pre.map (·.1)) := by
  refine ⟨hR.keep, hR.sz, hR.sl, hR.ob, hR.live, hR.inj, hR.pre, fun p hp => List.mem_append.2 (.inr (List.mem_map.2 ⟨p, hp, rfl⟩)), fun t o ho => List.mem_append.2 (.inl ?_), fun o x hx => ⟨List.mem_append.2 (.inl ?_), fun p hp => List.mem_append.2 (.inl ?_)⟩, hR.axo⟩
  · unfold names
    refine List.mem_append.2 (.inl (List.mem_flatMap.2 ⟨S.slot t, ?_, ho⟩))
    unfold St.slot
    rcases Nat.lt_or_ge t S.fr.length with h | h
    · exact getD_mem _ _ _ h
    · exfalso
      unfold St.slot at ho
      rw [List.getD_eq_getElem?_getD, List.getElem?_eq_none h] at ho
      simp [refs, refs1, refs0] at ho
  · unfold names
    exact List.mem_append.2 (.inr (List.mem_flatMap.2 ⟨(o, x), lk_mem hx, by simp⟩))
  · unfold names
    exact List.mem_append.2 (.inr (List.mem_flatMap.2 ⟨(o, x), lk_mem hx, by simp [hp]⟩))

theorem run_ok (hf : P.funcs[f]? = some fn) (hmix : P.follows .mixedOrders = true) (hA : A.pre = pre) (hpi : pi = pre.map (·.1)) : ∀ (n : Nat) (its : List It) (S : St) (kl : List Nat) (os : List (Ora P (Fin P f pre post r))) (D : List Ask), run fn pi po n its S kl os = some D →
    (∀ d ∈ D, SatR P (Fin P f pre post r) r post d) → ∀ a w bo σ, Rel A S a.tmps w bo σ kl → a.defers = [] → Runs P f (Left A post r) its a w
  | 0, its, S, kl, os, D, h, _, _, _, _, _, _, _ => by simp [run] at h
  | n + 1, its, S, kl, os, D, h, hs, a, w, bo, σ, hR, hd => by
    simp only [run] at h
    split at h
    · split at h
      · split at h
        · rename_i u hu
          split at h
          · rename_i D' h1
            cases h
            obtain ⟨bo', σ', hR'⟩ := adj_ok hR hu
            exact run_ok hf hmix hA hpi n its _ _ _ D' h1 (fun d hd => hs d (by simp [hd])) a w bo' σ' hR' hd
          · cases h
        · cases h
      · exact stepE_ok hf hmix (fun its S kl os D h1 h2 a w bo σ h3 h4 => run_ok hf hmix hA hpi n its S kl os D h1 h2 a w bo σ h3 h4) h hs hR hd
    · split at h
      · rename_i hc
        simp only [Bool.and_eq_true] at hc
        split at h
        · rename_i D' h1
          cases h
          obtain ⟨bo', σ', kl', hR'⟩ := ren_ok hR (by rw [hpi, hA]) hc.2 _
          have hR2 := hR'.less
          rw [hA, ← hpi] at hR2
          exact run_ok hf hmix hA hpi n its _ _ _ D' h1 (fun d hd => hs d (by simp [hd])) a w bo' σ' hR2 hd
        · cases h
      · exact stepE_ok hf hmix (fun its S kl os D h1 h2 a w bo σ h3 h4 => run_ok hf hmix hA hpi n its S kl os D h1 h2 a w bo σ h3 h4) h hs hR hd
    · split at h
      · split at h
        · rename_i hren
          cases h
          have hfin := hs _ (List.mem_singleton.2 rfl)
          obtain ⟨bo', σ', kl', hR'⟩ := ren_ok hR (by rw [hpi, hA]) hren _
          exact hfin A hA a w bo' σ' kl' hR' hd
        · cases h
      · exact stepE_ok hf hmix (fun its S kl os D h1 h2 a w bo σ h3 h4 => run_ok hf hmix hA hpi n its S kl os D h1 h2 a w bo σ h3 h4) h hs hR hd
    · exact stepE_ok hf hmix (fun its S kl os D h1 h2 a w bo σ h3 h4 => run_ok hf hmix hA hpi n its S kl os D h1 h2 a w bo σ h3 h4) h hs hR hd

/-- from a run to the function's end -/
theorem fin_ret (hf : P.funcs[f]? = some fn) (hmix : P.follows .mixedOrders = true) {its : List It} {S : St} (N : Nat) (os : List (Ora P (Fin P f pre post r)))
    (h : run fn (pre.map (·.1)) (post.map (·.1)) N its S (names S ++ pre.map (·.1)) os = some (os.map Ora.ask ++ [.ret r post])) : Fin P f pre post r its S := by
  intro A hA a w bo σ kl hR hd
  subst hA
  refine run_ok hf hmix rfl rfl N its S _ os _ h (fun d hd => ?_) a w bo σ hR.less hd
  rcases List.mem_append.1 hd with h1 | h1
  · obtain ⟨o, -, rfl⟩ := List.mem_map.1 h1
    have := o.sat
    cases o <;> exact this
  · simp at h1; subst h1; exact ⟨rfl, rfl⟩

/-- from a run to a place that has been shown -/
theorem fin_fin (hf : P.funcs[f]? = some fn) (hmix : P.follows .mixedOrders = true) {its : List It} {S : St} (N : Nat) (os : List (Ora P (Fin P f pre post r)))
    (h : run fn (pre.map (·.1)) (post.map (·.1)) N its S (names S ++ pre.map (·.1)) os = some (os.map Ora.ask)) : Fin P f pre post r its S := by
  intro A hA a w bo σ kl hR hd
  subst hA
  refine run_ok hf hmix rfl rfl N its S _ os _ h (fun d hd => ?_) a w bo σ hR.less hd
  obtain ⟨o, -, rfl⟩ := List.mem_map.1 hd
  have := o.sat
  cases o <;> exact this

def entry (n : Nat) (l : List DV) (obs : Obs) : St := ⟨l ++ List.replicate (n - l.length) .un, obs⟩

/-- what a function does -/
theorem fn_fin (hf : P.funcs[f]? = some fn) {c : Code} (hb : fn.body = some c) {as : List DV} (hag' : (pre.flatMap fun p => orefs p.2) = []) (h : Fin P f pre post r [.code c] (entry fn.ntmps as pre)) : Fn P f as pre post r := by
  have hag : ∀ p ∈ pre, orefs p.2 = [] := List.flatMap_eq_nil_iff.1 hag'
  intro w bo σ ok vs hl hv hob hbl hinj hok cs
  let A : Amb := ⟨w, bo, σ, ok, pre⟩
  have hlk : ∀ o x, (entry fn.ntmps as pre).obj o = some x → (o, x) ∈ pre := fun o x hx => lk_mem hx
  have hokS : ∀ k, ok k → okS A (entry fn.ntmps as pre) w bo k := fun k hk => ⟨hok k hk, fun _ => .inl hk, fun o x hx hbo => (hbl _ (hlk o x hx) k hbo).2 hk⟩
  have hR : Rel A (entry fn.ntmps as pre) (vs.toArray ++ Array.replicate (fn.ntmps - vs.toArray.size) undef) w bo σ (names (entry fn.ntmps as pre) ++ pre.map (·.1)) := by
    have hkl : ∀ t o, o ∈ refs ((entry fn.ntmps as pre).slot t) → o ∈ names (entry fn.ntmps as pre) := by
      intro t o ho
      unfold names
      refine List.mem_append.2 (.inl (List.mem_flatMap.2 ⟨_, ?_, ho⟩))
      unfold St.slot at ho ⊢
      rcases Nat.lt_or_ge t (entry fn.ntmps as pre).fr.length with h | h
      · exact getD_mem _ _ _ h
      · exfalso
        rw [List.getD_eq_getElem?_getD, List.getElem?_eq_none h] at ho
        simp [refs, refs1, refs0] at ho
    refine ⟨Keep.refl _ _, ?_, fun t => ?_, fun o x hx => ?_, fun o x b hx hbo => ⟨(hbl _ (hlk o x hx) b hbo).1, fun _ => ⟨_, hlk o x hx, hbo⟩⟩, fun o o' x x' b hx hx' hbo hbo' => hinj _ (hlk o x hx) _ (hlk o' x' hx') b hbo hbo', fun p _ => ⟨rfl, rfl⟩, fun p hp => List.mem_append.2 (.inr (List.mem_map.2 ⟨p, hp, rfl⟩)), fun t o ho => List.mem_append.2 (.inl (hkl t o ho)), fun o x hx => ⟨List.mem_append.2 (.inr (List.mem_map.2 ⟨_, hlk o x hx, rfl⟩)), fun p hp => ?_⟩, fun k hk ⟨p, hp, hb⟩ => (hbl p hp k hb).2 hk⟩
    · simp [entry, hl]
    · by_cases ht : t < as.length
      · have e1 : (entry fn.ntmps as pre).slot t = as.getD t .un := by
          simp [entry, St.slot, List.getD_eq_getElem?_getD, List.getElem?_append, ht]
        have e2 : (vs.toArray ++ Array.replicate (fn.ntmps - vs.toArray.size) undef).getD t undef' = vs.getD t undef' := by
          have : t < vs.length := by omega
          simp [Array.getElem?_append, this, List.getD_eq_getElem?_getD]
        rw [e1, e2]
        have h1 := hv t ht
        have h2 : RV1 (A.env (entry fn.ntmps as pre) w bo σ) (as.getD t .un) (vs.getD t undef') := h1.mono (fun k hk => ⟨hokS k hk, rfl⟩) fun _ _ => ⟨rfl, rfl⟩
        generalize as.getD t .un = d at h2
        cases d with
        | tu ds => exact h2.elim
        | _ => exact h2
      · have e1 : (entry fn.ntmps as pre).slot t = .un := by
          simp only [entry, St.slot, List.getD_eq_getElem?_getD, List.getElem?_append, ht, if_false, List.getElem?_replicate]
          split <;> rfl
        rw [e1]; trivial
    · exact (hob _ (hlk o x hx)).mono (fun k hk => ⟨hokS k hk, rfl⟩) (fun _ _ => rfl) ⟨rfl, rfl⟩ fun _ _ => ⟨rfl, rfl⟩
    · rw [hag _ (hlk o x hx)] at hp; cases hp
  have hruns := h A rfl { tmps := vs.toArray ++ Array.replicate (fn.ntmps - vs.toArray.size) undef, defers := [] } w bo σ _ hR rfl
  let b : Frame := { (default : Frame) with fn := f, kind := .normal }
  have henter : Frame.enter P f vs.toArray .normal = b.at { tmps := vs.toArray ++ Array.replicate (fn.ntmps - vs.toArray.size) undef, defers := [] } [.code c] := by
    simp [Frame.enter, Frame.at, hf, hb, b]
  obtain ⟨x, w', fr, hL, hst, hfn, hlv⟩ := hruns b cs rfl rfl
  obtain ⟨bo', σ', h1, h2, h3, h4, h5, h6⟩ := hL
  refine ⟨.returned x, w', fr, ⟨x, bo', σ', rfl, h1, h2, h3, h4, h5, h6⟩, ?_, hfn, hlv⟩
  rw [henter]
  exact hst
end

end Go.Eng
