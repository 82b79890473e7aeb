import Derived.Test.YtdfepbmcglnhcaaEngO
set_option linter.unusedSimpArgs false
set_option linter.unusedVariables false
/-! Soundness, 13: calls. -/
namespace Go.Eng
open Go
variable {P : Program} {Φ : List It → St → Prop}

theorem calls_mono {P : Program} {f : FuncId} {args : Array Value} {w : World} {R R' : Ending → World → Prop} (h : Calls P f args w R) (hr : ∀ e w', R e w' → R' e w') : Calls P f args w R' :=
  fun cs => let ⟨e, w', fr, r, s⟩ := h cs; ⟨e, w', fr, hr _ _ r, s⟩

theorem nodupB_spec : ∀ {l : List Nat}, nodupB l = true → l.Nodup
  | [], _ => List.nodup_nil
  | x :: l, h => by
    simp only [nodupB, Bool.and_eq_true, Bool.not_eq_true', List.any_eq_false, beq_iff_eq] at h
    exact List.nodup_cons.2 ⟨fun hm => h.1 x hm rfl, nodupB_spec h.2⟩

theorem subB_spec {l m : List Nat} (h : subB l m = true) : ∀ x ∈ l, x ∈ m := by
  intro x hx
  simp only [subB, List.all_eq_true, List.any_eq_true, beq_iff_eq] at h
  obtain ⟨y, hy, rfl⟩ := h x hx
  exact hy

theorem fwd_mem {to : List (Nat × Nat)} {o k : Nat} (h : fwd to o = some k) : (o, k) ∈ to := by
  unfold fwd at h
  cases hf : to.find? (·.1 == o) with
  | none => rw [hf] at h; cases h
  | some p =>
    rw [hf] at h
    have h1 := List.mem_of_find?_eq_some hf
    have h2 := List.find?_some hf
    simp at h2 h
    obtain ⟨a, b⟩ := p
    simp at h2 h
    subst h2; subst h
    exact h1

theorem bwd_mem {to : List (Nat × Nat)} {o k : Nat} (h : bwd to k = some o) : (o, k) ∈ to := by
  unfold bwd at h
  cases hf : to.find? (·.2 == k) with
  | none => rw [hf] at h; cases h
  | some p =>
    rw [hf] at h
    have h1 := List.mem_of_find?_eq_some hf
    have h2 := List.find?_some hf
    simp at h2 h
    obtain ⟨a, b⟩ := p
    simp at h2 h
    subst h2; subst h
    exact h1

theorem mem_fwd {to : List (Nat × Nat)} (hn : (to.map (·.1)).Nodup) {o k : Nat} (h : (o, k) ∈ to) : fwd to o = some k := by
  induction to with
  | nil => cases h
  | cons p to ih =>
    obtain ⟨a, b⟩ := p
    simp only [List.map_cons, List.nodup_cons] at hn
    unfold fwd
    simp only [List.find?_cons]
    rcases List.mem_cons.1 h with h | h
    · cases h; simp
    · have hne : ¬ a = o := fun e => hn.1 (by rw [e]; exact List.mem_map.2 ⟨_, h, rfl⟩)
      have : (a == o) = false := by simp [hne]
      simp only [this]
      exact ih hn.2 h

theorem mem_bwd {to : List (Nat × Nat)} (hn : (to.map (·.2)).Nodup) {o k : Nat} (h : (o, k) ∈ to) : bwd to k = some o := by
  induction to with
  | nil => cases h
  | cons p to ih =>
    obtain ⟨a, b⟩ := p
    simp only [List.map_cons, List.nodup_cons] at hn
    unfold bwd
    simp only [List.find?_cons]
    rcases List.mem_cons.1 h with h | h
    · cases h; simp
    · have hne : ¬ b = k := fun e => hn.1 (by rw [e]; exact List.mem_map.2 ⟨_, h, rfl⟩)
      have : (b == k) = false := by simp [hne]
      simp only [this]
      exact ih hn.2 h

/-- what the callee may read -/
def okC (A : Amb) (S : St) (w : World) (bo : Nat → Option Nat) (to : List (Nat × Nat)) (lent : List Nat) (b : Nat) : Prop :=
  b < w.heap.size ∧ (b < A.w0.heap.size → A.ok b ∨ A.X b) ∧ ∀ o x, S.obj o = some x → ((fwd to o).isSome = true ∨ o ∉ lent) → bo o ≠ some b

def boC (to : List (Nat × Nat)) (bo : Nat → Option Nat) (k : Nat) : Option Nat := (bwd to k).bind bo
def σC (to : List (Nat × Nat)) (σ : Nat → Value) (k : Nat) : Value := match bwd to k with | some o => σ o | none => undef'

def envC (A : Amb) (S : St) (w : World) (bo : Nat → Option Nat) (σ : Nat → Value) (to : List (Nat × Nat)) (lent : List Nat) : Env := ⟨w, boC to bo, σC to σ, okC A S w bo to lent⟩

section
variable {A : Amb} {S : St} {tm : Array Value} {w : World} {bo : Nat → Option Nat} {σ : Nat → Value} {kl : List Nat} {to : List (Nat × Nat)} {lent : List Nat}

theorem okS_okC : ∀ k, okS A S w bo k → okC A S w bo to lent k := fun k hk => ⟨hk.1, hk.2.1, fun o x hx _ => hk.2.2 o x hx⟩

theorem mapC_spec {g : Nat → Option Nat} : ∀ {cs r : List (Nat × Nat)}, mapC g cs = some r → r.length = cs.length ∧ ∀ j, j < cs.length → g (cs.getD j (0, 0)).1 = some (r.getD j (0, 0)).1 ∧ (r.getD j (0, 0)).2 = (cs.getD j (0, 0)).2
  | [], r, h => by simp [mapC] at h; subst h; exact ⟨rfl, fun j hj => by simp at hj⟩
  | (o, off) :: l, r, h => by
    simp only [mapC] at h
    split at h
    · rename_i k r' h1 h2
      cases h
      obtain ⟨k1, k2⟩ := mapC_spec h2
      refine ⟨by simp [k1], fun j hj => ?_⟩
      cases j with
      | zero => exact ⟨by simpa using h1, by simp⟩
      | succ j => simpa using k2 j (by simpa using hj)
    · cases h

theorem put0_ok (hn2 : (to.map (·.2)).Nodup) {d d' : DV} {x : Value} (h : put0 to d = some d') (hx : RV0 (A.env S w bo σ) d x) : RV0 (envC A S w bo σ to lent) d' x := by
  cases d with
  | ow o =>
    simp only [put0] at h
    cases hf : fwd to o with
    | none => rw [hf] at h; cases h
    | some k =>
      rw [hf] at h; cases h
      have hb := mem_bwd hn2 (fwd_mem hf)
      obtain ⟨h1, h2⟩ := hx
      exact ⟨by show σC to σ k = x; unfold σC; rw [hb]; exact h1, h2⟩
  | bx o off =>
    simp only [put0] at h
    cases hf : fwd to o with
    | none => rw [hf] at h; cases h
    | some k =>
      rw [hf] at h; cases h
      have hb := mem_bwd hn2 (fwd_mem hf)
      obtain ⟨b, h1, h2⟩ := hx
      exact ⟨b, by show boC to bo k = some b; unfold boC; rw [hb]; exact h1, h2⟩
  | v y => simp only [put0] at h; cases h; exact hx
  | lb y => simp only [put0] at h; cases h; exact hx
  | nl => simp only [put0] at h; cases h; exact hx
  | ro fl esz n L => simp only [put0] at h; cases h; exact RP.mono hx fun k hk => ⟨okS_okC k hk, rfl⟩
  | cl f cs =>
    simp only [put0] at h
    cases hm : mapC (fwd to) cs with
    | none => rw [hm] at h; cases h
    | some r =>
      rw [hm] at h; cases h
      obtain ⟨k1, k2⟩ := mapC_spec hm
      obtain ⟨vs, h1, h2, h3⟩ := hx
      refine ⟨vs, h1, by rw [h2, k1], fun j hj => ?_⟩
      rw [k1] at hj
      obtain ⟨b, h4, h5⟩ := h3 j hj
      obtain ⟨k3, k4⟩ := k2 j hj
      refine ⟨b, ?_, by rw [k4]; exact h5⟩
      show boC to bo _ = some b
      unfold boC
      rw [mem_bwd hn2 (fwd_mem k3)]
      exact h4
  | _ => simp [put0] at h

theorem putL_ok (hn2 : (to.map (·.2)).Nodup) : ∀ {cs cs' : List DV}, putL to cs = some cs' → cs'.length = cs.length ∧ ∀ (j : Nat) (x : Value), j < cs.length → RV0 (A.env S w bo σ) (cs.getD j .un) x → RV0 (envC A S w bo σ to lent) (cs'.getD j .un) x
  | [], cs', h => by simp [putL] at h; subst h; exact ⟨rfl, fun j x hj => by simp at hj⟩
  | d :: cs, cs', h => by
    simp only [putL] at h
    split at h
    · rename_i y ys h1 h2
      cases h
      obtain ⟨k1, k2⟩ := putL_ok hn2 h2
      refine ⟨by simp [k1], fun j x hj hx => ?_⟩
      cases j with
      | zero => simpa using put0_ok (lent := lent) hn2 h1 (by simpa using hx)
      | succ j => simpa using k2 j x (by simpa using hj) (by simpa using hx)
    · cases h

theorem argOf_ok (hR : Rel A S tm w bo σ kl) (hn2 : (to.map (·.2)).Nodup) {d d' : DV} {os os' : List (Ora P Φ)} {R D} (h : (argOf to d : RD P Φ DV).go S os = some (d', R, D, os')) :
    D = [] ∧ os' = os ∧ ∀ x, (∀ o ∈ lentIds0 to d, o ∈ lent) → RV0 (A.env S w bo σ) d x → RV0 (envC A S w bo σ to lent) d' x := by
  unfold argOf at h
  split at h
  · rename_i o
    split at h
    · rename_i k hk
      obtain ⟨rfl, -, rfl, rfl⟩ := go_ret h
      exact ⟨rfl, rfl, fun x _ hx => put0_ok (d := .ow o) (lent := lent) hn2 (by simp [put0, hk]) hx⟩
    · rename_i hk
      obtain ⟨x', R1, hx', h1, -⟩ := go_obj h
      split at h1
      · obtain ⟨rfl, -, rfl, rfl⟩ := go_ret h1
        refine ⟨rfl, rfl, fun x hl hx => ?_⟩
        have hl' : o ∈ lent := hl o (by simp [lentIds0, hk])
        refine row_rp (hR.ob o _ hx') hx okS_okC fun b hb => ?_
        have hv := hR.live o _ b hx' hb
        refine ⟨hv.1, fun h => .inr (hv.2 h), fun o2 x2 h2 h3 hb2 => ?_⟩
        have := hR.inj o o2 _ _ b hx' h2 hb hb2
        subst this
        rcases h3 with h3 | h3
        · rw [hk] at h3; cases h3
        · exact h3 hl'
      · exact (go_fail h1).elim
  · cases hp : put0 to d with
    | none => rw [hp] at h; exact (go_fail h).elim
    | some e =>
      rw [hp] at h
      obtain ⟨rfl, -, rfl, rfl⟩ := go_ret h
      exact ⟨rfl, rfl, fun x _ hx => put0_ok (lent := lent) hn2 hp hx⟩

theorem argL_ok (hR : Rel A S tm w bo σ kl) (hn2 : (to.map (·.2)).Nodup) : ∀ {cs cs' : List DV} {os os' : List (Ora P Φ)} {R D}, (argL to cs : RD P Φ (List DV)).go S os = some (cs', R, D, os') →
    D = [] ∧ os' = os ∧ cs'.length = cs.length ∧ ((∀ o ∈ cs.flatMap (lentIds0 to), o ∈ lent) → ∀ (j : Nat) (x : Value), j < cs.length → RV0 (A.env S w bo σ) (cs.getD j .un) x → RV0 (envC A S w bo σ to lent) (cs'.getD j .un) x)
  | [], cs', os, os', R, D, h => by
    obtain ⟨rfl, -, rfl, rfl⟩ := go_ret h
    exact ⟨rfl, rfl, rfl, fun _ j x hj => by simp at hj⟩
  | d :: cs, cs', os, os', R, D, h => by
    simp only [argL] at h
    obtain ⟨y, R1, D1, os1, R2, D2, h1, h2, rfl, rfl⟩ := go_bind _ _ h
    obtain ⟨ys, R3, D3, os3, R4, D4, h3, h4, rfl, rfl⟩ := go_bind _ _ h2
    obtain ⟨rfl, -, rfl, rfl⟩ := go_ret h4
    obtain ⟨rfl, rfl, k1⟩ := argOf_ok (lent := lent) hR hn2 h1
    obtain ⟨rfl, rfl, k2, k3⟩ := argL_ok hR hn2 h3
    refine ⟨rfl, rfl, by simp [k2], fun hl j x hj hx => ?_⟩
    simp only [List.flatMap_cons, List.mem_append] at hl
    cases j with
    | zero => simpa using k1 x (fun o h => hl o (.inl h)) (by simpa using hx)
    | succ j => simpa using k3 (fun o h => hl o (.inr h)) j x (by simpa using hj) (by simpa using hx)

theorem argOf1_ok (hR : Rel A S tm w bo σ kl) (hn2 : (to.map (·.2)).Nodup) {d d' : DV} {os os' : List (Ora P Φ)} {R D} (h : (argOf1 to d : RD P Φ DV).go S os = some (d', R, D, os')) :
    D = [] ∧ os' = os ∧ ∀ x, (∀ o ∈ lentIds1 to d, o ∈ lent) → RV (A.env S w bo σ) d x → RV1 (envC A S w bo σ to lent) d' x := by
  unfold argOf1 at h
  split at h
  · rename_i cs
    obtain ⟨ys, R3, D3, os3, R4, D4, h3, h4, rfl, rfl⟩ := go_bind _ _ h
    obtain ⟨rfl, -, rfl, rfl⟩ := go_ret h4
    obtain ⟨rfl, rfl, k2, k3⟩ := argL_ok (lent := lent) hR hn2 h3
    refine ⟨rfl, rfl, fun x hl hx => ?_⟩
    obtain ⟨vs, rfl, h5, h6⟩ := hx
    exact ⟨vs, rfl, by rw [h5, k2], fun j hj => ⟨k3 hl j _ (by omega) (h6 j (by omega)).1, (h6 j (by omega)).2⟩⟩
  · rename_i hna
    obtain ⟨rfl, rfl, k1⟩ := argOf_ok (lent := lent) hR hn2 h
    refine ⟨rfl, rfl, fun x hl hx => ?_⟩
    have hx0 : RV0 (A.env S w bo σ) d x := by
      cases d with
      | ag cs => exact absurd rfl (hna cs)
      | tu ds => simp [argOf, put0] at h; exact (go_fail h).elim
      | _ => exact hx
    have hl0 : ∀ o ∈ lentIds0 to d, o ∈ lent := by
      cases d with
      | ag cs => exact absurd rfl (hna cs)
      | _ => exact hl
    have := k1 x hl0 hx0
    cases d' with
    | ag cs => exact this.elim
    | _ => exact this

theorem argsOf_ok (hR : Rel A S tm w bo σ kl) (hn2 : (to.map (·.2)).Nodup) : ∀ {cs cs' : List DV} {os os' : List (Ora P Φ)} {R D}, (argsOf to cs : RD P Φ (List DV)).go S os = some (cs', R, D, os') →
    D = [] ∧ os' = os ∧ cs'.length = cs.length ∧ ((∀ o ∈ cs.flatMap (lentIds1 to), o ∈ lent) → ∀ (j : Nat) (x : Value), j < cs.length → RV (A.env S w bo σ) (cs.getD j .un) x → RV1 (envC A S w bo σ to lent) (cs'.getD j .un) x)
  | [], cs', os, os', R, D, h => by
    obtain ⟨rfl, -, rfl, rfl⟩ := go_ret h
    exact ⟨rfl, rfl, rfl, fun _ j x hj => by simp at hj⟩
  | d :: cs, cs', os, os', R, D, h => by
    simp only [argsOf] at h
    obtain ⟨y, R1, D1, os1, R2, D2, h1, h2, rfl, rfl⟩ := go_bind _ _ h
    obtain ⟨ys, R3, D3, os3, R4, D4, h3, h4, rfl, rfl⟩ := go_bind _ _ h2
    obtain ⟨rfl, -, rfl, rfl⟩ := go_ret h4
    obtain ⟨rfl, rfl, k1⟩ := argOf1_ok (lent := lent) hR hn2 h1
    obtain ⟨rfl, rfl, k2, k3⟩ := argsOf_ok hR hn2 h3
    refine ⟨rfl, rfl, by simp [k2], fun hl j x hj hx => ?_⟩
    simp only [List.flatMap_cons, List.mem_append] at hl
    cases j with
    | zero => simpa using k1 x (fun o h => hl o (.inl h)) (by simpa using hx)
    | succ j => simpa using k3 (fun o h => hl o (.inr h)) j x (by simpa using hj) (by simpa using hx)

/-- the callee's objects, as the caller has them -/
theorem preOf_ok (hR : Rel A S tm w bo σ kl) (hn2 : (to.map (·.2)).Nodup) : ∀ {pre pre' : Obs} {os os' : List (Ora P Φ)} {R D}, (preOf to pre : RD P Φ Obs).go S os = some (pre', R, D, os') →
    D = [] ∧ os' = os ∧ pre'.map (·.1) = pre.map (·.1) ∧ (∀ k ∈ pre.map (·.1), ∃ o x, bwd to k = some o ∧ S.obj o = some x) ∧ ∀ p ∈ pre', ObOk (envC A S w bo σ to lent) p.1 p.2
  | [], pre', os, os', R, D, h => by
    obtain ⟨rfl, -, rfl, rfl⟩ := go_ret h
    exact ⟨rfl, rfl, rfl, fun k hk => by simp at hk, fun p hp => by cases hp⟩
  | (k, y) :: l, pre', os, os', R, D, h => by
    simp only [preOf] at h
    split at h
    · rename_i o hb
      obtain ⟨x, R1, hx, h1, -⟩ := go_obj h
      obtain ⟨x', R2, D2, os2, R3, D3, h2, h3, rfl, rfl⟩ := go_bind _ _ h1
      obtain ⟨r, R4, D4, os4, R5, D5, h4, h5, rfl, rfl⟩ := go_bind _ _ h3
      obtain ⟨rfl, -, rfl, rfl⟩ := go_ret h5
      cases hp : putO to x with
      | none => rw [hp] at h2; exact (go_fail h2).elim
      | some y' =>
        rw [hp] at h2
        obtain ⟨rfl, -, rfl, rfl⟩ := go_ret h2
        obtain ⟨rfl, rfl, k1, k2, k3⟩ := preOf_ok hR hn2 h4
        refine ⟨rfl, rfl, by simp [k1], fun k' hk' => ?_, fun p hp' => ?_⟩
        · rcases List.mem_cons.1 hk' with rfl | hk'
          · exact ⟨o, x, hb, hx⟩
          · exact k2 k' hk'
        · rcases List.mem_cons.1 hp' with rfl | hp'
          · have ho := hR.ob o x hx
            have hbo : (envC A S w bo σ to lent).bo k = bo o := by show boC to bo k = bo o; unfold boC; rw [hb]; rfl
            have hσ : (envC A S w bo σ to lent).σ k = σ o := by show σC to σ k = σ o; unfold σC; rw [hb]
            cases x with
            | box cs =>
              simp only [putO] at hp
              cases hpl : putL to cs with
              | none => rw [hpl] at hp; cases hp
              | some cs' =>
                rw [hpl] at hp; cases hp
                obtain ⟨b, T, vs, g1, g2, g3, g4⟩ := ho
                obtain ⟨q1, q2⟩ := putL_ok (A := A) (S := S) (w := w) (bo := bo) (σ := σ) (lent := lent) hn2 hpl
                exact ⟨b, T, vs, by rw [hbo]; exact g1, g2, by rw [g3, q1], fun j hj => ⟨q2 j _ (by omega) (g4 j (by omega)).1, (g4 j (by omega)).2⟩⟩
            | row fl T esz n L =>
              simp only [putO] at hp; cases hp
              obtain ⟨g1, g2, g3, g4, g5, vs, g6, g7⟩ := ho
              refine ⟨g1, g2, g3, g4, by rw [hbo, hσ]; exact g5, vs, by rw [hσ]; exact g6, fun i j hi hj => ⟨(g7 i j hi hj).1.mono fun k hk => ⟨okS_okC k hk, rfl⟩, (g7 i j hi hj).2⟩⟩
          · exact k3 p hp'
    · exact (go_fail h).elim
end

end Go.Eng
