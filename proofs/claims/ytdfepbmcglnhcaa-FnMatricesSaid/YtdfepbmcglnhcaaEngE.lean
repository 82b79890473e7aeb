import Derived.Test.YtdfepbmcglnhcaaEngD
/-! Soundness, 2: one step. -/
set_option linter.unusedSimpArgs false
set_option linter.unusedVariables false
namespace Go.Eng
open Go

def putT (tm : Array Value) (dst : Option Nat) (v : Value) : Array Value := match dst with | some t => tm.setIfInBounds t v | none => tm

theorem wrOb_not {us : List (Nat × Option Ob)} {o : Nat} (h : o ∉ us.map (·.1)) (c : Option Ob) : wrOb us o c = c := by
  induction us generalizing c with
  | nil => rfl
  | cons p us ih =>
    simp only [List.map_cons, List.mem_cons, not_or] at h
    simp only [wrOb, List.foldl_cons]
    have : ¬ p.1 = o := fun e => h.1 e.symm
    simp only [this, if_false]
    exact ih h.2 c

theorem getD_set (tm : Array Value) (t u : Nat) (v : Value) : (tm.setIfInBounds t v).getD u undef' = if u = t ∧ t < tm.size then v else tm.getD u undef' := by
  simp only [Array.getD_eq_getD_getElem?, Array.getElem?_setIfInBounds]
  by_cases h : t = u
  · subst h
    by_cases h2 : t < tm.size
    · simp [h2]
    · simp [h2]
  · have : ¬ (u = t ∧ t < tm.size) := fun e => h e.1.symm
    simp [h, this]

theorem Rel.step {A : Amb} {S : St} {tm : Array Value} {w w' : World} {bo bo' : Nat → Option Nat} {σ σ' : Nat → Value} {kl : List Nat} (hR : Rel A S tm w bo σ kl)
    (u : Upd) (dst : Option Nat) (v : Value)
    (hkeep : Keep w w' (fun k => ∃ o ∈ u.ob.map (·.1), ∃ x, S.obj o = some x ∧ bo o = some k))
    (hbo : ∀ o ∈ kl, bo' o = bo o ∧ σ' o = σ o)
    (hsl : (u.sl = [] ∧ dst = none) ∨ ∃ t d, u.sl = [(t, d)] ∧ dst = some t ∧ RV (A.env (S.app u) w' bo' σ') d v ∧ ∀ o ∈ refs d, o ∈ u.new ++ kl)
    (hob : ∀ o x, o ∈ u.ob.map (·.1) → (S.app u).obj o = some x → ObOk (A.env (S.app u) w' bo' σ') o x ∧ o ∈ u.new ++ kl ∧ (∀ p ∈ orefs x, p ∈ u.new ++ kl) ∧
      (∀ b, bo' o = some b → b < w'.heap.size ∧ (b < w.heap.size → ∃ o2 ∈ u.ob.map (·.1), ∃ x2, S.obj o2 = some x2 ∧ bo o2 = some b)))
    (hinj : ∀ o o' x x' b, o ∈ u.ob.map (·.1) → o' ∈ u.ob.map (·.1) → (S.app u).obj o = some x → (S.app u).obj o' = some x' → bo' o = some b → bo' o' = some b → o = o') :
    Rel A (S.app u) (putT tm dst v) w' bo' σ' (u.new ++ kl) := by
  have hnot : ∀ o, o ∉ u.ob.map (·.1) → (S.app u).obj o = S.obj o := fun o ho => by rw [app_obj, wrOb_not ho]
  have hok : ∀ k, okS A S w bo k → okS A (S.app u) w' bo' k ∧ w'.heap[k]? = w.heap[k]? := by
    intro k ⟨h1, h2, h3⟩
    refine ⟨⟨Nat.lt_of_lt_of_le h1 hkeep.size, h2, fun o x hx hb => ?_⟩, hkeep.block k h1 ?_⟩
    · by_cases ho : o ∈ u.ob.map (·.1)
      · obtain ⟨o2, _, x2, h4, h5⟩ := ((hob o x ho hx).2.2.2 k hb).2 h1
        exact h3 o2 x2 h4 h5
      · rw [hnot o ho] at hx
        rw [(hbo o (hR.orf o x hx).1).1] at hb
        exact h3 o x hx hb
    · rintro ⟨o, _, x, h4, h5⟩
      exact h3 o x h4 h5
  have hslot : ∀ t, (S.app u).slot t = S.slot t ∨ ∃ d, u.sl = [(t, d)] ∧ t < S.fr.length ∧ (S.app u).slot t = d := by
    intro t
    rcases hsl with ⟨h1, _⟩ | ⟨t', d, h1, _⟩
    · exact .inl (by unfold St.app; rw [h1]; rfl)
    · have : (S.app u).slot t = if t = t' ∧ t' < S.fr.length then d else S.slot t := by
        unfold St.app; rw [h1]; exact slot_set S t' t d _
      rw [this]
      split
      · rename_i h; obtain ⟨rfl, h⟩ := h; exact .inr ⟨d, h1, h, rfl⟩
      · exact .inl rfl
  refine ⟨?_, ?_, ?_, ?_, ?_, ?_, ?_, ?_, ?_, ?_, hR.axo⟩
  · refine hR.keep.trans hkeep fun b hb ⟨o, _, x, h4, h5⟩ => (hR.live o x b h4 h5).2 hb
  · have : (S.app u).fr.length = S.fr.length := by unfold St.app; exact put_len S u.sl
    rw [this, ← hR.sz]
    unfold putT; split <;> simp
  · intro t
    have hold : RV (A.env (S.app u) w' bo' σ') (S.slot t) (tm.getD t undef') := (hR.sl t).mono hok fun o ho => hbo o (hR.rfs t o ho)
    rcases hsl with ⟨h1, h2⟩ | ⟨t', d, h1, h2, h3, _⟩
    · subst h2
      have : (S.app u).slot t = S.slot t := by unfold St.app; rw [h1]; rfl
      rw [this]; exact hold
    · subst h2
      have : (S.app u).slot t = if t = t' ∧ t' < S.fr.length then d else S.slot t := by
        unfold St.app; rw [h1]; exact slot_set S t' t d _
      rw [this]
      simp only [putT, getD_set, hR.sz]
      split
      · exact h3
      · exact hold
  · intro o x hx
    by_cases ho : o ∈ u.ob.map (·.1)
    · exact (hob o x ho hx).1
    · rw [hnot o ho] at hx
      have hkk := hR.orf o x hx
      refine (hR.ob o x hx).mono hok (fun b hb => ?_) (hbo o hkk.1) fun p hp => hbo p (hkk.2 p hp)
      refine hkeep.block b (hR.live o x b hx hb).1 ?_
      rintro ⟨o2, h4, x2, h5, h6⟩
      have := hR.inj o o2 x x2 b hx h5 hb h6
      subst this
      exact ho h4
  · intro o x b hx hb
    by_cases ho : o ∈ u.ob.map (·.1)
    · obtain ⟨h1, h2⟩ := (hob o x ho hx).2.2.2 b hb
      refine ⟨h1, fun hlt => ?_⟩
      obtain ⟨o2, _, x2, h5, h6⟩ := h2 (Nat.lt_of_lt_of_le hlt hR.keep.size)
      exact (hR.live o2 x2 b h5 h6).2 hlt
    · rw [hnot o ho] at hx
      rw [(hbo o (hR.orf o x hx).1).1] at hb
      obtain ⟨h1, h2⟩ := hR.live o x b hx hb
      exact ⟨Nat.lt_of_lt_of_le h1 hkeep.size, h2⟩
  · intro o o' x x' b hx hx' hb hb'
    by_cases ho : o ∈ u.ob.map (·.1) <;> by_cases ho' : o' ∈ u.ob.map (·.1)
    · exact hinj o o' x x' b ho ho' hx hx' hb hb'
    · rw [hnot o' ho'] at hx'
      rw [(hbo o' (hR.orf o' x' hx').1).1] at hb'
      obtain ⟨_, h2⟩ := (hob o x ho hx).2.2.2 b hb
      obtain ⟨o2, h4, x2, h5, h6⟩ := h2 (hR.live o' x' b hx' hb').1
      have := hR.inj o' o2 x' x2 b hx' h5 hb' h6
      subst this; exact absurd h4 ho'
    · rw [hnot o ho] at hx
      rw [(hbo o (hR.orf o x hx).1).1] at hb
      obtain ⟨_, h2⟩ := (hob o' x' ho' hx').2.2.2 b hb'
      obtain ⟨o2, h4, x2, h5, h6⟩ := h2 (hR.live o x b hx hb).1
      have := hR.inj o o2 x x2 b hx h5 hb h6
      subst this; exact absurd h4 ho
    · rw [hnot o ho] at hx
      rw [hnot o' ho'] at hx'
      rw [(hbo o (hR.orf o x hx).1).1] at hb
      rw [(hbo o' (hR.orf o' x' hx').1).1] at hb'
      exact hR.inj o o' x x' b hx hx' hb hb'
  · intro p hp
    obtain ⟨h1, h2⟩ := hbo p.1 (hR.prk p hp)
    rw [h1, h2]; exact hR.pre p hp
  · intro p hp; exact List.mem_append.2 (.inr (hR.prk p hp))
  · intro t o ho
    rcases hslot t with h | ⟨d, h1, _, h3⟩
    · rw [h] at ho; exact List.mem_append.2 (.inr (hR.rfs t o ho))
    · rw [h3] at ho
      rcases hsl with ⟨h4, _⟩ | ⟨t', d', h4, _, _, h5⟩
      · rw [h1] at h4; cases h4
      · rw [h1] at h4; cases h4; exact h5 o ho
  · intro o x hx
    by_cases ho : o ∈ u.ob.map (·.1)
    · exact ⟨(hob o x ho hx).2.1, (hob o x ho hx).2.2.1⟩
    · rw [hnot o ho] at hx
      have := hR.orf o x hx
      exact ⟨List.mem_append.2 (.inr this.1), fun p hp => List.mem_append.2 (.inr (this.2 p hp))⟩

/-- an update that touches one slot alone -/
theorem Rel.set {A : Amb} {S : St} {tm : Array Value} {w w' : World} {bo : Nat → Option Nat} {σ : Nat → Value} {kl : List Nat} (hR : Rel A S tm w bo σ kl)
    (dst : Option Nat) (d : DV) (v : Value) (hk : Keep w w' (fun _ => False)) (hv : RV (A.env S w' bo σ) d v) (hr : ∀ o ∈ refs d, o ∈ kl) : Rel A (S.app (one dst d)) (putT tm dst v) w' bo σ kl := by
  have hob : (one dst d).ob = [] := rfl
  have hk' : Keep w w' (fun k => ∃ o ∈ (one dst d).ob.map (·.1), ∃ x, S.obj o = some x ∧ bo o = some k) := ⟨hk.os, hk.tape, hk.output, hk.size, fun k h1 _ => hk.block k h1 (fun h => h)⟩
  refine hR.step (one dst d) dst v hk' (fun _ _ => ⟨rfl, rfl⟩) ?_ (fun o x h => by simp [hob] at h) (fun o o' x x' b h => by simp [hob] at h)
  cases dst with
  | none => exact .inl ⟨rfl, rfl⟩
  | some t => 
    refine .inr ⟨t, d, rfl, rfl, ?_, hr⟩
    exact hv

end Go.Eng
