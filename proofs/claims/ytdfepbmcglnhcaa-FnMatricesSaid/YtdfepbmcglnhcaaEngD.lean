import Derived.Test.YtdfepbmcglnhcaaEngC
/-! Soundness, 1: what stays true when the world goes on. -/
set_option linter.unusedSimpArgs false
set_option linter.unusedVariables false
namespace Go.Eng
open Go

theorem RP.mono {w w' : World} {ok ok' : Nat → Prop} {d : DV} {x : Value} (h : RP w ok d x) (hm : ∀ k, ok k → ok' k ∧ w'.heap[k]? = w.heap[k]?) : RP w' ok' d x := by
  induction h with
  | v x => exact .v x
  | lb b => exact .lb b
  | nl => exact .nl
  | ro fl esz n L A c ad f hL hc hm' hA he hf hr h1 hp ih =>
    rcases hA with h0 | ⟨hA, hok⟩
    · exact .ro fl esz n L A c ad f hL hc hm' (.inl h0) he hf (fun i j hi => by omega) (fun i j hi => by omega) (fun i j hi => by omega)
    · refine .ro fl esz n L A c ad f hL hc hm' (.inr ⟨hA, (hm _ hok).1⟩) he hf (fun i j hi hj => ?_) h1 ih
      rw [← hr i j hi hj]
      refine World.cell?_of_block ?_
      have : (ad.add (i * esz + j)).block = ad.block := by unfold Addr.add; split <;> rfl
      rw [this]; exact (hm _ hok).2

theorem add_block (a : Addr) (n : Nat) : (a.add n).block = a.block := by unfold Addr.add; split <;> rfl

/-- flat things do not ask for memory -/
theorem RP.flat {w : World} {ok ok' : Nat → Prop} {w' : World} {d : DV} {x : Value} (h : RP w ok d x) (hd : flatD d = true) : RP w' ok' d x := by
  cases h with
  | v x => exact .v x
  | lb b => exact .lb b
  | nl => simp [flatD] at hd
  | ro => simp [flatD] at hd

theorem RV0.mono {E E' : Env} {d : DV} {x : Value} (h : RV0 E d x) (hm : ∀ k, E.ok k → E'.ok k ∧ E'.w.heap[k]? = E.w.heap[k]?) (hb : ∀ o ∈ refs0 d, E'.bo o = E.bo o ∧ E'.σ o = E.σ o) : RV0 E' d x := by
  cases d with
  | un => trivial
  | v y => exact h
  | lb b => exact h
  | nl => exact h
  | bx o off => obtain ⟨b, h1, h2⟩ := h; exact ⟨b, by rw [(hb o (by simp [refs0])).1]; exact h1, h2⟩
  | ow o => exact ⟨by rw [(hb o (by simp [refs0])).2]; exact h.1, h.2⟩
  | pw o i esz off => obtain ⟨b, h1, h2⟩ := h; exact ⟨b, by rw [(hb o (by simp [refs0])).1]; exact h1, h2⟩
  | ro fl esz n L => exact RP.mono h hm
  | pe cs off =>
    obtain ⟨a0, h1, h2, h3⟩ := h
    refine ⟨a0, (hm _ h1).1, h2, fun j hj => ?_⟩
    obtain ⟨y, h4, h5, h6⟩ := h3 j hj
    exact ⟨y, by rw [← h4]; exact World.cell?_of_block (by rw [add_block]; exact (hm _ h1).2), h5, h6.mono hm⟩
  | ag cs => exact h
  | tu vs => exact h
  | cl f cs =>
    obtain ⟨vs, h1, h2, h3⟩ := h
    refine ⟨vs, h1, h2, fun j hj => ?_⟩
    obtain ⟨b, h4, h5⟩ := h3 j hj
    refine ⟨b, ?_, h5⟩
    rw [(hb (cs.getD j (0, 0)).1 (by simp only [refs0, List.mem_map]; exact ⟨_, by simp [List.getD_eq_getElem?_getD, hj], rfl⟩)).1]; exact h4

theorem getD_mem {α : Type} (l : List α) (j : Nat) (d : α) (h : j < l.length) : l.getD j d ∈ l := by
  simp [List.getD_eq_getElem?_getD, h]

theorem RV1.mono {E E' : Env} {d : DV} {x : Value} (h : RV1 E d x) (hm : ∀ k, E.ok k → E'.ok k ∧ E'.w.heap[k]? = E.w.heap[k]?) (hb : ∀ o ∈ refs1 d, E'.bo o = E.bo o ∧ E'.σ o = E.σ o) : RV1 E' d x := by
  cases d with
  | ag cs =>
    obtain ⟨vs, h1, h2, h3⟩ := h
    refine ⟨vs, h1, h2, fun j hj => ⟨(h3 j hj).1.mono hm fun o ho => hb o ?_, (h3 j hj).2⟩⟩
    simp only [refs1, List.mem_flatMap]
    exact ⟨_, getD_mem cs j _ hj, ho⟩
  | _ => simp only [RV1] at h ⊢; exact RV0.mono h hm hb

theorem RV.mono {E E' : Env} {d : DV} {x : Value} (h : RV E d x) (hm : ∀ k, E.ok k → E'.ok k ∧ E'.w.heap[k]? = E.w.heap[k]?) (hb : ∀ o ∈ refs d, E'.bo o = E.bo o ∧ E'.σ o = E.σ o) : RV E' d x := by
  cases d with
  | tu vs =>
    obtain ⟨xs, h1, h2, h3⟩ := h
    refine ⟨xs, h1, h2, fun j hj => (h3 j hj).mono hm fun o ho => hb o ?_⟩
    simp only [refs, List.mem_flatMap]
    exact ⟨_, getD_mem vs j _ hj, ho⟩
  | _ => simp only [RV] at h ⊢; exact RV1.mono h hm hb

theorem ownBlock_lt {w : World} {T esz n : Nat} {v : Value} {xs : List Value} (h : w.ownsRow 0 T esz v n xs) {b : Nat} (hb : v.ownBlock = some b) : b < w.heap.size := (h.lt b hb).2

theorem ownsRow_block {w w' : World} {T esz n : Nat} {v : Value} {xs : List Value} (h : w.ownsRow 0 T esz v n xs) (hb : ∀ b, v.ownBlock = some b → w'.heap[b]? = w.heap[b]?) : w'.ownsRow 0 T esz v n xs := by
  obtain ⟨h1, h2⟩ := h
  refine ⟨h1, ?_⟩
  rcases h2 with h2 | ⟨g, cap, cur, rfl, hg, hh, h3⟩
  · exact .inl h2
  · exact .inr ⟨g, cap, cur, rfl, hg, by rw [hb g (by simp [Value.ownBlock])]; exact hh, h3⟩

theorem ObOk.mono {E E' : Env} {o : Nat} {x : Ob} (h : ObOk E o x) (hm : ∀ k, E.ok k → E'.ok k ∧ E'.w.heap[k]? = E.w.heap[k]?) (hself : ∀ b, E.bo o = some b → E'.w.heap[b]? = E.w.heap[b]?)
    (ho : E'.bo o = E.bo o ∧ E'.σ o = E.σ o) (hb : ∀ p ∈ orefs x, E'.bo p = E.bo p ∧ E'.σ p = E.σ p) : ObOk E' o x := by
  cases x with
  | box cs =>
    obtain ⟨b, T, vs, h1, h2, h3, h4⟩ := h
    refine ⟨b, T, vs, by rw [ho.1]; exact h1, by rw [hself b h1]; exact h2, h3, fun j hj => ⟨(h4 j hj).1.mono hm fun p hp => hb p ?_, (h4 j hj).2⟩⟩
    simp only [orefs, List.mem_flatMap]
    exact ⟨_, getD_mem cs j _ hj, hp⟩
  | row fl T esz n L =>
    obtain ⟨h1, h2, h3, hfl, h4, vs, h5, h6⟩ := h
    refine ⟨h1, h2, h3, hfl, by rw [ho.1, ho.2]; exact h4, vs, ?_, fun i j hi hj => ⟨(h6 i j hi hj).1.mono hm, (h6 i j hi hj).2⟩⟩
    rw [ho.2]
    exact ownsRow_block h5 fun b hb' => hself b (by rw [h4]; exact hb')

/-- the call's surroundings -/
structure Amb where
  w0 : World
  bo : Nat → Option Nat
  σ : Nat → Value
  ok : Nat → Prop
  pre : Obs

def Amb.X (A : Amb) (k : Nat) : Prop := ∃ p ∈ A.pre, A.bo p.1 = some k

def okS (A : Amb) (S : St) (w : World) (bo : Nat → Option Nat) (k : Nat) : Prop :=
  k < w.heap.size ∧ (k < A.w0.heap.size → A.ok k ∨ A.X k) ∧ ∀ o x, S.obj o = some x → bo o ≠ some k

def Amb.env (A : Amb) (S : St) (w : World) (bo : Nat → Option Nat) (σ : Nat → Value) : Env := ⟨w, bo, σ, okS A S w bo⟩

structure Rel (A : Amb) (S : St) (tm : Array Value) (w : World) (bo : Nat → Option Nat) (σ : Nat → Value) (kl : List Nat) : Prop where
  keep : Keep A.w0 w A.X
  sz : tm.size = S.fr.length
  sl : ∀ t, RV (A.env S w bo σ) (S.slot t) (tm.getD t undef')
  ob : ∀ o x, S.obj o = some x → ObOk (A.env S w bo σ) o x
  live : ∀ o x b, S.obj o = some x → bo o = some b → b < w.heap.size ∧ (b < A.w0.heap.size → A.X b)
  inj : ∀ o o' x x' b, S.obj o = some x → S.obj o' = some x' → bo o = some b → bo o' = some b → o = o'
  pre : ∀ p ∈ A.pre, bo p.1 = A.bo p.1 ∧ σ p.1 = A.σ p.1
  prk : ∀ p ∈ A.pre, p.1 ∈ kl
  rfs : ∀ t o, o ∈ refs (S.slot t) → o ∈ kl
  orf : ∀ o x, S.obj o = some x → o ∈ kl ∧ ∀ p ∈ orefs x, p ∈ kl
  axo : ∀ k, A.ok k → ¬ A.X k

theorem Keep.refl (w : World) (X : Nat → Prop) : Keep w w X := ⟨rfl, rfl, rfl, Nat.le_refl _, fun _ _ _ => rfl⟩

theorem Keep.trans {w w1 w2 : World} {X Y : Nat → Prop} (h : Keep w w1 X) (k : Keep w1 w2 Y) (hxy : ∀ b, b < w.heap.size → Y b → X b) : Keep w w2 X :=
  ⟨k.os.trans h.os, k.tape.trans h.tape, k.output.trans h.output, Nat.le_trans h.size k.size, fun b hb hx =>
    (k.block b (Nat.lt_of_lt_of_le hb h.size) fun hy => hx (hxy b hb hy)).trans (h.block b hb hx)⟩

theorem lk_del (o o' : Nat) (l : Obs) : lk o' (del o l) = if o' = o then none else lk o' l := by
  induction l with
  | nil => simp [del, lk]
  | cons p l ih =>
    obtain ⟨k, x⟩ := p
    by_cases h : k = o
    · subst h
      simp only [del, beq_self_eq_true, if_true, ih, lk]
      by_cases h2 : o' = k
      · simp [h2]
      · have : (k == o') = false := by simp; omega
        simp [h2, this]
    · have hk : (k == o) = false := by simp [h]
      simp only [del, hk, Bool.false_eq_true, if_false, lk, ih]
      by_cases h2 : k = o'
      · subst h2; simp [h]
      · have : (k == o') = false := by simp [h2]
        simp [this]

theorem lk_setOb (o o' : Nat) (x : Ob) (l : Obs) : lk o' (setOb o x l) = if o' = o then some x else lk o' l := by
  induction l with
  | nil => 
    simp only [setOb, lk]
    by_cases h : o' = o
    · simp [h]
    · have : (o == o') = false := by simp; omega
      simp [h, this]
  | cons p l ih =>
    obtain ⟨k, y⟩ := p
    by_cases h : k = o
    · subst h
      simp only [setOb, beq_self_eq_true, if_true, lk]
      by_cases h2 : k = o'
      · subst h2; simp
      · have : (k == o') = false := by simp [h2]
        have h3 : ¬ o' = k := fun e => h2 e.symm
        simp [this, h3]
    · have hk : (k == o) = false := by simp [h]
      simp only [setOb, hk, Bool.false_eq_true, if_false, lk, ih]
      by_cases h2 : k = o'
      · subst h2; simp [h]
      · have : (k == o') = false := by simp [h2]
        simp [this]

/-- what an update writes at an object -/
def wrOb (us : List (Nat × Option Ob)) (o : Nat) (c : Option Ob) : Option Ob := us.foldl (fun c p => if p.1 = o then p.2 else c) c

theorem lk_putOb (us : List (Nat × Option Ob)) (o : Nat) (l : Obs) : lk o (putOb us l) = wrOb us o (lk o l) := by
  induction us generalizing l with
  | nil => rfl
  | cons p us ih =>
    obtain ⟨k, x⟩ := p
    cases x with
    | some x =>
      simp only [putOb, ih, lk_setOb, wrOb, List.foldl_cons]
      congr 1
      by_cases h : o = k
      · simp [h]
      · have : ¬ k = o := fun e => h e.symm
        simp [h, this]
    | none =>
      simp only [putOb, ih, lk_del, wrOb, List.foldl_cons]
      congr 1
      by_cases h : o = k
      · simp [h]
      · have : ¬ k = o := fun e => h e.symm
        simp [h, this]

theorem put_ob (S : St) (l : List (Nat × DV)) : (S.put l).ob = S.ob := by
  induction l generalizing S with
  | nil => rfl
  | cons p l ih => obtain ⟨t, d⟩ := p; simp only [St.put, ih]

theorem put_len (S : St) (l : List (Nat × DV)) : (S.put l).fr.length = S.fr.length := by
  induction l generalizing S with
  | nil => rfl
  | cons p l ih => obtain ⟨t, d⟩ := p; simp only [St.put, ih, List.length_set]

theorem app_obj (S : St) (u : Upd) (o : Nat) : (S.app u).obj o = wrOb u.ob o (S.obj o) := by
  unfold St.app St.obj; rw [lk_putOb]

theorem app_slot (S : St) (sl : List (Nat × DV)) (ob : List (Nat × Option Ob)) (new : List Nat) (t : Nat) : (S.app ⟨sl, ob, new⟩).slot t = (S.put sl).slot t := rfl

theorem slot_set (S : St) (t u : Nat) (d : DV) (ob : Obs) : St.slot ⟨S.fr.set t d, ob⟩ u = if u = t ∧ t < S.fr.length then d else S.slot u := by
  simp only [St.slot, List.getD_eq_getElem?_getD, List.getElem?_set]
  by_cases h : t = u
  · subst h
    by_cases h2 : t < S.fr.length
    · simp [h2]
    · simp [h2]
  · have : ¬ (u = t ∧ t < S.fr.length) := fun e => h e.1.symm
    simp [h, this]

end Go.Eng
