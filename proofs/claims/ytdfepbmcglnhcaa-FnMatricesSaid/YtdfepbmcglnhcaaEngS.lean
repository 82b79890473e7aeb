import Derived.Test.YtdfepbmcglnhcaaEngR
set_option linter.unusedSimpArgs false
set_option linter.unusedVariables false
/-! Soundness, 16: regions, in the text's order and in any order. -/
namespace Go.Eng
open Go
variable {P : Program} {Φ : List It → St → Prop}

def Agree (S T : St) : Loc → Prop
  | .sl t => S.slot t = T.slot t
  | .ob o => S.obj o = T.obj o

/-- what an operation does depends on what it reads -/
theorem go_local {α : Type} {S T : St} (m : RD P Φ α) : ∀ {os : List (Ora P Φ)} {b R D os'}, m.go S os = some (b, R, D, os') → (∀ l ∈ R, Agree S T l) → m.go T os = some (b, R, D, os') := by
  induction m with
  | ret a => intro os b R D os' h _; exact h
  | slot t k ih =>
    intro os b R D os' h hag
    obtain ⟨R1, h1, rfl⟩ := go_slot h
    have e : S.slot t = T.slot t := hag (.sl t) (by simp)
    have := ih _ h1 fun l hl => hag l (by simp [hl])
    simp only [RD.go, ← e, this]
  | obj o k ih =>
    intro os b R D os' h hag
    obtain ⟨x, R1, hx, h1, rfl⟩ := go_obj h
    have e : S.obj o = T.obj o := hag (.ob o) (by simp)
    have := ih _ h1 fun l hl => hag l (by simp [hl])
    simp only [RD.go, ← e, hx, this]
  | peek k ih =>
    intro os b R D os' h hag
    obtain ⟨q, os1, rfl, h1⟩ := go_peek h
    have := ih q h1 hag
    simpa only [RD.go] using this
  | req d k ih =>
    intro os b R D os' h hag
    obtain ⟨q, os1, D1, rfl, h1, rfl⟩ := go_req h
    have := ih h1 hag
    simp only [RD.go, this]
  | fail => intro os b R D os' h; exact (go_fail h).elim

/-- an operation that goes alike in all states that agree where it reads -/
def Good (P : Program) (A : Amb) (all : Array Oper) (o : Oper) (S : St) (u : Upd) (R : List Loc) : Prop :=
  ∀ T kl, (∀ l ∈ R, Agree S T l) → GOk P A all o T u kl

def ith (us : List Upd) (m : Nat) : Upd := us.getD m ⟨[], [], []⟩

theorem ops_good {A : Amb} {all : Array Oper} : ∀ {l : List Oper} {i : Nat} {S S' : St} {kl kl' : List Nat} {os os' : List (Ora P Φ)} {I : List Info} {D},
    ops all.toList i l S kl os = some (S', kl', I, D, os') → (∀ d ∈ D, Sat P Φ d) →
    ∃ us : List Upd, us.length = l.length ∧ I.length = l.length ∧ S' = us.foldl St.app S ∧ (∀ x, x ∈ kl' ↔ x ∈ kl ∨ ∃ u ∈ us, x ∈ u.new) ∧
      (∀ m, m < l.length → (∀ x ∈ (ith us m).new, x ∉ kl ∧ ∀ m', m' < m → x ∉ (ith us m').new)) ∧
      ∀ m o, l[m]? = some o → (I.getD m ⟨[], []⟩).W = (ith us m).locs ∧ Good P A all o ((us.take m).foldl St.app S) (ith us m) (I.getD m ⟨[], []⟩).R
  | [], i, S, S', kl, kl', os, os', I, D, h, _ => by
    simp only [ops] at h
    cases h
    exact ⟨[], rfl, rfl, rfl, fun x => by simp, fun m hm => by simp at hm, fun m o hm => by simp at hm⟩
  | o :: l, i, S, S', kl, kl', os, os', I, D, h, hs => by
    simp only [ops] at h
    split at h
    · rename_i u R D1 os1 h1
      split at h
      · rename_i hfr
        split at h
        · rename_i S2 kl2 I2 D2 os2 h2
          cases h
          simp only [Bool.and_eq_true, List.all_eq_true, Bool.not_eq_true', List.any_eq_false, beq_iff_eq] at hfr
          obtain ⟨us, g1, g2, g3, g4, g5, g6⟩ := ops_good h2 (fun d hd => hs d (by simp [hd]))
          refine ⟨u :: us, by simp [g1], by simp [g2], g3, fun x => ?_, fun m hm => ?_, fun m o' hm => ?_⟩
          · rw [g4]; simp only [List.mem_append, List.mem_cons, exists_eq_or_imp]
            constructor
            · rintro ((h | h) | h)
              · exact .inr (.inl h)
              · exact .inl h
              · exact .inr (.inr h)
            · rintro (h | h | h)
              · exact .inl (.inr h)
              · exact .inl (.inl h)
              · exact .inr h
          · cases m with
            | zero =>
              intro x hx
              exact ⟨fun hk => hfr.2 x hx x hk rfl, fun m' hm' => by omega⟩
            | succ m =>
              intro x hx
              have := g5 m (by simpa using hm) x hx
              refine ⟨fun hk => this.1 (List.mem_append.2 (.inr hk)), fun m' hm' => ?_⟩
              cases m' with
              | zero => exact fun hk => this.1 (List.mem_append.2 (.inl hk))
              | succ m' => exact this.2 m' (by omega)
          · cases m with
            | zero =>
              simp at hm; subst hm
              refine ⟨rfl, fun T kl0 hag => ?_⟩
              exact opG_ok (go_local _ h1 hag) (fun d hd => hs d (by simp [hd]))
            | succ m =>
              exact g6 m o' (by simpa using hm)
        · cases h
      · cases h
    · cases h

theorem GOk.wpOp {A : Amb} {all : Array Oper} {o : Oper} {S : St} {u : Upd} {kl : List Nat} (h : GOk P A all o S u kl) {j : Nat} (hj : all[j]? = some o) {a : Act} {w : World} {bo : Nat → Option Nat} {σ : Nat → Value} (hR : Rel A S a.tmps w bo σ kl) (hn : ∀ n ∈ u.new, n ∉ kl)
    {K : Act → World → Prop} {Q : Exit → Act → World → Prop} (hK : ∀ v w' bo' σ', Rel A (S.app u) (putT a.tmps o.dst v) w' bo' σ' (u.new ++ kl) → K (a.put o.dst v) w') : wpOp P all Q j K a w := by
  have := h a w bo σ hR hn K Q hK
  unfold Go.wpOp
  rw [hj]
  simp only
  split
  · rename_i hw; rw [if_pos hw] at this; exact .inl this
  · rename_i hw; rw [if_neg hw] at this; exact this

theorem put_defers' (a : Act) (dst : Option Nat) (v : Value) : (a.put dst v).defers = a.defers := by cases dst <;> rfl

/-- in the text's order -/
theorem ops_seq {A : Amb} {all : Array Oper} {Q : Exit → Act → World → Prop} : ∀ {l : List Oper} {i : Nat} {S S' : St} {kl kl' : List Nat} {os os' : List (Ora P Φ)} {I : List Info} {D},
    ops all.toList i l S kl os = some (S', kl', I, D, os') → (∀ d ∈ D, Sat P Φ d) → all.toList.drop i = l →
    ∀ (a : Act) (w : World) (bo : Nat → Option Nat) (σ : Nat → Value), Rel A S a.tmps w bo σ kl →
      (∀ a' w' bo' σ', a'.defers = a.defers → Rel A S' a'.tmps w' bo' σ' kl' → Q .normal a' w') → wpOps P all Q (List.range' i l.length) a w
  | [], i, S, S', kl, kl', os, os', I, D, h, _, _, a, w, bo, σ, hR, hQ => by
    simp only [ops] at h
    cases h
    exact hQ a w bo σ rfl hR
  | o :: l, i, S, S', kl, kl', os, os', I, D, h, hs, hl, a, w, bo, σ, hR, hQ => by
    simp only [ops] at h
    split at h
    · rename_i u R D1 os1 h1
      split at h
      · rename_i hfr
        split at h
        · rename_i S2 kl2 I2 D2 os2 h2
          cases h
          simp only [Bool.and_eq_true, List.all_eq_true, Bool.not_eq_true', List.any_eq_false, beq_iff_eq] at hfr
          have hi : all[i]? = some o := by
            have : (all.toList.drop i)[0]? = some o := by rw [hl]; rfl
            simpa using this
          have hl' : all.toList.drop (i + 1) = l := by
            rw [← List.drop_drop, hl]; rfl
          simp only [List.length_cons, List.range'_succ, wpOps_cons]
          refine (opG_ok (A := A) (kl := kl) h1 (fun d hd => hs d (by simp [hd]))).wpOp hi hR (fun n hn hk => hfr.2 n hn n hk rfl) fun v w' bo' σ' hR' => ?_
          refine ops_seq h2 (fun d hd => hs d (by simp [hd])) hl' _ w' bo' σ' (by rw [put_tmps]; exact hR') fun a' w2 bo2 σ2 hd hR2 => hQ a' w2 bo2 σ2 (by rw [hd, put_defers']) hR2
        · cases h
      · cases h
    · cases h

/-! in any order -/
def mixF (L : Nat → Bool) : Nat → List Upd → St → St
  | _, [], S => S
  | i, u :: us, S => mixF L (i + 1) us (if L i then S.app u else S)

theorem app_len (S : St) (u : Upd) : (S.app u).fr.length = S.fr.length := put_len S u.sl

theorem mixF_len (L : Nat → Bool) : ∀ (us : List Upd) (i : Nat) (S : St), (mixF L i us S).fr.length = S.fr.length
  | [], _, _ => rfl
  | u :: us, i, S => by
    simp only [mixF]; rw [mixF_len L us]; split
    · exact app_len S u
    · rfl

theorem slot_put_not (S : St) (l : List (Nat × DV)) (t : Nat) (h : t ∉ l.map (·.1)) : (S.put l).slot t = S.slot t := by
  induction l generalizing S with
  | nil => rfl
  | cons p l ih =>
    obtain ⟨a, d⟩ := p
    simp only [List.map_cons, List.mem_cons, not_or] at h
    simp only [St.put]
    rw [ih _ h.2, slot_set]
    have : ¬ (t = a ∧ a < S.fr.length) := fun e => h.1 e.1
    rw [if_neg this]

theorem slot_put_both {S T : St} (l : List (Nat × DV)) (t : Nat) (hl : S.fr.length = T.fr.length) (h : t ∈ l.map (·.1) ∨ S.slot t = T.slot t) : (S.put l).slot t = (T.put l).slot t := by
  induction l generalizing S T with
  | nil => rcases h with h | h
           · simp at h
           · exact h
  | cons p l ih =>
    obtain ⟨a, d⟩ := p
    simp only [St.put]
    refine ih (by simp [hl]) ?_
    rw [slot_set, slot_set, hl]
    by_cases ht : t = a
    · refine .inr ?_
      subst ht
      by_cases hlt : t < T.fr.length
      · rw [if_pos ⟨rfl, hlt⟩, if_pos ⟨rfl, hlt⟩]
      · have : ¬ (t = t ∧ t < T.fr.length) := fun e => hlt e.2
        rw [if_neg this, if_neg this]
        have e1 : S.slot t = .un := by unfold St.slot; rw [List.getD_eq_getElem?_getD, List.getElem?_eq_none (by omega)]; rfl
        have e2 : T.slot t = .un := by unfold St.slot; rw [List.getD_eq_getElem?_getD, List.getElem?_eq_none (by omega)]; rfl
        rw [e1, e2]
    · have : ∀ n : Nat, ¬ (t = a ∧ a < n) := fun n e => ht e.1
      rw [if_neg (this _), if_neg (this _)]
      rcases h with h | h
      · simp only [List.map_cons, List.mem_cons] at h
        exact .inl (h.resolve_left ht)
      · exact .inr h

theorem wrOb_in {us : List (Nat × Option Ob)} {o : Nat} : ∀ {c c' : Option Ob}, (o ∈ us.map (·.1) ∨ c = c') → wrOb us o c = wrOb us o c' := by
  induction us with
  | nil => intro c c' h; rcases h with h | h
           · simp at h
           · rw [h]
  | cons p us ih =>
    intro c c' h
    simp only [wrOb, List.foldl_cons]
    refine ih ?_
    by_cases hp : p.1 = o
    · exact .inr (by simp [hp])
    · rcases h with h | h
      · simp only [List.map_cons, List.mem_cons] at h
        exact .inl (h.resolve_left fun e => hp e.symm)
      · exact .inr (by rw [h])

theorem mem_locs_sl {u : Upd} {t : Nat} : Loc.sl t ∈ u.locs ↔ t ∈ u.sl.map (·.1) := by
  simp only [Upd.locs, List.mem_append, List.mem_map]
  constructor
  · rintro (⟨p, hp, h⟩ | ⟨p, _, h⟩)
    · cases h; exact ⟨p, hp, rfl⟩
    · cases h
  · rintro ⟨p, hp, rfl⟩; exact .inl ⟨p, hp, rfl⟩

theorem mem_locs_ob {u : Upd} {o : Nat} : Loc.ob o ∈ u.locs ↔ o ∈ u.ob.map (·.1) := by
  simp only [Upd.locs, List.mem_append, List.mem_map]
  constructor
  · rintro (⟨p, _, h⟩ | ⟨p, hp, h⟩)
    · cases h
    · cases h; exact ⟨p, hp, rfl⟩
  · rintro ⟨p, hp, rfl⟩; exact .inr ⟨p, hp, rfl⟩

theorem agree_app_not {S : St} {u : Upd} {l : Loc} (h : l ∉ u.locs) : Agree (S.app u) S l := by
  cases l with
  | sl t => exact slot_put_not S u.sl t fun e => h (mem_locs_sl.2 e)
  | ob o =>
    show (S.app u).obj o = S.obj o
    rw [app_obj, wrOb_not fun e => h (mem_locs_ob.2 e)]

theorem agree_app_both {S T : St} {u : Upd} {l : Loc} (hl : S.fr.length = T.fr.length) (h : l ∈ u.locs ∨ Agree S T l) : Agree (S.app u) (T.app u) l := by
  cases l with
  | sl t => exact slot_put_both u.sl t hl (h.imp mem_locs_sl.1 id)
  | ob o =>
    show (S.app u).obj o = (T.app u).obj o
    rw [app_obj, app_obj]
    exact wrOb_in (h.imp mem_locs_ob.1 id)

theorem Agree.trans {S T U : St} {l : Loc} (h : Agree S T l) (k : Agree T U l) : Agree S U l := by cases l <;> exact Eq.trans h k
theorem Agree.symm {S T : St} {l : Loc} (h : Agree S T l) : Agree T S l := by cases l <;> exact Eq.symm h
theorem Agree.refl (S : St) (l : Loc) : Agree S S l := by cases l <;> rfl

/-- two mixes, updates that differ not touching the place -/
theorem mixF_agree {L L' : Nat → Bool} {l : Loc} : ∀ (us : List Upd) (i : Nat) (S T : St), S.fr.length = T.fr.length → Agree S T l → (∀ m, m < us.length → L (i + m) = L' (i + m) ∨ l ∉ (ith us m).locs) → Agree (mixF L i us S) (mixF L' i us T) l
  | [], _, _, _, _, h, _ => h
  | u :: us, i, S, T, hl, h, hm => by
    simp only [mixF]
    refine mixF_agree us (i + 1) _ _ ?_ ?_ (fun m hmm => ?_)
    · split <;> split <;> simp [app_len, hl]
    · rcases hm 0 (by simp) with h0 | h0
      · simp only [Nat.add_zero] at h0
        rw [h0]
        split
        · exact agree_app_both hl (.inr h)
        · exact h
      · have h0' : l ∉ u.locs := h0
        split <;> split
        · exact agree_app_both hl (.inr h)
        · exact (agree_app_not h0').trans h
        · exact h.trans (agree_app_not h0').symm
        · exact h
    · have := hm (m + 1) (by simpa using hmm)
      rw [show i + 1 + m = i + (m + 1) from by omega]
      exact this

theorem mixF_split (L : Nat → Bool) : ∀ (us vs : List Upd) (i : Nat) (S : St), mixF L i (us ++ vs) S = mixF L (i + us.length) vs (mixF L i us S)
  | [], vs, i, S => rfl
  | u :: us, vs, i, S => by
    simp only [List.cons_append, mixF, List.length_cons]
    rw [mixF_split L us vs]
    congr 1; omega

theorem mixF_all : ∀ (us : List Upd) (i : Nat) (S : St), mixF (fun _ => true) i us S = us.foldl St.app S
  | [], _, _ => rfl
  | u :: us, i, S => by simp only [mixF, if_true, List.foldl_cons]; exact mixF_all us _ _

theorem mixF_none : ∀ (us : List Upd) (i : Nat) (S : St), mixF (fun _ => false) i us S = S
  | [], _, _ => rfl
  | u :: us, i, S => by simp only [mixF, Bool.false_eq_true, if_false]; exact mixF_none us _ _

theorem mixF_cong {L L' : Nat → Bool} : ∀ (us : List Upd) (i : Nat) (S : St), (∀ m, m < us.length → L (i + m) = L' (i + m)) → mixF L i us S = mixF L' i us S
  | [], _, _, _ => rfl
  | u :: us, i, S, h => by
    simp only [mixF]
    rw [show L i = L' i from h 0 (by simp)]
    exact mixF_cong us _ _ fun m hm => by rw [show i + 1 + m = i + (m + 1) from by omega]; exact h (m + 1) (by simpa using hm)

/-- the prefix of the text, told as a mix -/
theorem prefix_mix (us : List Upd) (j : Nat) (S : St) : (us.take j).foldl St.app S = mixF (fun m => decide (m < j)) 0 us S := by
  have h : mixF (fun m => decide (m < j)) 0 us S = mixF (fun m => decide (m < j)) (0 + (us.take j).length) (us.drop j) (mixF (fun m => decide (m < j)) 0 (us.take j) S) := by
    rw [← mixF_split, List.take_append_drop]
  rw [h]
  have h1 : mixF (fun m => decide (m < j)) 0 (us.take j) S = mixF (fun _ => true) 0 (us.take j) S := mixF_cong _ _ _ fun m hm => by
    have : m < j := by simp at hm; omega
    simp [this]
  have h2 : ∀ T, mixF (fun m => decide (m < j)) (0 + (us.take j).length) (us.drop j) T = mixF (fun _ => false) (0 + (us.take j).length) (us.drop j) T := fun T => mixF_cong _ _ _ fun m hm => by
    have : j ≤ us.length := by
      rcases Nat.lt_or_ge j us.length with h | h
      · omega
      · simp at hm; omega
    have : ¬ 0 + (us.take j).length + m < j := by simp; omega
    simp only [decide_eq_false_iff_not]; exact this
  rw [h2, mixF_none, h1, mixF_all]

theorem ancs_len : ∀ (l : List Oper) (acc : List (List Nat)), (ancs l acc).length = acc.length + l.length
  | [], acc => by simp [ancs]
  | o :: l, acc => by simp only [ancs]; rw [ancs_len]; simp; omega

theorem ancs_old : ∀ (l : List Oper) (acc : List (List Nat)) (m : Nat), m < acc.length → (ancs l acc).getD m [] = acc.getD m []
  | [], acc, m, _ => rfl
  | o :: l, acc, m, h => by
    simp only [ancs]
    rw [ancs_old l _ m (by simp; omega)]
    simp [List.getD_eq_getElem?_getD, List.getElem?_append, h]

theorem ancs_new : ∀ (l : List Oper) (acc : List (List Nat)) (i : Nat) (o : Oper), l[i]? = some o → ∀ x ∈ (ancs l acc).getD (acc.length + i) [], ∃ e ∈ o.after, Region.binds .any e = true ∧ (x = e.on ∨ x ∈ (ancs l acc).getD e.on [])
  | [], acc, i, o, h => by simp at h
  | o' :: l, acc, 0, o, h => by
    simp at h; subst h
    intro x hx
    simp only [ancs] at hx ⊢
    rw [ancs_old _ _ _ (by simp)] at hx
    simp only [Nat.add_zero, List.getD_eq_getElem?_getD, List.getElem?_append, Nat.lt_irrefl, if_false, Nat.sub_self, List.getElem?_cons_zero, Option.getD_some, List.mem_flatMap, Array.mem_toList_iff] at hx
    obtain ⟨e, he, hx⟩ := hx
    split at hx
    · rename_i hb
      refine ⟨e, he, hb, ?_⟩
      rcases List.mem_cons.1 hx with h | h
      · exact .inl h
      · refine .inr ?_
        have hlt : e.on < acc.length := by
          rcases Nat.lt_or_ge e.on acc.length with h' | h'
          · exact h'
          · rw [List.getElem?_eq_none h'] at h; simp at h
        rw [ancs_old _ _ _ (by simp; omega)]
        simpa [List.getD_eq_getElem?_getD, List.getElem?_append, hlt] using h
    · simp at hx
  | o' :: l, acc, i + 1, o, h => by
    intro x hx
    simp only [ancs] at hx ⊢
    have := ancs_new l (acc ++ [o'.after.toList.flatMap fun e => if Region.binds .any e then e.on :: acc.getD e.on [] else []]) i o (by simpa using h) x (by
      rw [show (acc ++ [o'.after.toList.flatMap fun e => if Region.binds .any e then e.on :: acc.getD e.on [] else []]).length + i = acc.length + (i + 1) from by simp; omega]
      exact hx)
    exact this

theorem Loc.eqb_iff {a b : Loc} : a.eqb b = true ↔ a = b := by
  cases a <;> cases b <;> simp [Loc.eqb]

theorem meetB_false {l m : List Loc} (h : meetB l m = false) {x : Loc} (hl : x ∈ l) (hm : x ∈ m) : False := by
  have : meetB l m = true := by simp only [meetB, List.any_eq_true]; exact ⟨x, hl, x, hm, Loc.eqb_iff.2 rfl⟩
  rw [this] at h; cases h

structure Draw (l : List Oper) (I : List Info) : Prop where
  dep : ∀ j o, l[j]? = some o → ∀ e ∈ o.after, Region.binds .any e = true → e.on < j
  con : ∀ i j, i < j → j < l.length → ((ancs l []).getD j []).any (· == i) = false → ∀ x,
    ¬ (x ∈ (I.getD i ⟨[], []⟩).W ∧ x ∈ (I.getD j ⟨[], []⟩).R) ∧ ¬ (x ∈ (I.getD i ⟨[], []⟩).R ∧ x ∈ (I.getD j ⟨[], []⟩).W) ∧ ¬ (x ∈ (I.getD i ⟨[], []⟩).W ∧ x ∈ (I.getD j ⟨[], []⟩).W)

theorem drawOk_spec {l : List Oper} {I : List Info} (h : drawOk l I = true) : Draw l I := by
  simp only [drawOk, List.all_eq_true, List.mem_range, Bool.and_eq_true, Bool.or_eq_true, Bool.not_eq_true', decide_eq_true_eq] at h
  refine ⟨fun j o hj e he hb => ?_, fun i j hij hj hno x => ?_⟩
  · have hlt : j < l.length := by
      rcases Nat.lt_or_ge j l.length with h' | h'
      · exact h'
      · rw [List.getElem?_eq_none h'] at hj; cases hj
    have h1 := (h j hlt).1
    have e1 : l.getD j default = o := by simp [List.getD_eq_getElem?_getD, hj]
    rw [e1] at h1
    rcases h1 e (by simpa using he) with h2 | h2
    · rw [hb] at h2; cases h2
    · exact h2
  · have h1 := (h j hj).2 i hij
    rcases h1 with h2 | h2
    · rw [hno] at h2; cases h2
    · exact ⟨fun e => meetB_false h2.1.1 e.1 e.2, fun e => meetB_false h2.1.2 e.1 e.2, fun e => meetB_false h2.2 e.1 e.2⟩

/-- how many have not been done -/
def open_ (n : Nat) (L : Nat → Bool) : Nat := ((List.range n).filter fun m => !L m).length

theorem any_ok {A : Amb} {all : Array Oper} {Q : Exit → Act → World → Prop} {us : List Upd} {I : List Info} {S0 : St} {kl0 klF : List Nat} {df : List Deferred}
    (hul : us.length = all.size) (hdraw : Draw all.toList I)
    (hkl : ∀ x, (x ∈ kl0 ∨ ∃ u ∈ us, x ∈ u.new) → x ∈ klF)
    (hfresh : ∀ m, m < all.size → (∀ x ∈ (ith us m).new, x ∉ kl0 ∧ ∀ m', m' < m → x ∉ (ith us m').new))
    (hgood : ∀ m o, all.toList[m]? = some o → (I.getD m ⟨[], []⟩).W = (ith us m).locs ∧ Good P A all o ((us.take m).foldl St.app S0) (ith us m) (I.getD m ⟨[], []⟩).R)
    (hQ : ∀ a w bo σ, a.defers = df → Rel A (us.foldl St.app S0) a.tmps w bo σ klF → Q .normal a w) :
    ∀ (fuel : Nat) (listed : Array Bool) (a : Act) (w : World) (T : St) (kl : List Nat) (bo : Nat → Option Nat) (σ : Nat → Value),
      listed.size = all.size → (∀ m o, listed.getD m false = true → all[m]? = some o → ∀ x ∈ (ancs all.toList []).getD m [], listed.getD x false = true) →
      (∀ l, Agree T (mixF (fun m => listed.getD m false) 0 us S0) l) → T.fr.length = S0.fr.length →
      (∀ x ∈ kl, x ∈ kl0 ∨ ∃ m, m < all.size ∧ listed.getD m false = true ∧ x ∈ (ith us m).new) →
      open_ all.size (fun m => listed.getD m false) ≤ fuel → a.defers = df → Rel A T a.tmps w bo σ kl → wpAny P .any all Q fuel listed a w := by
  have final : ∀ (listed : Array Bool) (a : Act) (w : World) (T : St) (kl : List Nat) (bo : Nat → Option Nat) (σ : Nat → Value),
      listed.size = all.size → (∀ l, Agree T (mixF (fun m => listed.getD m false) 0 us S0) l) → T.fr.length = S0.fr.length →
      (∀ x ∈ kl, x ∈ kl0 ∨ ∃ m, m < all.size ∧ listed.getD m false = true ∧ x ∈ (ith us m).new) → (∀ m, m < all.size → listed.getD m false = true) → a.defers = df → Rel A T a.tmps w bo σ kl → Q .normal a w := by
    intro listed a w T kl bo σ hsz hT hTl hk hall hd hR
    have hmix : mixF (fun m => listed.getD m false) 0 us S0 = us.foldl St.app S0 := by
      rw [← mixF_all us 0 S0]
      exact mixF_cong _ _ _ fun m hm => by rw [Nat.zero_add]; exact hall m (by omega)
    rw [hmix] at hT
    refine hQ a w bo σ hd (hR.tell (fun o => ((hT (.ob o)) : T.obj o = _).symm) ?_ (fun t => .inl ((hT (.sl t)) : T.slot t = _).symm) fun x hx => ?_)
    · rw [hTl, ← hmix, mixF_len]
    · refine hkl x ?_
      rcases hk x hx with h | ⟨m, h1, _, h3⟩
      · exact .inl h
      · exact .inr ⟨ith us m, by unfold ith; exact getD_mem us m _ (by omega), h3⟩
  -- while one is open, one is ready
  have ready : ∀ (listed : Array Bool), listed.size = all.size → Region.ready .any all listed = [] → ∀ m, m < all.size → listed.getD m false = true := by
    intro listed hsz hr m
    induction m using Nat.strongRecOn with
    | _ m ih =>
      intro hm
      rcases hb : listed.getD m false with _ | _
      · exfalso
        have hmem : m ∈ Region.ready .any all listed := by
          rw [mem_ready]
          refine ⟨?_, all[m], by simp [hm], fun e he hb' => ih e.on (hdraw.dep m all[m] (by simp [hm]) e he hb') ?_⟩
          · have : m < listed.size := by omega
            simp [this] at hb ⊢; exact hb
          · have := hdraw.dep m all[m] (by simp [hm]) e he hb'
            omega
        rw [hr] at hmem; cases hmem
      · rfl
  intro fuel
  induction fuel with
  | zero =>
    intro listed a w T kl bo σ hsz hcl hT hTl hk hf hd hR
    have hall : ∀ m, m < all.size → listed.getD m false = true := by
      intro m hm
      have h0 : (List.range all.size).filter (fun m => !(listed.getD m false)) = [] := List.eq_nil_of_length_eq_zero (Nat.le_zero.1 hf)
      rw [List.filter_eq_nil_iff] at h0
      have := h0 m (by simpa using hm)
      simpa using this
    refine ⟨?_, final listed a w T kl bo σ hsz hT hTl hk hall hd hR⟩
    apply List.eq_nil_iff_forall_not_mem.2
    intro j hj
    rw [mem_ready] at hj
    obtain ⟨h1, o, ho, -⟩ := hj
    have hlt : j < all.size := (Array.getElem?_eq_some_iff.1 ho).1
    have := hall j hlt
    have : j < listed.size := by omega
    simp_all
  | succ fuel ih =>
    intro listed a w T kl bo σ hsz hcl hT hTl hk hf hd hR
    refine ⟨fun hr => final listed a w T kl bo σ hsz hT hTl hk (ready listed hsz hr) hd hR, fun j hj => ?_⟩
    rw [mem_ready] at hj
    obtain ⟨h1, o, ho, hdep⟩ := hj
    have hlt : j < all.size := (Array.getElem?_eq_some_iff.1 ho).1
    have hjl : j < listed.size := by omega
    have hjn : listed.getD j false = false := by simp [hjl] at h1 ⊢; exact h1
    have hol : all.toList[j]? = some o := by simpa using ho
    obtain ⟨hW, hG⟩ := hgood j o hol
    -- all that lie ahead of j have been done
    have hanc : ∀ x ∈ (ancs all.toList []).getD j [], listed.getD x false = true := by
      intro x hx
      obtain ⟨e, he, hb, hh⟩ := ancs_new all.toList [] j o hol x (by simpa using hx)
      have hon := hdep e he hb
      rcases hh with rfl | hh
      · exact hon
      · have honl : e.on < j := hdraw.dep j o hol e he hb
        exact hcl e.on all[e.on] hon (by simp) x hh
    have ahead : ∀ m, m < j → ∀ x, (x ∈ (ith us m).locs ∧ x ∈ (I.getD j ⟨[], []⟩).R) ∨ (x ∈ (ith us m).locs ∧ x ∈ (ith us j).locs) → listed.getD m false = true := by
      intro m hm x hx
      rcases hb : ((ancs all.toList []).getD j []).any (· == m) with _ | _
      · exfalso
        have hc := hdraw.con m j hm (by simpa using hlt) hb x
        have hWm := (hgood m all[m] (by simp)).1
        rw [hWm, hW] at hc
        rcases hx with hx | hx
        · exact hc.1 hx
        · exact hc.2.2 hx
      · simp only [List.any_eq_true, beq_iff_eq] at hb
        obtain ⟨y, hy, rfl⟩ := hb
        exact hanc y hy
    have behind : ∀ m, j < m → m < all.size → listed.getD m false = true → ∀ x, ¬ (x ∈ (I.getD j ⟨[], []⟩).R ∧ x ∈ (ith us m).locs) ∧ ¬ (x ∈ (ith us j).locs ∧ x ∈ (ith us m).locs) := by
      intro m hm hml hL x
      rcases hb : ((ancs all.toList []).getD m []).any (· == j) with _ | _
      · have hc := hdraw.con j m hm (by simpa using hml) hb x
        have hWm := (hgood m all[m] (by simp)).1
        rw [hWm, hW] at hc
        exact ⟨hc.2.1, hc.2.2⟩
      · exfalso
        simp only [List.any_eq_true, beq_iff_eq] at hb
        obtain ⟨y, hy, rfl⟩ := hb
        have := hcl m all[m] hL (by simp) y hy
        rw [this] at hjn; cases hjn
    have hread : ∀ l ∈ (I.getD j ⟨[], []⟩).R, Agree ((us.take j).foldl St.app S0) T l := by
      intro l hl
      refine Agree.trans ?_ (hT l).symm
      rw [prefix_mix]
      refine mixF_agree us 0 S0 S0 rfl (Agree.refl _ _) fun m hm => ?_
      simp only [Nat.zero_add]
      rcases Nat.lt_trichotomy m j with h | rfl | h
      · by_cases hx : l ∈ (ith us m).locs
        · left; rw [ahead m h l (.inl ⟨hx, hl⟩)]; simp [h]
        · exact .inr hx
      · left; rw [hjn]; simp
      · by_cases hx : l ∈ (ith us m).locs
        · left
          rcases hb : listed.getD m false with _ | _
          · have : ¬ m < j := by omega
            simp [this]
          · exact absurd ⟨hl, hx⟩ (behind m h (by omega) hb l).1
        · exact .inr hx
    have hnew : ∀ n ∈ (ith us j).new, n ∉ kl := by
      intro n hn hnk
      rcases hk n hnk with h | ⟨m, hm, hL, hx⟩
      · exact (hfresh j hlt n hn).1 h
      · rcases Nat.lt_trichotomy m j with h | rfl | h
        · exact (hfresh j hlt n hn).2 m h hx
        · rw [hjn] at hL; cases hL
        · exact (hfresh m hm n hx).2 j h hn
    refine (hG T kl hread).wpOp ho hR hnew fun v w' bo' σ' hR' => ?_
    have hset : ∀ m, (listed.setIfInBounds j true).getD m false = if m = j then true else listed.getD m false := by
      intro m
      by_cases hmj : m = j
      · subst hmj; simp [hjl]
      · rw [if_neg hmj, getD_set_ne false (Ne.symm hmj)]
    refine ih (listed.setIfInBounds j true) (a.put o.dst v) w' (T.app (ith us j)) ((ith us j).new ++ kl) bo' σ' (by simpa using hsz) ?_ ?_ (by rw [app_len, hTl]) ?_ ?_ (by rw [put_defers', hd]) (by rw [put_tmps]; exact hR')
    · intro m o' hm ho' x hx
      rw [hset] at hm ⊢
      by_cases hmj : m = j
      · subst hmj
        split
        · rfl
        · exact hanc x hx
      · rw [if_neg hmj] at hm
        split
        · rfl
        · exact hcl m o' hm ho' x hx
    · intro l
      by_cases hlj : l ∈ (ith us j).locs
      · -- the place that j writes: none that is done comes behind it
        have hsplit : ∀ L : Nat → Bool, mixF L 0 us S0 = mixF L (j + 1) (us.drop (j + 1)) (if L j then (mixF L 0 (us.take j) S0).app (ith us j) else mixF L 0 (us.take j) S0) := by
          intro L
          have e : us = us.take j ++ (ith us j :: us.drop (j + 1)) := by
            have hju : j < us.length := by omega
            have : ith us j = us[j] := by unfold ith; simp [List.getD_eq_getElem?_getD, hju]
            rw [this, ← List.drop_eq_getElem_cons hju, List.take_append_drop]
          conv => lhs; rw [e]
          rw [mixF_split]
          have : 0 + (us.take j).length = j := by simp; omega
          rw [this]; rfl
        have hl1 : ((mixF (fun m => (listed.setIfInBounds j true).getD m false) 0 (us.take j) S0)).fr.length = T.fr.length := by rw [mixF_len, hTl]
        have h2 : Agree (T.app (ith us j)) (((mixF (fun m => (listed.setIfInBounds j true).getD m false) 0 (us.take j) S0)).app (ith us j)) l := agree_app_both hl1.symm (.inl hlj)
        refine h2.trans ?_
        rw [hsplit]
        have hLj : (fun m => (listed.setIfInBounds j true).getD m false) j = true := by simp only [hset, if_true]
        rw [if_pos hLj]
        have h3 := mixF_agree (l := l) (L := fun _ => false) (L' := fun m => (listed.setIfInBounds j true).getD m false) (us.drop (j + 1)) (j + 1) _ _ rfl (Agree.refl ((mixF (fun m => (listed.setIfInBounds j true).getD m false) 0 (us.take j) S0).app (ith us j)) l) (fun m hm => by
          simp only [hset]
          have hne : ¬ j + 1 + m = j := by omega
          rw [if_neg hne]
          have hml : j + 1 + m < all.size := by simp at hm; omega
          rcases hb : listed.getD (j + 1 + m) false with _ | _
          · exact .inl rfl
          · refine .inr fun hx => (behind (j + 1 + m) (by omega) hml hb l).2 ⟨hlj, ?_⟩
            unfold ith at hx ⊢
            simpa [List.getD_eq_getElem?_getD, List.getElem?_drop] using hx)
        rw [mixF_none] at h3
        exact h3
      · refine (agree_app_not hlj).trans ((hT l).trans ?_)
        refine mixF_agree us 0 S0 S0 rfl (Agree.refl _ _) fun m hm => ?_
        simp only [Nat.zero_add, hset]
        by_cases hmj : m = j
        · subst hmj; exact .inr hlj
        · rw [if_neg hmj]; exact .inl rfl
    · intro x hx
      rcases List.mem_append.1 hx with h | h
      · exact .inr ⟨j, hlt, by rw [hset, if_pos rfl], h⟩
      · rcases hk x h with h | ⟨m, h1, h2, h3⟩
        · exact .inl h
        · refine .inr ⟨m, h1, ?_, h3⟩
          rw [hset]; split
          · rfl
          · exact h2
    · -- one less is open
      have hle : open_ all.size (fun m => (listed.setIfInBounds j true).getD m false) + 1 ≤ open_ all.size (fun m => listed.getD m false) := by
        unfold open_
        have e1 : (List.range all.size).filter (fun m => !((listed.setIfInBounds j true).getD m false)) = ((List.range all.size).filter (fun m => !(listed.getD m false))).erase j := by
          have hnd : ((List.range all.size).filter (fun m => !(listed.getD m false))).Nodup := List.nodup_range.filter _
          rw [hnd.erase_eq_filter, List.filter_filter]
          refine List.filter_congr fun m _ => ?_
          rw [hset]
          by_cases hmj : m = j
          · subst hmj; simp
          · simp [hmj]
        rw [e1]
        have hmem : j ∈ (List.range all.size).filter (fun m => !(listed.getD m false)) := by
          rw [List.mem_filter]; exact ⟨by simpa using hlt, by rw [hjn]; rfl⟩
        rw [List.length_erase_of_mem hmem]
        exact Nat.le_of_eq (Nat.sub_add_cancel (List.length_pos_of_mem hmem))
      exact Nat.le_of_succ_le_succ (Nat.le_trans hle hf)

end Go.Eng
