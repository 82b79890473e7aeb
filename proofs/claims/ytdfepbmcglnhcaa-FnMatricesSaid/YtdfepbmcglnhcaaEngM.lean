import Derived.Test.YtdfepbmcglnhcaaEngL
import Derived.Laws.AppendOwn
import Derived.Laws.OwnMore
set_option linter.unusedSimpArgs false
set_option linter.unusedVariables false
/-! Soundness, 10: slices built and appended to. -/
namespace Go.Eng
open Go
variable {P : Program} {Φ : List It → St → Prop}

/-- an own row, as one that is only read -/
theorem row_rp {A : Amb} {S : St} {w : World} {bo : Nat → Option Nat} {σ : Nat → Value} {o : Nat} {fl : Bool} {T esz n : Nat} {L : List (List DV)} {x : Value}
    (h : ObOk (A.env S w bo σ) o (.row fl T esz n L)) (hx : RV0 (A.env S w bo σ) (.ow o) x) {ok' : Nat → Prop} (h1 : ∀ k, okS A S w bo k → ok' k) (h2 : ∀ b, bo o = some b → ok' b) : RP w ok' (.ro fl esz n L) x := by
  obtain ⟨g1, g2, g3, g4, g5, vs, ⟨g6, hown⟩, g7⟩ := h
  obtain ⟨hσ, -⟩ := hx
  have hσ' : σ o = x := hσ
  rcases hown with ⟨hv, h0⟩ | ⟨g, cap, cur, hv, hg0, hh, hnc, hcm, hcs2, htk⟩
  · have hv' : σ o = .slice none 0 0 := hv
    rw [← hσ', hv', ← h0]
    subst h0
    exact .ro fl esz 0 L none 0 ⟨0, 0, none⟩ (fun _ _ => undef') g1 (Nat.le_refl _) (by simp [maxLen]) (.inl rfl) g3 g4 (fun i j hi => by omega) (fun i j hi => by omega) (fun i j hi => by omega)
  · have hv' : σ o = .slice (some ⟨g, 0, none⟩) n cap := hv
    have hh' : w.heap[g]? = some (.cells cur T (0, 0)) := hh
    have hbo : bo o = some g := by
      have e : bo o = (σ o).ownBlock := g5
      rw [e, hv']; rfl
    rw [← hσ', hv']
    refine .ro fl esz n L _ cap ⟨g, 0, none⟩ (fun i j => vs.getD (i * esz + j) undef') g1 hnc hcm (.inr ⟨rfl, h2 g hbo⟩) g3 g4 (fun i j hi hj => ?_) (fun i j hi hj => (g7 i j hi hj).2) (fun i j hi hj => (g7 i j hi hj).1.mono fun k hk => ⟨h1 k hk, rfl⟩)
    have hlt : i * esz + j < n * esz := by
      have : (i + 1) * esz ≤ n * esz := Nat.mul_le_mul_right esz (by omega)
      have : (i + 1) * esz = i * esz + esz := Nat.succ_mul i esz
      omega
    have hns : n * esz ≤ cap * esz := Nat.mul_le_mul_right esz hnc
    have e1 : vs.getD (i * esz + j) undef' = cur[i * esz + j]?.getD undef' := by
      rw [← htk]
      simp [List.getD_eq_getElem?_getD, List.getElem?_take, hlt]
    rw [add_mk, Nat.zero_add, e1]
    have hsz : i * esz + j < cur.size := by omega
    simp [World.cell?, hh', hsz]

theorem rpD_rp {E : Env} {d : DV} {x : Value} (hd : rpD d = true) (h : RV0 E d x) {ok' : Nat → Prop} (h1 : ∀ k, E.ok k → ok' k) : RP E.w ok' d x := by
  cases d <;> simp [rpD] at hd <;> simp only [RV0] at h
  · subst h; exact .v _
  · subst h; exact .lb _
  · subst h; exact .nl
  · exact h.mono fun k hk => ⟨h1 k hk, rfl⟩

theorem frz_ok {A : Amb} {S : St} {tm : Array Value} {w : World} {bo : Nat → Option Nat} {σ : Nat → Value} {kl : List Nat} (hR : Rel A S tm w bo σ kl) : ∀ {ds ds' : List DV} {ns : List Nat} {vs : List Value} {os os' : List (Ora P Φ)} {R D},
    (frz ds : RD P Φ (List DV × List Nat)).go S os = some ((ds', ns), R, D, os') → vs.length = ds.length → (∀ j, j < ds.length → RV0 (A.env S w bo σ) (ds.getD j .un) (vs.getD j undef')) →
    D = [] ∧ os' = os ∧ ds'.length = ds.length ∧ (∀ o ∈ ns, ∃ x, S.obj o = some x) ∧
      ∀ ok' : Nat → Prop, (∀ k, okS A S w bo k → ok' k) → (∀ o ∈ ns, ∀ b, bo o = some b → ok' b) → ∀ j, j < ds.length → RP w ok' (ds'.getD j .un) (vs.getD j undef')
  | [], ds', ns, vs, os, os', R, D, h, _, _ => by
    obtain ⟨he, -, rfl, rfl⟩ := go_ret h
    cases he
    exact ⟨rfl, rfl, rfl, fun o ho => (by cases ho), fun _ _ _ j hj => by simp at hj⟩
  | d :: l, ds', ns, vs, os, os', R, D, h, hl, hv => by
    simp only [frz] at h
    obtain ⟨⟨d', n1⟩, R1, D1, os1, R2, D2, h1, h2, rfl, rfl⟩ := go_bind _ _ h
    obtain ⟨⟨l', n2⟩, R3, D3, os3, R4, D4, h3, h4, rfl, rfl⟩ := go_bind _ _ h2
    obtain ⟨he, -, rfl, rfl⟩ := go_ret h4
    cases he
    cases vs with
    | nil => simp at hl
    | cons v vs =>
      have hv0 : RV0 (A.env S w bo σ) d v := by simpa using hv 0 (by simp)
      obtain ⟨rfl, rfl, q3, q4, q5⟩ := frz_ok hR h3 (vs := vs) (by simpa using hl) (fun j hj => by simpa using hv (j + 1) (by simpa using hj))
      have first : D1 = [] ∧ os' = os ∧ (∀ o ∈ n1, ∃ x, S.obj o = some x) ∧ ∀ ok' : Nat → Prop, (∀ k, okS A S w bo k → ok' k) → (∀ o ∈ n1, ∀ b, bo o = some b → ok' b) → RP w ok' d' v := by
        split at h1
        · rename_i o
          obtain ⟨x', R5, hx', h5, -⟩ := go_obj h1
          split at h5
          · obtain ⟨he, -, rfl, rfl⟩ := go_ret h5
            cases he
            exact ⟨rfl, rfl, fun o' ho' => by simp at ho'; subst ho'; exact ⟨_, hx'⟩, fun ok' k1 k2 => row_rp (hR.ob o _ hx') hv0 k1 (k2 o (by simp))⟩
          · exact (go_fail h5).elim
        · split at h1
          · rename_i hrp
            obtain ⟨he, -, rfl, rfl⟩ := go_ret h1
            cases he
            simp only [Bool.and_eq_true] at hrp
            exact ⟨rfl, rfl, fun o' ho' => by simp at ho', fun ok' k1 _ => rpD_rp hrp.1 hv0 k1⟩
          · exact (go_fail h1).elim
      obtain ⟨rfl, rfl, p3, p4⟩ := first
      refine ⟨rfl, rfl, by simp [q3], fun o ho => ?_, fun ok' k1 k2 j hj => ?_⟩
      · rcases List.mem_append.1 ho with h | h
        · exact p3 o h
        · exact q4 o h
      · cases j with
        | zero => simpa using p4 ok' k1 fun o ho => k2 o (List.mem_append.2 (.inl ho))
        | succ j => simpa using q5 ok' k1 (fun o ho => k2 o (List.mem_append.2 (.inr ho))) j (by simpa using hj)

theorem frzL_ok {A : Amb} {S : St} {tm : Array Value} {w : World} {bo : Nat → Option Nat} {σ : Nat → Value} {kl : List Nat} (hR : Rel A S tm w bo σ kl) : ∀ {L L' : List (List DV)} {ns : List Nat} {vss : List (List Value)} {os os' : List (Ora P Φ)} {R D},
    (frzL L : RD P Φ (List (List DV) × List Nat)).go S os = some ((L', ns), R, D, os') → vss.length = L.length →
    (∀ i, i < L.length → (vss.getD i []).length = (L.getD i []).length ∧ ∀ j, j < (L.getD i []).length → RV0 (A.env S w bo σ) ((L.getD i []).getD j .un) ((vss.getD i []).getD j undef')) →
    D = [] ∧ os' = os ∧ L'.length = L.length ∧ (∀ i, (L'.getD i []).length = (L.getD i []).length) ∧ (∀ o ∈ ns, ∃ x, S.obj o = some x) ∧
      ∀ ok' : Nat → Prop, (∀ k, okS A S w bo k → ok' k) → (∀ o ∈ ns, ∀ b, bo o = some b → ok' b) → ∀ i j, i < L.length → j < (L.getD i []).length → RP w ok' ((L'.getD i []).getD j .un) ((vss.getD i []).getD j undef')
  | [], L', ns, vss, os, os', R, D, h, _, _ => by
    obtain ⟨he, -, rfl, rfl⟩ := go_ret h
    cases he
    exact ⟨rfl, rfl, rfl, fun _ => rfl, fun o ho => (by cases ho), fun _ _ _ j _ hj => by simp at hj⟩
  | d :: l, L', ns, vss, os, os', R, D, h, hl, hv => by
    simp only [frzL] at h
    obtain ⟨⟨d', n1⟩, R1, D1, os1, R2, D2, h1, h2, rfl, rfl⟩ := go_bind _ _ h
    obtain ⟨⟨l', n2⟩, R3, D3, os3, R4, D4, h3, h4, rfl, rfl⟩ := go_bind _ _ h2
    obtain ⟨he, -, rfl, rfl⟩ := go_ret h4
    cases he
    cases vss with
    | nil => simp at hl
    | cons v vs =>
      have hv0 := hv 0 (by simp)
      simp only [List.getD_cons_zero] at hv0
      obtain ⟨rfl, rfl, q3, q3', q4, q5⟩ := frzL_ok hR h3 (vss := vs) (by simpa using hl) (fun j hj => by simpa using hv (j + 1) (by simpa using hj))
      obtain ⟨rfl, rfl, p2, p3, p4⟩ := frz_ok hR h1 hv0.1 hv0.2
      refine ⟨rfl, rfl, by simp [q3], fun i => ?_, fun o ho => ?_, fun ok' k1 k2 i j hi hj => ?_⟩
      · cases i with
        | zero => simpa using p2
        | succ i => simpa using q3' i
      · rcases List.mem_append.1 ho with h | h
        · exact p3 o h
        · exact q4 o h
      · cases i with
        | zero => simpa using p4 ok' k1 (fun o ho => k2 o (List.mem_append.2 (.inl ho))) j (by simpa using hj)
        | succ i => simpa using q5 ok' k1 (fun o ho => k2 o (List.mem_append.2 (.inr ho))) i j (by simpa using hi) (by simpa using hj)

/-- a row of the values that lie at the objects' places -/
theorem row_new {A : Amb} {S : St} {tm : Array Value} {w w' : World} {bo : Nat → Option Nat} {σ : Nat → Value} {kl : List Nat} (hR : Rel A S tm w bo σ kl) (t : Nat) (v : Value) (ns : List Nat) (fl : Bool) (T esz n : Nat) (L : List (List DV)) (vs : List Value)
    (ht : t ∉ kl) (hns : ∀ o ∈ ns, ∃ x, S.obj o = some x) (hkeep : Keep w w' (fun k => ∃ o ∈ ns, bo o = some k))
    (hblk : ∀ b, v.ownBlock = some b → w.heap.size ≤ b ∨ ∃ o ∈ ns, bo o = some b)
    (hv : ∃ Ad n c, v = .slice Ad n c)
    (hL : L.length = n) (hesz : 0 < esz) (hl : ∀ l ∈ L, l.length = esz) (hfl : fl = true → ∀ l ∈ L, ∀ d ∈ l, flatD d = true)
    (hown : w'.ownsRow 0 T esz v n vs)
    (hrp : ∀ i j, i < n → j < esz → (vs.getD (i * esz + j) undef').oneCell' = true ∧
      RP w' (fun k => k < w'.heap.size ∧ (k < A.w0.heap.size → A.ok k ∨ A.X k) ∧ (∀ o x, S.obj o = some x → o ∉ ns → bo o ≠ some k) ∧ v.ownBlock ≠ some k) ((L.getD i []).getD j .un) (vs.getD (i * esz + j) undef')) :
    Rel A (S.app ⟨[(t, .ow t)], ns.map (fun o => (o, none)) ++ [(t, some (.row fl T esz n L))], [t]⟩) (putT tm (some t) v) w' (upd bo t v.ownBlock) (upd σ t v) ([t] ++ kl) := by
  have htn : t ∉ ns := fun h => by obtain ⟨x, hx⟩ := hns t h; exact ht (hR.orf t x hx).1
  have hkeys : (ns.map (fun o => ((o, none) : Nat × Option Ob)) ++ [(t, some (Ob.row fl T esz n L))]).map (·.1) = ns ++ [t] := by simp [Function.comp_def]
  have hwr : ∀ (l : List Nat) (o : Nat) (c : Option Ob), wrOb (l.map (fun o => ((o, none) : Nat × Option Ob))) o c = if o ∈ l then none else c := by
    intro l
    induction l with
    | nil => intro o c; simp [wrOb]
    | cons a l ih =>
      intro o c
      have := ih o (if a = o then none else c)
      simp only [wrOb, List.map_cons, List.foldl_cons] at this ⊢
      rw [this]
      by_cases h1 : o ∈ l
      · simp [h1]
      · by_cases h2 : a = o
        · simp [h1, h2]
        · have : ¬ o = a := fun e => h2 e.symm
          simp [h1, h2, this]
  have hobj : ∀ o, (S.app ⟨[(t, .ow t)], ns.map (fun o => (o, none)) ++ [(t, some (.row fl T esz n L))], [t]⟩).obj o = if o = t then some (.row fl T esz n L) else if o ∈ ns then none else S.obj o := by
    intro o
    rw [app_obj]
    have : wrOb (ns.map (fun o => ((o, none) : Nat × Option Ob)) ++ [(t, some (Ob.row fl T esz n L))]) o (S.obj o) = if t = o then some (Ob.row fl T esz n L) else wrOb (ns.map (fun o => ((o, none) : Nat × Option Ob))) o (S.obj o) := by
      simp [wrOb, List.foldl_append]
    rw [this, hwr]
    by_cases h : t = o
    · simp [h]
    · have : ¬ o = t := fun e => h e.symm
      simp [h, this]
  have hbo : ∀ o ∈ kl, upd bo t v.ownBlock o = bo o ∧ upd σ t v o = σ o := by
    intro o ho
    have : o ≠ t := fun e => ht (e ▸ ho)
    exact ⟨upd_ne _ _ this, upd_ne _ _ this⟩
  obtain ⟨Ad, n', c', hvv⟩ := hv
  refine hR.step _ (some t) v ⟨hkeep.os, hkeep.tape, hkeep.output, hkeep.size, fun k hk hn => hkeep.block k hk fun ⟨o, ho, hb⟩ => hn ⟨o, by rw [hkeys]; simp [ho], (hns o ho).choose, (hns o ho).choose_spec, hb⟩⟩
    hbo (.inr ⟨t, .ow t, rfl, rfl, ⟨upd_same _ _ _, Ad, n', c', hvv⟩, fun o ho => by simp [refs, refs1, refs0] at ho; simp [ho]⟩) ?_ ?_
  · intro o y ho hy
    rw [hobj] at hy
    by_cases hot : o = t
    · subst hot
      rw [if_pos rfl] at hy
      cases hy
      refine ⟨⟨hL, hesz, hl, hfl, ?_, vs, ?_, fun i j hi hj => ⟨(hrp i j hi hj).2.mono fun k hk => ⟨⟨hk.1, hk.2.1, fun o' x' hx' hb => ?_⟩, rfl⟩, (hrp i j hi hj).1⟩⟩, by simp, fun p hp => by simp [orefs] at hp, fun b hb => ?_⟩
      · show upd bo o v.ownBlock o = (upd σ o v o).ownBlock
        rw [upd_same, upd_same]
      · show w'.ownsRow 0 T esz (upd σ o v o) n vs
        rw [upd_same]; exact hown
      · rw [hobj] at hx'
        by_cases ho2 : o' = o
        · subst ho2
          rw [upd_same] at hb
          exact hk.2.2.2 hb
        · rw [if_neg ho2] at hx'
          rw [upd_ne _ _ ho2] at hb
          by_cases ho3 : o' ∈ ns
          · rw [if_pos ho3] at hx'; cases hx'
          · rw [if_neg ho3] at hx'
            exact hk.2.2.1 o' x' hx' ho3 hb
      · rw [upd_same] at hb
        refine ⟨ownBlock_lt hown hb, fun hlt => ?_⟩
        rcases hblk b hb with h | ⟨o2, ho2, hb2⟩
        · omega
        · exact ⟨o2, by rw [hkeys]; simp [ho2], (hns o2 ho2).choose, (hns o2 ho2).choose_spec, hb2⟩
    · rw [if_neg hot] at hy
      rw [hkeys] at ho
      rcases List.mem_append.1 ho with h | h
      · rw [if_pos h] at hy; cases hy
      · simp at h; exact absurd h hot
  · intro o1 o2 x1 x2 b1 h1 h2 hx1 hx2 _ _
    have aux : ∀ o x, o ∈ (ns.map (fun o => ((o, none) : Nat × Option Ob)) ++ [(t, some (Ob.row fl T esz n L))]).map (·.1) → (S.app ⟨[(t, .ow t)], ns.map (fun o => (o, none)) ++ [(t, some (.row fl T esz n L))], [t]⟩).obj o = some x → o = t := by
      intro o x ho hx
      rw [hkeys] at ho
      rw [hobj] at hx
      by_cases hot : o = t
      · exact hot
      · rw [if_neg hot] at hx
        rcases List.mem_append.1 ho with h | h
        · rw [if_pos h] at hx; cases hx
        · simp at h; exact absurd h hot
    rw [aux o1 x1 h1 hx1, aux o2 x2 h2 hx2]

end Go.Eng
