import Derived.Test.YtdfepbmcglnhcaaEngQ
import Derived.Laws.Slices
set_option linter.unusedSimpArgs false
set_option linter.unusedVariables false
/-! Soundness, 14a: slices of slices and of strings. -/
namespace Go.Eng
open Go
variable {P : Program} {Φ : List It → St → Prop}

theorem optI_ok {A : Amb} {S : St} {a : Act} {w : World} {bo : Nat → Option Nat} {σ : Nat → Value} {kl : List Nat} (hR : Rel A S a.tmps w bo σ kl) {x : Option Operand} {d n : Int} {os os' : List (Ora P Φ)} {R D}
    (h : (optI x d : RD P Φ Int).go S os = some (n, R, D, os')) : D = [] ∧ os' = os ∧ ((x = none ∧ n = d) ∨ ∃ y k, x = some y ∧ a.eval y = .int k n) := by
  unfold optI at h
  split at h
  · obtain ⟨rfl, -, rfl, rfl⟩ := go_ret h
    exact ⟨rfl, rfl, .inl ⟨rfl, rfl⟩⟩
  · rename_i y
    obtain ⟨e, R1, D1, os1, R2, D2, h1, h2, rfl, rfl⟩ := go_bind _ _ h
    obtain ⟨k1, rfl, rfl, -⟩ := opd_ok hR h1
    obtain ⟨⟨k, rfl⟩, rfl, rfl⟩ := intOfD_ok h2
    exact ⟨rfl, rfl, .inr ⟨y, k, rfl, k1⟩⟩

theorem bounds_ok {ρ : Operand → Value} {lo hi : Option Operand} {l h : Int} {isS : Bool} {len cap : Nat} (hlo : (lo = none ∧ l = 0) ∨ ∃ y k, lo = some y ∧ ρ y = .int k l) (hhi : (hi = none ∧ h = (len : Int)) ∨ ∃ y k, hi = some y ∧ ρ y = .int k h)
    (h0 : 0 ≤ l) (h1 : l ≤ h) (h2 : h ≤ cap) (w : World) : (Instr.sliceBounds isS len cap (lo.map ρ) (hi.map ρ) none).run P w = .ok (l.toNat, h.toNat, cap) w := by
  have e1 : l ≤ (h.toNat : Int) := by omega
  rcases hlo with ⟨rfl, rfl⟩ | ⟨y, k, rfl, hy⟩ <;> rcases hhi with ⟨rfl, rfl⟩ | ⟨y', k', rfl, hy'⟩
  · simp [Instr.sliceBounds]
  · have h3 : 0 ≤ h := by omega
    simp [Instr.sliceBounds, hy', Instr.sliceBound, asIntOf, h3, h2]
  · have h3 : l ≤ (len : Int) := h1
    simp [Instr.sliceBounds, hy, Instr.sliceBound, asIntOf, h0, h3]
  · have h3 : 0 ≤ h := by omega
    have e2 : l ≤ max h 0 := by omega
    simp [Instr.sliceBounds, hy, hy', Instr.sliceBound, asIntOf, h0, h3, h2, e2]

theorem slice_ok {A : Amb} {o : Oper} {S : St} {kl : List Nat} {T : Nat} {x : Operand} {lo hi : Option Operand} (ho : o.op = .slice T x lo hi none) {d : DV} {os os' : List (Ora P Φ)} {R D}
    (h : (sliceE T x lo hi : RD P Φ DV).go S os = some (d, R, D, os')) (hs : ∀ d ∈ D, Sat P Φ d) (a : Act) (w : World) (bo : Nat → Option Nat) (σ : Nat → Value) (hR : Rel A S a.tmps w bo σ kl) :
    ∃ v, (execOp a.eval o).run P w = .ok (.value v) w ∧ RV (A.env S w bo σ) d v ∧ ∀ p ∈ refs d, p ∈ kl := by
  unfold sliceE at h
  obtain ⟨dx, R1, D1, os1, R2, D2, h1, h2, rfl, rfl⟩ := go_bind _ _ h
  obtain ⟨k1, rfl, rfl, k2⟩ := opd_ok hR h1
  split at h2
  · rename_i hu
    split at h2
    · rename_i s
      obtain ⟨l, R3, D3, os3, R4, D4, h3, h4, rfl, rfl⟩ := go_bind _ _ h2
      obtain ⟨hh, R5, D5, os5, R6, D6, h5, h6, rfl, rfl⟩ := go_bind _ _ h4
      obtain ⟨rfl, rfl, hlo⟩ := optI_ok hR h3
      obtain ⟨rfl, rfl, hhi⟩ := optI_ok hR h5
      obtain ⟨q, os7, rfl, h7⟩ := go_peek h6
      obtain ⟨_, os8, D8, -, h8, rfl⟩ := go_req h7
      obtain ⟨rfl, -, -, -⟩ := go_ret h8
      obtain ⟨b0, b1, b2⟩ : 0 ≤ l ∧ l ≤ hh ∧ hh ≤ (s.size : Int) := hs (.b3 l hh s.size) (by simp)
      have hx : a.eval x = .string s := k1
      have hb := bounds_ok (P := P) (ρ := a.eval) (isS := false) hlo hhi b0 b1 b2 w
      refine ⟨_, ?_, rfl, fun p hp => by simp [refs, refs1, refs0] at hp⟩
      simp [execOp, ho, hx, Instr.sliceAt, Instr.slice, under_run hu, hb]
    · exact (go_fail h2).elim
  · rename_i e hu
    split at h2
    · rename_i fl esz n L
      split at h2
      · rename_i hsz
        have hsz : tsize P e = some esz := by simpa using hsz
        obtain ⟨l, R3, D3, os3, R4, D4, h3, h4, rfl, rfl⟩ := go_bind _ _ h2
        obtain ⟨hh, R5, D5, os5, R6, D6, h5, h6, rfl, rfl⟩ := go_bind _ _ h4
        obtain ⟨rfl, rfl, hlo⟩ := optI_ok hR h3
        obtain ⟨rfl, rfl, hhi⟩ := optI_ok hR h5
        obtain ⟨q, os7, rfl, h7⟩ := go_peek h6
        split at h7
        · rename_i Lq L' lq hq nq n' hsg
          obtain ⟨_, os8, D8, -, h8, rfl⟩ := go_req h7
          obtain ⟨rfl, -, -, -⟩ := go_ret h8
          obtain ⟨b0, b1, b2, b3, b4⟩ : 0 ≤ l ∧ l ≤ hh ∧ hh ≤ (n : Int) ∧ (L.take hh.toNat).drop l.toNat = L' ∧ L'.length = n' := hs (.seg L L' l hh n n') (by simp)
          generalize hax : a.eval x = ax at k1
          have k1' : RP w (okS A S w bo) (.ro fl esz n L) ax := k1
          cases k1' with
          | ro _ _ _ _ Ad c ad f hL hc hm hA he hf hr h1' hp =>
            have hb := bounds_ok (P := P) (ρ := a.eval) (isS := true) (len := n) (cap := c) hlo hhi b0 b1 (by omega) w
            have hlen : (hh.toNat - l.toNat) = n' := by rw [← b4, ← b3, List.length_drop, List.length_take]; omega
            have hget : ∀ i, i < n' → L'.getD i [] = L.getD (l.toNat + i) [] := by
              intro i hi
              rw [← b3]
              have : l.toNat + i < hh.toNat := by omega
              simp [List.getD_eq_getElem?_getD, List.getElem?_drop, List.getElem?_take, this]
            have hsub : ∀ z ∈ L', z ∈ L := fun z hz => by
              rw [← b3] at hz; exact List.mem_of_mem_take (List.mem_of_mem_drop hz)
            refine ⟨.slice (if c = l.toNat then Ad else Ad.map (·.add (l.toNat * esz))) (hh.toNat - l.toNat) (c - l.toNat), ?_, ?_, fun p hp => by simp [refs, refs1, refs0] at hp⟩
            · simp [execOp, ho, hax, Instr.sliceAt, Instr.slice, under_run hu, hb, tsize_run hsz]
            · show RP w (okS A S w bo) (.ro fl esz n' L') _
              rw [hlen]
              by_cases h0 : n' = 0
              · subst h0
                exact .ro fl esz 0 L' _ _ ad f b4 (Nat.zero_le _) (by omega) (.inl rfl) (fun z hz => he z (hsub z hz)) (fun h z hz => hf h z (hsub z hz)) (fun i j hi => by omega) (fun i j hi => by omega) (fun i j hi => by omega)
              · have hcl : ¬ c = l.toNat := by omega
                rcases hA with hn | ⟨rfl, hok⟩
                · omega
                · rw [if_neg hcl]
                  refine .ro fl esz n' L' _ _ (ad.add (l.toNat * esz)) (fun i j => f (l.toNat + i) j) b4 (by omega) (by omega) (.inr ⟨rfl, by rw [add_block]; exact hok⟩) (fun z hz => he z (hsub z hz)) (fun h z hz => hf h z (hsub z hz)) (fun i j hi hj => ?_) (fun i j hi hj => h1' _ _ (by omega) hj) (fun i j hi hj => ?_)
                  · rw [add_add, ← Nat.add_assoc, ← Nat.add_mul]
                    exact hr _ _ (by omega) hj
                  · rw [hget i hi]
                    exact hp _ _ (by omega) hj
        · exact (go_fail h7).elim
      · exact (go_fail h2).elim
    · exact (go_fail h2).elim
  · exact (go_fail h2).elim

end Go.Eng
