import Derived.Test.YtdfepbmcglnhcaaGreatPtPA
import Derived.Test.YtdfepbmcglnhcaaGreatPtF
section
set_option linter.unusedVariables false
set_option linter.unusedSimpArgs false
/-! plain: the draws of balls (for every base from 2 to 7) -/
namespace Go.Gn
open Go Go.Eng Pl Pl.M2

section
variable {p : Int} (h2 : 2 ≤ p) (h7 : p ≤ 7)
include h2 h7
theorem gpow22 {k : Nat} (h : k ≤ 22) : 1 ≤ p ^ k ∧ p ^ k ≤ 3909821048582988049 := by
  have a := pow_pos h2 k
  have b := pow_mono h2 h
  have c : p ^ 22 ≤ 7 ^ 22 := by
    have : p = 2 ∨ p = 3 ∨ p = 4 ∨ p = 5 ∨ p = 6 ∨ p = 7 := by omega
    rcases this with rfl | rfl | rfl | rfl | rfl | rfl <;> decide
  have d : (7 : Int) ^ 22 = 3909821048582988049 := by decide
  omega
theorem gpow12 {k : Nat} (h : k ≤ 12) : 1 ≤ p ^ k ∧ p ^ k ≤ 13841287201 := by
  have a := pow_pos h2 k
  have b := pow_mono h2 h
  have c : p ^ 12 ≤ 7 ^ 12 := by
    have : p = 2 ∨ p = 3 ∨ p = 4 ∨ p = 5 ∨ p = 6 ∨ p = 7 := by omega
    rcases this with rfl | rfl | rfl | rfl | rfl | rfl <;> decide
  have d : (7 : Int) ^ 12 = 13841287201 := by decide
  omega
omit h7 in
theorem gspec_power_l : ∀ (n k i : Nat), n < k → i + n ≤ 100 → p ^ (i + n) ≤ 9223372036854775807 → spec_l01Power.l2 k p (n : Int) (p ^ i) = some (p ^ (i + n)) := by
  intro n
  induction n with
  | zero =>
    intro k i hk h h2
    obtain ⟨k, rfl⟩ : ∃ m, k = m + 1 := ⟨k - 1, by omega⟩
    simp only [spec_l01Power.l2, spec_l01Power.s2]
    rw [ifE_neg (by omega)]; rfl
  | succ n ih =>
    intro k i hk h h3
    obtain ⟨k, rfl⟩ : ∃ m, k = m + 1 := ⟨k - 1, by omega⟩
    simp only [spec_l01Power.l2, spec_l01Power.s2]
    have hb := pow_mono h2 (a := i + 1) (b := i + (n + 1)) (by omega)
    have hb0 := pow_pos h2 (i + 1)
    rw [ifE_pos (by omega), pow_mul_p, W_id (n := p ^ (i + 1)) (by omega) (by omega), W_id (n := ((n + 1 : Nat) : Int) - 1) (by omega) (by omega)]
    have := ih k (i + 1) (by omega) (by omega) (by rw [show i + 1 + n = i + (n + 1) from by omega]; exact h3)
    rw [show i + 1 + n = i + (n + 1) from by omega] at this
    rw [show ((n + 1 : Nat) : Int) - 1 = (n : Int) from by omega]
    exact this
omit h7 in
theorem gspec_power_g {k : Nat} (h : k ≤ 100) (h3 : p ^ k ≤ 9223372036854775807) : spec_l01Power.f p k = some (p ^ k) := by
  have := gspec_power_l h2 k fuelN 0 (lt_fuel (by omega)) (by omega) (by rw [Nat.zero_add]; exact h3)
  rw [Int.pow_zero, Nat.zero_add] at this
  unfold spec_l01Power.f
  exact this
theorem gspec_power_f {k : Int} (h0 : 0 ≤ k) (h : k ≤ 22) : spec_l01Power.f p k = some (p ^ k.toNat) := by
  have := gspec_power_g h2 (k := k.toNat) (by omega) (by have := gpow22 h2 h7 (k := k.toNat) (by omega); omega)
  rw [show ((k.toNat : Nat) : Int) = k from by omega] at this
  exact this
omit h7 in
theorem two_pow_le (k : Nat) : (2 : Int) ^ k ≤ p ^ k := by
  induction k with
  | zero => simp
  | succ k ih =>
    rw [Int.pow_succ, Int.pow_succ]
    have := pow_pos h2 k
    have a := Int.mul_le_mul ih h2 (by omega) (by omega)
    exact a
omit h7 in
theorem gvl_lt {n : Int} (h0 : n ≠ 0) (hn : big63 n) : vl p n < 63 := by
  rcases Nat.lt_or_ge (vl p n) 63 with h | h
  · exact h
  · exfalso
    have hd := (dvd_iff_le_vl h2 h0 63).2 h
    have h1 : p ^ 63 ≤ n.natAbs := Int.le_of_dvd (by omega) (Int.dvd_natAbs.2 hd)
    have h3 : (9223372036854775808 : Int) ≤ p ^ 63 := by
      have := two_pow_le h2 63
      have e : (2 : Int) ^ 63 = 9223372036854775808 := by decide
      omega
    unfold big63 at hn; omega
omit h7 in
theorem gvl_step {n : Int} (h0 : n ≠ 0) (hd : Int.tmod n p = 0) : ∃ q, n = p * q ∧ q ≠ 0 ∧ Int.tdiv n p = q ∧ vl p n = vl p q + 1 := by
  have hdv : p ∣ n := Int.dvd_of_tmod_eq_zero hd
  obtain ⟨q, rfl⟩ := hdv
  have hq : q ≠ 0 := by rintro rfl; simp at h0
  refine ⟨q, rfl, hq, Int.mul_tdiv_cancel_left _ (by omega), ?_⟩
  have := vl_pow_mul h2 1 hq
  have e : p ^ 1 = p := by grind
  rw [e] at this; omega
omit h7 in
theorem gvl_stop {n : Int} (h0 : n ≠ 0) (hd : Int.tmod n p ≠ 0) : vl p n = 0 := by
  refine vl_unique (m := n) h2 h0 (by simp) fun h => hd ?_
  obtain ⟨q, rfl⟩ := h
  exact Int.mul_tmod_right _ _
omit h7 in
theorem gspec_val_l : ∀ (v k : Nat) (n : Int) (c : Nat), n ≠ 0 → big63 n → vl p n = v → v < k → c + v ≤ 100 → spec_l01Val.l2 k p n (c : Int) = some ((c + v : Nat) : Int) := by
  intro v
  induction v with
  | zero =>
    intro k n c h0 hn hv hk hc
    obtain ⟨k, rfl⟩ : ∃ m, k = m + 1 := ⟨k - 1, by omega⟩
    simp only [spec_l01Val.l2, spec_l01Val.s2]
    rw [guardE_pos (by omega)]
    by_cases hd : Int.tmod n p = 0
    · obtain ⟨q, -, -, -, h⟩ := gvl_step h2 h0 hd
      omega
    · rw [beq_ne hd, ifE_f]; rfl
  | succ v ih =>
    intro k n c h0 hn hv hk hc
    obtain ⟨k, rfl⟩ : ∃ m, k = m + 1 := ⟨k - 1, by omega⟩
    simp only [spec_l01Val.l2, spec_l01Val.s2]
    rw [guardE_pos (by omega)]
    by_cases hd : Int.tmod n p = 0
    · obtain ⟨q, rfl, hq, ht, h⟩ := gvl_step h2 h0 hd
      have hqb : big63 q := by
        have h1 : (p * q).natAbs = p.natAbs * q.natAbs := Int.natAbs_mul _ _
        have h3 : 1 * q.natAbs ≤ p.natAbs * q.natAbs := Nat.mul_le_mul_right _ (by omega)
        unfold big63 at *; omega
      rw [show (Int.tmod (p * q) p == 0) = true from by simp [hd], ifE_t, guardE_pos (by omega), ht, W_id (n := q) (by unfold big63 at hqb; omega) (by unfold big63 at hqb; omega), W_id (n := (c : Int) + 1) (by omega) (by omega)]
      have := ih k q (c + 1) hq hqb (by omega) (by omega) (by omega)
      rw [show c + 1 + v = c + (v + 1) from by omega] at this
      exact this
    · exact absurd (gvl_stop h2 h0 hd) (by omega)
omit h7 in
theorem gspec_val_f {n : Int} (h0 : n ≠ 0) (hn : big63 n) : spec_l01Val.f p n = some (vl p n : Int) := by
  have h := gvl_lt h2 h0 hn
  have := gspec_val_l h2 (vl p n) fuelN n 0 h0 hn rfl (lt_fuel (by omega)) (by omega)
  unfold spec_l01Val.f
  rw [Nat.zero_add] at this
  exact this
end

theorem ex_inv_l {m : Int} (hm : 0 < m) (hm2 : m ≤ 4000000000000000000) : ∀ (k : Nat) (a b x y : Int), b.natAbs < k → 0 ≤ a → a ≤ m → 0 ≤ b → b ≤ m → Ex TT (spec_l01InvMod.l2 k m a b x y) := by
  intro k
  induction k with
  | zero => intro a b x y h; omega
  | succ k ih =>
    intro a b x y hk ha ham hb hbm
    simp only [spec_l01InvMod.l2, spec_l01InvMod.s2]
    refine Ex.ite (fun h0 => ?_) (fun _ => Ex.guard (by omega) (Ex.guard (by omega) (Ex.ret trivial)))
    have h0 : b ≠ 0 := by simpa using h0
    have q := quo_facts ha (b := b) (by omega)
    have e1 : W (Int.tdiv a b) = Int.tdiv a b := W_id (by omega) (by omega)
    have e2 : 0 ≤ Int.tdiv a b * b := Int.mul_nonneg q.1 hb
    refine Ex.guard h0 ?_
    rw [e1, W_id (n := Int.tdiv a b * b) (by omega) (by omega), W_id (n := a - Int.tdiv a b * b) (by omega) (by omega)]
    exact ih _ _ _ _ (by omega) hb hbm (by omega) (by omega)
theorem ex_inv {n m : Int} (hm : 0 < m) (hm2 : m ≤ 4000000000000000000) : Ex TT (spec_l01InvMod.f n m) := by
  unfold spec_l01InvMod.f
  rw [guardE_pos (by omega), guardE_pos (by omega), tmod_emod hm (by omega)]
  have := emod_range (a := n) hm
  exact ex_inv_l hm hm2 fuelN _ _ _ _ (lt_fuel (by omega)) this.1 (by omega) (by omega) (by omega)

theorem ex_of {p num den L : Int} (h2 : 2 ≤ p) (h7 : p ≤ 7) (hd : den ≠ 0) (hn : big63 num) (hdn : big63 den) : Ex TT (spec_l01Of.f p num den L) := by
  unfold spec_l01Of.f
  rw [spec_l01In_f, Option.bind_some]
  refine Ex.ite (fun _ => Ex.ret trivial) fun hL => ?_
  have hL : -6 ≤ L ∧ L ≤ 6 := by simpa using hL
  refine Ex.ite (fun _ => Ex.ret trivial) fun h0 => ?_
  have h0 : num ≠ 0 := by simpa using h0
  have hbv := gvl_lt h2 hd hdn
  have hav := gvl_lt h2 h0 hn
  rw [gspec_val_f h2 h0 hn, Option.bind_some, gspec_val_f h2 hd hdn, Option.bind_some, W_id (n := (vl p num : Int) - vl p den) (by omega) (by omega), W_id (n := (vl p den : Int) - vl p num) (by omega) (by omega)]
  refine Ex.ite (fun _ => Ex.ret trivial) fun h1 => ?_
  have h1 : ¬ L ≤ (vl p num : Int) - vl p den := by simpa using h1
  refine Ex.ite (fun _ => Ex.ret trivial) fun h3 => ?_
  have him : imax ((vl p den : Int) - vl p num) 0 = max ((vl p den : Int) - vl p num) 0 := by unfold imax; split <;> omega
  have him2 : imax ((vl p num : Int) - vl p den) 0 = max ((vl p num : Int) - vl p den) 0 := by unfold imax; split <;> omega
  rw [him] at h3 ⊢
  have h3 : ¬ max ((vl p den : Int) - vl p num) 0 > 6 := by simpa using h3
  rw [him2, W_id (n := L + max ((vl p den : Int) - vl p num) 0) (by omega) (by omega), gspec_power_f h2 h7 (by omega) (by omega), Option.bind_some]
  have le (n : Int) (h0 : n ≠ 0) (hn : big63 n) : p ^ vl p n ≤ 9223372036854775807 := by
    have a : p ^ vl p n ∣ n := (dvd_iff_le_vl h2 h0 _).2 (Nat.le_refl _)
    have h1 : p ^ vl p n ≤ n.natAbs := Int.le_of_dvd (by omega) (Int.dvd_natAbs.2 a)
    unfold big63 at hn; omega
  have hm := gpow12 h2 h7 (k := (L + max ((vl p den : Int) - vl p num) 0).toNat) (by omega)
  have hup := gpow12 h2 h7 (k := (max ((vl p num : Int) - vl p den) 0).toNat) (by omega)
  rw [gspec_power_g h2 (by omega) (le num h0 hn), Option.bind_some, guardE_pos (pow_ne h2 _), gspec_power_g h2 (by omega) (le den hd hdn), Option.bind_some, guardE_pos (pow_ne h2 _)]
  refine Ex.bind (ex_inv (by omega) (by omega)) fun r _ => ?_
  rw [spec_l01MulMod_f (by omega) (by omega), Option.bind_some, gspec_power_f h2 h7 (by omega) (by omega), Option.bind_some, spec_l01MulMod_f (by omega) (by omega), Option.bind_some]
  exact Ex.ret trivial

/-! draws -/
abbrev G2 {α : Type} : α × Src → Prop := fun r => SrcOk r.2

theorem ex_l01Bad {s : Src} (hs : SrcOk s) (b : Siii) : Ex G2 (spec_l01Bad.f s b) := by
  unfold spec_l01Bad.f
  refine Ex.bind (ex_next hs (by omega)) fun r hr => ?_
  refine Ex.ite (fun _ => Ex.bind (ex_pick hr.2 (by simp)) fun q hq => Ex.ret hq.2) fun _ => ?_
  refine Ex.ite (fun _ => Ex.bind (ex_pick hr.2 (by simp)) fun q hq => Ex.ret hq.2) fun _ => ?_
  refine Ex.ite (fun _ => Ex.bind (ex_pick hr.2 (by simp)) fun q hq => Ex.ret hq.2) fun _ => Ex.ret hr.2

theorem ex_l01Draw {s : Src} (hs : SrcOk s) {p : Int} (h2 : 2 ≤ p) (h7 : p ≤ 7) : Ex G2 (spec_l01Draw.f s p) := by
  unfold spec_l01Draw.f
  refine Ex.bind (ex_next hs (by omega)) fun r1 h1 => Ex.bind (ex_pick h1.2 (by simp)) fun r2 h3 => Ex.bind (ex_next h3.2 (by omega)) fun r3 h4 => ?_
  refine Ex.ite (fun _ => Ex.ret h4.2) fun _ => ?_
  refine Ex.bind (ex_next h4.2 (by omega)) fun r4 h5 => Ex.bind (ex_next h5.2 (by omega)) fun r5 h6 => Ex.bind (ex_pick h6.2 (by simp)) fun r6 h8 => Ex.bind (ex_next h8.2 (by omega)) fun r7 h9 => Ex.bind (ex_pick h9.2 (by simp)) fun r8 h10 => ?_
  obtain ⟨⟨a5, b5⟩, -⟩ := h5
  obtain ⟨⟨a6, b6⟩, -⟩ := h6
  obtain ⟨m8, -⟩ := h8
  obtain ⟨⟨a9, b9⟩, -⟩ := h9
  obtain ⟨m10, s10⟩ := h10
  rw [W_id (n := r4.1 - 10) (by omega) (by omega), W_id (n := r5.1 - 1000000) (by omega) (by omega)] at m8
  simp only [List.mem_cons, List.not_mem_nil, or_false] at m8 m10
  have hk : 0 ≤ r8.1 ∧ r8.1 ≤ 6 := by omega
  have hpw := gpow12 h2 h7 (k := r8.1.toNat) (by omega)
  rw [gspec_power_f h2 h7 hk.1 (by omega), Option.bind_some]
  refine Ex.bind (ex_of h2 h7 (by omega) (by unfold big63; omega) (by unfold big63; omega)) fun q _ => ?_
  exact Ex.ite (fun _ => Ex.ret s10) fun _ => Ex.ret s10

theorem clamp (n : Int) : 2 ≤ imin (imax n 2) 7 ∧ imin (imax n 2) 7 ≤ 7 := by unfold imin imax; split <;> split <;> omega

theorem ex_l09Side {s : Src} (hs : SrcOk s) (p : Int) : Ex G2 (spec_l09Side.f s p) := by
  unfold spec_l09Side.f
  exact Ex.bind (ex_l01Draw hs (clamp p).1 (clamp p).2) fun r h => Ex.bind (ex_l01Bad h _) fun q hq => Ex.bind (ex_next hq (by omega)) fun z hz => Ex.ret hz.2

end Go.Gn
end
section
set_option linter.unusedVariables false
set_option linter.unusedSimpArgs false
/-! plain: the draws of FnSides -/
namespace Go.Gn
open Go Go.Eng Pl Pl.M2

theorem isP_range {p : Int} (hp : IsP p) : 2 ≤ p ∧ p ≤ 7 := by rcases hp with rfl | rfl | rfl | rfl <;> omega

theorem ex_l01DrawPrime {s : Src} (hs : SrcOk s) : Ex (fun r => IsP r.1 ∧ SrcOk r.2) (spec_l01DrawPrime.f s) := by
  unfold spec_l01DrawPrime.f
  refine Ex.bind (ex_pick hs (by simp)) fun r hr => Ex.ret ⟨?_, hr.2⟩
  have := hr.1
  simp only [List.mem_cons, List.not_mem_nil, or_false] at this
  unfold IsP; omega

theorem ex_l01Spoil {s : Src} (hs : SrcOk s) : Ex (fun r : Int × Siii × Src => SrcOk r.2.2) (spec_l01Spoil.f s) := by
  unfold spec_l01Spoil.f
  refine Ex.bind (ex_l01DrawPrime hs) fun r hr => ?_
  have := isP_range hr.1
  refine Ex.bind (ex_l01Draw hr.2 this.1 this.2) fun q hq => Ex.bind (ex_l01Bad hq _) fun z hz => Ex.bind (ex_next hz (by omega)) fun y hy => ?_
  exact Ex.ite (fun _ => Ex.bind (ex_pick hy.2 (by simp)) fun x hx => Ex.ret hx.2) fun _ => Ex.ret hy.2

theorem ex_is01 (p : Int) (b : Siii) : Ex (fun r => r = decide (isB p b)) (spec_l01Is.f p b) := ⟨_, spec_l01Is_f p b, rfl⟩

theorem isB_T {p : Int} {b : Siii} (h : isB p b) : 0 ≤ b.c1 ∧ b.c1 ≤ 13841287201 := by
  obtain ⟨hp, hL, hD, h | h⟩ := h
  · omega
  · have := pow12 hp (k := (b.c0 + b.c2).toNat) (by omega)
    omega

theorem ex_l01Parent {p : Int} {b : Siii} (h : isB p b) : Ex (fun r : Siii × Bool => r.2 = true → isB p r.1) (spec_l01Parent.f p b) := by
  unfold spec_l01Parent.f
  have hd := h.dn
  have ht := isB_T h
  have hpw := pow12 h.1 (k := b.c2.toNat) (by omega)
  rw [spec_power_f h.1 hd.1 (by omega), Option.bind_some]
  refine Ex.bind (Q := fun r : Siii × Bool => r.2 = true → isB p r.1) ?_ fun q hq => Ex.ret hq
  obtain ⟨c, ok, h1, h2⟩ := spec_l01Of_f (p := p) (num := b.c1) (den := p ^ b.c2.toNat) (L := W (b.c0 - 1)) h.1 (by omega) (by unfold big63; omega) (by unfold big63; omega)
  refine ⟨_, h1, fun hk => ?_⟩
  have hk : ok = true := hk
  rw [hk] at h2
  exact h2.isB.1

theorem two_l {p : Int} (v6 : Int) (o3_0 o3_1 o3_2 o4_0 o4_1 o4_2 o7_0 o7_1 o7_2 : Int) : ∀ (k : Nat) (v10 : Int) (b : Siii), v10.toNat < k → v10 ≤ 1000 → isB p b →
    Ex TT (spec_l01Two.l10 k v6 p v10 o3_0 o3_1 o3_2 o4_0 o4_1 o4_2 o7_0 o7_1 o7_2 b.c0 b.c1 b.c2) := by
  intro k
  induction k with
  | zero => intro v10 b h; omega
  | succ k ih =>
    intro v10 b hk hv hb
    simp only [spec_l01Two.l10, spec_l01Two.s10]
    refine Ex.ite (fun hc => ?_) fun _ => Ex.ret trivial
    have hc : v10 > 0 := by simpa using hc
    rw [W_id (n := v10 - 1) (by omega) (by omega)]
    refine Ex.bind (ex_l01Parent (b := ⟨b.c0, b.c1, b.c2⟩) hb) fun r hr => ?_
    refine Ex.ite (fun h => ?_) fun _ => ?_
    · exact ih _ _ (by omega) (by omega) (hr h)
    · exact ih _ b (by omega) (by omega) hb

theorem two_j {p : Int} (hp : IsP p) {s : Src} (hs : SrcOk s) (v6 : Int) (o3_0 o3_1 o3_2 o4_0 o4_1 o4_2 o7_0 o7_1 o7_2 : Int) :
    Ex TT (spec_l01Two.j6 v6 p o3_0 o3_1 o3_2 o4_0 o4_1 o4_2 s.c0 s.c1 s.c2 o7_0 o7_1 o7_2) := by
  unfold spec_l01Two.j6
  have := isP_range hp
  refine Ex.bind (ex_l01Draw (s := ⟨s.c0, s.c1, s.c2⟩) hs this.1 this.2) fun r hr => Ex.bind (ex_l01Bad hr _) fun q hq => Ex.bind (ex_next hq (by omega)) fun z hz => ?_
  refine Ex.ite (fun _ => Ex.bind (ex_is01 _ _) fun b hb => ?_) fun _ => Ex.ret trivial
  refine Ex.ite (fun h => Ex.bind (ex_next hz.2 (by omega)) fun y hy => ?_) fun _ => Ex.ret trivial
  have hv : isB p ⟨o7_0, o7_1, o7_2⟩ := by rw [h] at hb; simpa using hb.symm
  exact two_l v6 o3_0 o3_1 o3_2 o4_0 o4_1 o4_2 o7_0 o7_1 o7_2 fuelN _ _ (lt_fuel (by have := hy.1; omega)) (by have := hy.1; omega) hv

section
variable {code : List Int} (hb : ∀ x ∈ code, 0 ≤ x ∧ x < 256) (hl : code.length ≤ 4500)
include hb hl
theorem ex_l01Two : Ex TT (spec_l01Two.f code) := by
  unfold spec_l01Two.f
  refine Ex.bind (ex_from hb (by omega)) fun s hs => Ex.bind (ex_l01Spoil hs) fun r hr => ?_
  rw [spec_l01Prime_f, Option.bind_some]
  refine Ex.ite (fun h => two_j (.inl rfl) hr _ _ _ _ _ _ _ _ _ _) fun h => two_j (by simpa using h) hr _ _ _ _ _ _ _ _ _ _

theorem ex_DrawMoveSide : Ex TT (spec_DrawMoveSide.f code) := by
  unfold spec_DrawMoveSide.f
  exact Ex.bind (ex_from hb (by omega)) fun s hs => Ex.bind (ex_pick hs (by simp)) fun r hr => Ex.bind (ex_l04Draw hr.2) fun q hq => Ex.bind (ex_l09Side hq _) fun z hz => Ex.ret trivial

theorem ex_DrawPairedMover : Ex TT (spec_DrawPairedMover.f code) := by
  unfold spec_DrawPairedMover.f
  refine Ex.bind (ex_from hb (by omega)) fun s hs => Ex.bind (ex_next hs (by omega)) fun r hr => ?_
  refine Ex.ite (fun _ => Ex.bind (ex_l01Two hb hl) fun z _ => Ex.ret trivial) fun _ => ?_
  refine Ex.bind (ex_pick hr.2 (by simp)) fun r4 h4 => Ex.bind (ex_next h4.2 (by omega)) fun r5 h5 => Ex.bind (ex_pick h5.2 (by simp)) fun r6 h6 => Ex.bind (ex_next h6.2 (by omega)) fun r7 h7 => ?_
  have m4 := h4.1
  have m6 := h6.1
  have m5 := h5.1
  simp only [List.mem_cons, List.not_mem_nil, or_false] at m4 m6
  rw [W_id (n := r5.1 - 10) (by omega) (by omega)]
  refine Ex.bind (ex_of (by omega) (by omega) (by omega) (by unfold big63; omega) (by unfold big63; omega)) fun r8 h8 => ?_
  refine Ex.bind (ex_next h7.2 (by omega)) fun r9 h9 => Ex.bind (ex_pick h9.2 (by simp)) fun r10 h10 => Ex.bind (ex_next h10.2 (by omega)) fun r11 h11 => ?_
  have m9 := h9.1
  have m10 := h10.1
  simp only [List.mem_cons, List.not_mem_nil, or_false] at m10
  rw [W_id (n := r9.1 - 10) (by omega) (by omega)]
  exact Ex.bind (ex_of (by omega) (by omega) (by omega) (by unfold big63; omega) (by unfold big63; omega)) fun r8 h8 => Ex.ret trivial

omit hb hl in
theorem ex_endOf {x y : Int} (hx : big x) (hy : big y) : Ex TT (spec_l01EndOf.f x y) := by
  unfold spec_l01EndOf.f
  refine Ex.ite (fun _ => Ex.ret trivial) fun h => ?_
  have h : y ≠ 0 := by simpa using h
  rw [spec_gcd_f hx hy, Option.bind_some]
  have hg : (Int.gcd x y : Int) ≠ 0 := by
    intro e
    have : Int.gcd x y = 0 := by omega
    exact h (Int.gcd_eq_zero_iff.1 this).2
  have hgb : (Int.gcd x y : Int) ≤ y.natAbs := by
    have := Int.gcd_dvd_right (a := x) (b := y)
    exact Int.le_of_dvd (by omega) (Int.dvd_natAbs.2 this)
  have w : W (0 - (Int.gcd x y : Int)) = -(Int.gcd x y : Int) := by unfold big at hy; rw [W_id (by omega) (by omega)]; omega
  refine Ex.ite (fun _ => ?_) fun _ => ?_
  · unfold spec_l01EndOf.j6
    refine Ex.guard (by rw [w]; omega) (Ex.guard (by rw [w]; omega) ?_)
    exact Ex.ite (fun _ => Ex.ret trivial) fun _ => Ex.ret trivial
  · unfold spec_l01EndOf.j6
    refine Ex.guard hg (Ex.guard hg ?_)
    exact Ex.ite (fun _ => Ex.ret trivial) fun _ => Ex.ret trivial

omit hb hl in
theorem ex_DrawEnd_j {s : Src} (hs : SrcOk s) (v8 a b : Int) : Ex G2 (spec_l01DrawEnd.j5 v8 s.c0 s.c1 s.c2 a b) := by
  unfold spec_l01DrawEnd.j5
  have hs' : SrcOk (⟨s.c0, s.c1, s.c2⟩ : Src) := hs
  refine Ex.ite (fun _ => Ex.bind (ex_pick hs' (by simp)) fun r hr => Ex.bind (ex_pick hr.2 (by simp)) fun q hq => Ex.ret hq.2) fun _ => ?_
  refine Ex.bind (ex_next hs' (by omega)) fun r4 h4 => Ex.bind (ex_next h4.2 (by omega)) fun r5 h5 => Ex.bind (ex_next h5.2 (by omega)) fun r6 h6 => Ex.bind (ex_pick h6.2 (by simp)) fun r7 h7 => ?_
  refine Ex.bind (ex_next h7.2 (by omega)) fun r8 h8 => Ex.bind (ex_next h8.2 (by omega)) fun r9 h9 => ?_
  have m9 := h9.1
  have p2 := gpow12 (p := 2) (by omega) (by omega) (k := r9.1.toNat) (by omega)
  rw [gspec_power_f (p := 2) (by omega) (by omega) m9.1 (by omega), Option.bind_some]
  refine Ex.bind (ex_next h9.2 (by omega)) fun r11 h11 => ?_
  have m11 := h11.1
  have p3 := gpow12 (p := 3) (by omega) (by omega) (k := r11.1.toNat) (by omega)
  rw [gspec_power_f (p := 3) (by omega) (by omega) m11.1 (by omega), Option.bind_some]
  refine Ex.bind (ex_next h11.2 (by omega)) fun r13 h13 => Ex.bind (ex_pick h13.2 (by simp)) fun r14 h14 => ?_
  have m4 := h4.1
  have m5 := h5.1
  have m6 := h6.1
  have m8 := h8.1
  have m13 := h13.1
  have m7 := h7.1
  have m14 := h14.1
  rw [W_id (n := r4.1 - 10) (by omega) (by omega), W_id (n := r5.1 - 100) (by omega) (by omega), W_id (n := r6.1 - 1000000) (by omega) (by omega)] at m7
  rw [W_id (n := 1 + r8.1) (by omega) (by omega), W_id (n := 1 + r13.1) (by omega) (by omega)] at m14
  simp only [List.mem_cons, List.not_mem_nil, or_false] at m7 m14
  exact Ex.bind (ex_endOf (by unfold big; omega) (by unfold big; omega)) fun _ _ => Ex.ret h14.2

omit hb hl in
theorem ex_DrawEnd {s : Src} (hs : SrcOk s) : Ex G2 (spec_l01DrawEnd.f s) := by
  unfold spec_l01DrawEnd.f
  refine Ex.bind (ex_next hs (by omega)) fun r hr => ?_
  refine Ex.ite (fun _ => Ex.ite (fun _ => Ex.ret hr.2) fun _ => ex_DrawEnd_j hr.2 _ _ _) fun _ => Ex.ite (fun _ => Ex.ret hr.2) fun _ => ex_DrawEnd_j hr.2 _ _ _

omit hb hl in
theorem ex_l05End {s : Src} (hs : SrcOk s) (p : Int) (b : Siii) : Ex G2 (spec_l05End.f s p b) := by
  unfold spec_l05End.f
  refine Ex.bind (ex_is01 _ _) fun q hq => ?_
  refine Ex.ite (fun _ => Ex.bind (ex_DrawEnd hs) fun r hr => Ex.ret hr) fun hc => ?_
  have hv : isB p b := by have : q = true := by simpa using hc
                          rw [this] at hq; simpa using hq.symm
  have hr := isP_range hv.1
  have hd := hv.dn
  have hL := hv.lv
  have ht := isB_T hv
  refine Ex.bind (ex_next hs (by omega)) fun r3 h3 => ?_
  refine Ex.ite (fun _ => Ex.bind (ex_DrawEnd h3.2) fun r hr => Ex.ret hr) fun _ => ?_
  have hpw := pow12 hv.1 (k := b.c2.toNat) (by omega)
  rw [spec_power_f hv.1 hd.1 (by omega), Option.bind_some]
  refine Ex.bind (ex_next h3.2 (by omega)) fun r6 h6 => ?_
  have m6 := h6.1
  have tail : ∀ (v7 : Int) (s : Src), big v7 → SrcOk s → Ex G2 (spec_l05End.j7 v7 (p ^ b.c2.toNat) s.c0 s.c1 s.c2 0 0) := by
    intro v7 s hv7 hs
    unfold spec_l05End.j7
    refine Ex.bind (ex_endOf hv7 (by unfold big; omega)) fun r9 h9 => ?_
    have hs' : SrcOk (⟨s.c0, s.c1, s.c2⟩ : Src) := hs
    exact Ex.ite (fun _ => Ex.bind (ex_DrawEnd hs') fun r hr => Ex.ret hr) fun _ => Ex.ret hs'
  rw [W_id (n := b.c0 + r6.1) (by omega) (by omega), W_id (n := b.c0 + r6.1 - 1) (by omega) (by omega)]
  refine Ex.ite (fun hge => ?_) fun _ => tail _ _ (by unfold big; omega) h6.2
  have hge : b.c0 + r6.1 - 1 ≥ 0 := by simpa using hge
  refine Ex.bind (ex_next h6.2 (by omega)) fun r7 h7 => ?_
  have m7 := h7.1
  have hq := pow12 hv.1 (k := (b.c0 + r6.1 - 1).toNat) (by omega)
  rw [spec_power_f hv.1 hge (by omega), Option.bind_some]
  have d6 := pow_mono hv.1.two (a := b.c2.toNat) (b := 6) (by omega)
  have q8 := pow_mono hv.1.two (a := (b.c0 + r6.1 - 1).toNat) (b := 8) (by omega)
  have s6 : p ^ 6 ≤ 117649 := by rcases hv.1 with rfl | rfl | rfl | rfl <;> decide
  have s8 : p ^ 8 ≤ 5764801 := by rcases hv.1 with rfl | rfl | rfl | rfl <;> decide
  have a1 : 0 ≤ r7.1 * p ^ (b.c0 + r6.1 - 1).toNat := Int.mul_nonneg m7.1 (by omega)
  have a2 : r7.1 * p ^ (b.c0 + r6.1 - 1).toNat ≤ 7 * 5764801 := Int.mul_le_mul (by omega) (by omega) (by omega) (by omega)
  have a3 : 0 ≤ r7.1 * p ^ (b.c0 + r6.1 - 1).toNat * p ^ b.c2.toNat := Int.mul_nonneg a1 (by omega)
  have a4 : r7.1 * p ^ (b.c0 + r6.1 - 1).toNat * p ^ b.c2.toNat ≤ 7 * 5764801 * 117649 := Int.mul_le_mul a2 (by omega) (by omega) (by omega)
  rw [W_id (n := r7.1 * p ^ (b.c0 + r6.1 - 1).toNat) (by omega) (by omega), W_id (n := r7.1 * p ^ (b.c0 + r6.1 - 1).toNat * p ^ b.c2.toNat) (by omega) (by omega), W_id (n := b.c1 + _) (by omega) (by omega)]
  exact tail _ _ (by unfold big; omega) h7.2

theorem ex_DrawSideHas : Ex TT (spec_DrawSideHas.f code) := by
  unfold spec_DrawSideHas.f
  exact Ex.bind (ex_from hb (by omega)) fun s hs => Ex.bind (ex_pick hs (by simp)) fun r hr => Ex.bind (ex_l09Side hr.2 _) fun q hq => Ex.bind (ex_l05End hq _ _) fun z hz => Ex.ret trivial

theorem ex_DrawAreApartSides : Ex TT (spec_DrawAreApartSides.f code) := by
  unfold spec_DrawAreApartSides.f
  refine Ex.guard (by simp only [List.length_cons, List.length_nil]; omega) ?_
  refine Ex.bind (ex_from (code := [4] ++ code) ?_ (by simp only [List.length_append, List.length_cons, List.length_nil]; omega)) fun s hs => Ex.bind (ex_l01Two hb hl) fun r hr => Ex.bind (ex_next hs (by omega)) fun q hq => Ex.bind (ex_next hq.2 (by omega)) fun z hz => Ex.ret trivial
  intro x hx
  simp only [List.cons_append, List.nil_append, List.mem_cons] at hx
  rcases hx with rfl | hx
  · omega
  · exact hb x hx
end

end Go.Gn
end
section
set_option linter.unusedVariables false
set_option linter.unusedSimpArgs false
/-! plain: balls moved -/
namespace Go.Gn
open Go Go.Eng Pl Pl.M2

def bMat (p : Int) (b : Siii) : M2 := mB p b.c0 b.c1 b.c2
theorem bMat_ne {p : Int} {b : Siii} (h : isB p b) : (bMat p b).det ≠ 0 := mB_ne h
def zB : Siii := ⟨0, 0, 0⟩

/-- what a move of a ball answers, the matrix M = g B in hand -/
def MvM (p : Int) (M : M2) (c : Siii) (ok : Bool) : Prop := (ok = true ∧ isB p c ∧ Same p (bMat p c) M) ∨ (ok = false ∧ c = zB ∧ ∀ c', isB p c' → ¬ Same p (bMat p c') M)

theorem siii_ext {a b : Siii} (h0 : a.c0 = b.c0) (h1 : a.c1 = b.c1) (h2 : a.c2 = b.c2) : a = b := by
  cases a; cases b; simp only at h0 h1 h2; rw [h0, h1, h2]

theorem ball_same {p : Int} {b c : Siii} (hb : isB p b) (hc : isB p c) (h : Same p (bMat p b) (bMat p c)) : b = c := by
  obtain ⟨e1, e2, e3⟩ := mB_same hb hc h
  exact siii_ext e1 e2 e3

theorem MvM.unique {p : Int} {M : M2} {c c' : Siii} {ok ok' : Bool} (hp : IsP p) (hM : M.det ≠ 0) (h : MvM p M c ok) (h' : MvM p M c' ok') : c = c' ∧ ok = ok' := by
  rcases h with ⟨rfl, hc, hs⟩ | ⟨rfl, rfl, hn⟩ <;> rcases h' with ⟨rfl, hc', hs'⟩ | ⟨rfl, rfl, hn'⟩
  · exact ⟨ball_same hc hc' (hs.trans hp (bMat_ne hc) hM (bMat_ne hc') hs'.symm), rfl⟩
  · exact absurd hs (hn' _ hc)
  · exact absurd hs' (hn _ hc')
  · exact ⟨rfl, rfl⟩

theorem mvM_of {p u1 u2 v1 v2 L : Int} {c : Siii} {ok : Bool} (hp : IsP p) (hd : (⟨u1, v1, u2, v2⟩ : M2).det ≠ 0) (hv : v2 ≠ 0) (hu : u2 = 0 ∨ vl p v2 ≤ vl p u2)
    (hL : L = (vl p (⟨u1, v1, u2, v2⟩ : M2).det : Int) - 2 * vl p v2) (h : AtB p v1 v2 L c ok) : MvM p ⟨u1, v1, u2, v2⟩ c ok := by
  rcases h with ⟨hf, rfl, hc, hat⟩ | ⟨hf, rfl, rfl⟩
  · left
    refine ⟨rfl, ?_⟩
    have hB : isB p c := by have := hat.1; rw [← hc] at this; exact this
    rw [← hc] at hat
    exact ⟨hB, isAt_same hp hd hv hu (by omega) hat⟩
  · right
    refine ⟨rfl, rfl, fun c' hc' hs => hf ?_⟩
    obtain ⟨e1, e2⟩ := same_isAt hp hd hv hu hc' hs
    have := e2.fits hv
    rwa [show c'.c0 = L from by omega] at this

theorem mvM_swap {p a b c d : Int} {x : Siii} {ok : Bool} (hp : IsP p) (hd : (⟨a, b, c, d⟩ : M2).det ≠ 0) (h : MvM p ⟨b, a, d, c⟩ x ok) : MvM p ⟨a, b, c, d⟩ x ok := by
  have hd' : (⟨b, a, d, c⟩ : M2).det ≠ 0 := by unfold det at *; simp only at *; intro h; apply hd; omega
  have hs := same_swap hp hd
  rcases h with ⟨rfl, h1, h2⟩ | ⟨rfl, rfl, h2⟩
  · exact .inl ⟨rfl, h1, h2.trans hp (bMat_ne h1) hd' hd hs⟩
  · exact .inr ⟨rfl, rfl, fun c' hc' k => h2 c' hc' (k.trans hp (bMat_ne hc') hd hd' hs.symm)⟩

theorem p6_le' {p : Int} (hp : IsP p) : 64 ≤ p ^ 6 ∧ p ^ 6 ≤ 117649 := by rcases hp with rfl | rfl | rfl | rfl <;> decide
theorem lin_W' {x y m q : Int} (hx : small 1000 x) (hy : small 1000 y) (hm : 0 ≤ m ∧ m ≤ 13841287201) (hq : 0 ≤ q ∧ q ≤ 13841287201) :
    W (W (x * m) + W (y * q)) = x * m + y * q ∧ big (x * m + y * q) := by
  have h1 := mul_small (m := 1000) (n := 13841287201) (x := x) (y := m) hx (by unfold small; omega) (by omega)
  have h2 := mul_small (m := 1000) (n := 13841287201) (x := y) (y := q) hy (by unfold small; omega) (by omega)
  unfold small at h1 h2
  rw [W_id (n := x * m) (by omega) (by omega), W_id (n := y * q) (by omega) (by omega), W_id (by omega) (by omega)]
  exact ⟨rfl, by unfold big; omega⟩
theorem one_W' {x m : Int} (hx : small 1000 x) (hm : 0 ≤ m ∧ m ≤ 13841287201) : W (x * m) = x * m ∧ big (x * m) := by
  have h1 := mul_small (m := 1000) (n := 13841287201) (x := x) (y := m) hx (by unfold small; omega) (by omega)
  unfold small at h1
  rw [W_id (n := x * m) (by omega) (by omega)]
  exact ⟨rfl, by unfold big; omega⟩
theorem big_63' {x : Int} (h : big x) : big63 x := by unfold big at h; unfold big63; omega
theorem det_big' {X : M2} (h : fitM 1000 X) : big X.det := by
  obtain ⟨h1, h2, h3, h4⟩ := h
  have a := mul_small h1 h4 (by omega)
  have b := mul_small h2 h3 (by omega)
  unfold small at a b; unfold big det; omega

theorem isB_T' {p : Int} {b : Siii} (h : isB p b) : 0 ≤ b.c1 ∧ b.c1 ≤ 13841287201 := by
  obtain ⟨hp, hL, hD, h | h⟩ := h
  · omega
  · have := pow12 hp (k := (b.c0 + b.c2).toNat) (by omega)
    omega
theorem nL_int' {L : Int} (h : -6 ≤ L ∧ L ≤ 6) : (nL L : Int) = L + 6 := by unfold nL; omega

section
variable {p : Int} {g : Siiii} {b : Siii} (hb : isB p b) (hg : isM (toM g))
include hb hg
theorem gB_det : ((toM g).mul (bMat p b)).det ≠ 0 := det_ne_mul hg.2 (bMat_ne hb)
theorem gB_vl : (vl p ((toM g).mul (bMat p b)).det : Int) = (vl p (toM g).det : Int) + b.c0 + 12 := by
  have := nL_int' hb.lv
  rw [det_mul, vl_mul hb.1 hg.2 (bMat_ne hb)]
  unfold bMat mB
  rw [det_ofB, vl_pow hb.1.two]; omega
theorem impl_moveBall_f : ∃ c ok, impl_moveBall.f p g b = some (c, ok) ∧ MvM p ((toM g).mul (bMat p b)) c ok := by
  have hp := hb.1
  have hL := hb.lv
  have h6 := p6_le' hp
  have hm : 0 ≤ mkB p b ∧ mkB p b ≤ 13841287201 := ⟨(mkB_range hb).1, mkB_le hb⟩
  have hn := pow12 hp (k := lvB b) (lvB_le hb)
  have enl : (b.c0 + 6).toNat = lvB b := rfl
  obtain ⟨w1, b1⟩ := lin_W' hg.1.1 hg.1.2.1 hm (q := p ^ 6) (by omega)
  obtain ⟨w2, b2⟩ := lin_W' hg.1.2.2.1 hg.1.2.2.2 hm (q := p ^ 6) (by omega)
  obtain ⟨w3, b3⟩ := one_W' hg.1.1 (m := p ^ lvB b) (by omega)
  obtain ⟨w4, b4⟩ := one_W' hg.1.2.2.1 (m := p ^ lvB b) (by omega)
  have w1 : W (W (g.c0 * mkB p b) + W (g.c1 * p ^ 6)) = _ := w1
  have w2 : W (W (g.c2 * mkB p b) + W (g.c3 * p ^ 6)) = _ := w2
  have w3 : W (g.c0 * p ^ lvB b) = _ := w3
  have w4 : W (g.c2 * p ^ lvB b) = _ := w4
  have hdet := gB_det hb hg
  have hvl := gB_vl hb hg
  have eM : (toM g).mul (bMat p b) = ⟨(toM g).a * p ^ lvB b, (toM g).a * mkB p b + (toM g).b * p ^ 6, (toM g).c * p ^ lvB b, (toM g).c * mkB p b + (toM g).d * p ^ 6⟩ := by
    unfold bMat mB ofB mul lvB mkB; ext <;> simp
  rw [eM] at hdet hvl ⊢
  have bd := big_63' (det_big' hg.1)
  have vd := vl_lt hp hg.2 bd
  unfold impl_moveBall.f
  rw [impl_mark_f hb, Option.bind_some, impl_power_f hp (by omega) (by omega), Option.bind_some, W_id (n := b.c0 + 6) (by omega) (by omega), impl_power_f hp (by omega) (by omega), Option.bind_some, show Int.toNat 6 = 6 from rfl, enl, w1, w2, w3, w4]
  have hj : ∀ x y : Int, y ≠ 0 → big x → big y → ∃ c ok, impl_moveBall.j6 p g.c0 g.c1 g.c2 g.c3 b.c0 b.c1 b.c2 0 0 0 x y = some (c, ok) ∧ AtB p x y ((vl p (toM g).det : Int) + b.c0 + 12 - 2 * vl p y) c ok := by
    intro x y hy bx by'
    have vy := vl_lt hp hy (big_63' by')
    unfold impl_moveBall.j6 impl_determinant.f
    rw [Option.bind_some, show W (W (g.c0 * g.c3) - W (g.c1 * g.c2)) = _ from det_W (m := 1000) (by omega) hg.1, impl_valuation_f hp hg.2 bd, Option.bind_some, impl_valuation_f hp hy (big_63' by'), Option.bind_some,
      W_id (n := (vl p (toM g).det : Int) + b.c0) (by omega) (by omega), W_id (n := (vl p (toM g).det : Int) + b.c0 + 12) (by omega) (by omega), W_id (n := 2 * (vl p y : Int)) (by omega) (by omega), W_id (by omega) (by omega)]
    obtain ⟨c, ok, e, h⟩ := impl_ballAt_f (p := p) (num := x) (den := y) (L := (vl p (toM g).det : Int) + b.c0 + 12 - 2 * vl p y) hp hy (big_63' bx) (big_63' by')
    rw [e, Option.bind_some]; exact ⟨c, ok, rfl, h⟩
  by_cases hv : (toM g).c * mkB p b + (toM g).d * p ^ 6 = 0
  · have hu : (toM g).c * p ^ lvB b ≠ 0 := by intro h; apply hdet; unfold det; simp only; rw [h, hv]; simp
    have vu := vl_lt hp hu (big_63' b4)
    rw [hv, impl_valuation_0, Option.bind_some, impl_valuation_f hp hu (big_63' b4), Option.bind_some, ifE_pos (by omega)]
    obtain ⟨c, ok, e, h⟩ := hj _ _ hu b3 b4
    refine ⟨c, ok, e, ?_⟩
    rw [hv] at hdet hvl
    refine mvM_swap hp hdet (mvM_of hp (L := (vl p (toM g).det : Int) + b.c0 + 12 - 2 * vl p ((toM g).c * p ^ lvB b)) ?_ hu (.inl rfl) ?_ h)
    · unfold det at *; simp only at *; intro h; apply hdet; rw [Int.mul_zero] at h ⊢; omega
    · have : vl p (⟨(toM g).a * mkB p b + (toM g).b * p ^ 6, (toM g).a * p ^ lvB b, 0, (toM g).c * p ^ lvB b⟩ : M2).det = vl p (⟨(toM g).a * p ^ lvB b, (toM g).a * mkB p b + (toM g).b * p ^ 6, (toM g).c * p ^ lvB b, 0⟩ : M2).det := by
        rw [← vl_neg hp.two]; congr 1; unfold det; simp
      rw [this]; omega
  · have vv := vl_lt hp hv (big_63' b2)
    rw [impl_valuation_f hp hv (big_63' b2), Option.bind_some]
    by_cases hu : (toM g).c * p ^ lvB b = 0
    · rw [hu, impl_valuation_0, Option.bind_some, ifE_neg (by omega)]
      obtain ⟨c, ok, e, h⟩ := hj _ _ hv b1 b2
      refine ⟨c, ok, e, ?_⟩
      rw [hu] at hdet hvl
      exact mvM_of hp hdet hv (.inl rfl) (by omega) h
    · have vu := vl_lt hp hu (big_63' b4)
      rw [impl_valuation_f hp hu (big_63' b4), Option.bind_some]
      by_cases hgt : (vl p ((toM g).c * mkB p b + (toM g).d * p ^ 6) : Int) > vl p ((toM g).c * p ^ lvB b)
      · rw [ifE_pos hgt]
        obtain ⟨c, ok, e, h⟩ := hj _ _ hu b3 b4
        refine ⟨c, ok, e, mvM_swap hp hdet (mvM_of hp (L := (vl p (toM g).det : Int) + b.c0 + 12 - 2 * vl p ((toM g).c * p ^ lvB b)) ?_ hu (.inr (by omega)) ?_ h)⟩
        · unfold det at *; simp only at *; intro h; apply hdet; rw [Int.mul_comm ((toM g).a * p ^ lvB b), Int.mul_comm ((toM g).a * mkB p b + _)]; rw [Int.mul_comm _ ((toM g).c * p ^ lvB b), Int.mul_comm _ ((toM g).c * mkB p b + _)] at h; omega
        · have : vl p (⟨(toM g).a * mkB p b + (toM g).b * p ^ 6, (toM g).a * p ^ lvB b, (toM g).c * mkB p b + (toM g).d * p ^ 6, (toM g).c * p ^ lvB b⟩ : M2).det = vl p (⟨(toM g).a * p ^ lvB b, (toM g).a * mkB p b + (toM g).b * p ^ 6, (toM g).c * p ^ lvB b, (toM g).c * mkB p b + (toM g).d * p ^ 6⟩ : M2).det := by
            rw [← vl_neg hp.two]; congr 1; unfold det; simp only; omega
          rw [this]; omega
      · rw [ifE_neg hgt]
        obtain ⟨c, ok, e, h⟩ := hj _ _ hv b1 b2
        exact ⟨c, ok, e, mvM_of hp hdet hv (.inr (by omega)) (by omega) h⟩
end
end Go.Gn
end
section
set_option linter.unusedVariables false
set_option linter.unusedSimpArgs false
/-! plain: balls moved, 2; neighbours, distances -/
namespace Go.Gn
open Go Go.Eng Pl Pl.M2

theorem atB_scale' {p num den L k : Int} {b : Siii} {ok : Bool} (hp : IsP p) (hk : k ≠ 0) (hd : den ≠ 0) : AtB p (k * num) (k * den) L b ok ↔ AtB p num den L b ok := by
  unfold AtB
  rw [fits_scale hp hk hd, isAt_scale hp hk hd]

section
variable {p : Int} {g : Siiii} {b : Siii} (hb : isB p b) (hg : isM (toM g))
include hb hg
theorem spec_l04Move_f : ∃ c ok, spec_l04Move.f p g b = some (c, ok) ∧ MvM p ((toM g).mul (bMat p b)) c ok := by
  have hp := hb.1
  have h2 := hp.two
  have hL := hb.lv
  have hD := hb.dn
  have hT := isB_T' hb
  obtain ⟨e, he⟩ : ∃ e : Nat, (e : Int) = max b.c2 (-b.c0) := ⟨(max b.c2 (-b.c0)).toNat, by omega⟩
  have ei : imax b.c2 (W (0 - b.c0)) = (e : Int) := by rw [W_id (n := 0 - b.c0) (by omega) (by omega)]; unfold imax; split <;> omega
  have q1 : p ^ (6 - e) * p ^ e = p ^ 6 := by rw [← Int.pow_add]; congr 1; omega
  have q2 : p ^ (6 - e) * p ^ (b.c0 + e).toNat = p ^ lvB b := by rw [← Int.pow_add]; congr 1; unfold lvB nL; omega
  have q3 : p ^ (6 - e) * (b.c1 * p ^ (e - b.c2.toNat)) = mkB p b := by
    unfold mkB Pl.mk
    rw [show (6 - b.c2).toNat = (6 - e) + (e - b.c2.toNat) from by omega, Int.pow_add]; grind
  have hs := pow12 hp (k := (b.c0 + e).toNat) (by omega)
  have he2 := pow12 hp (k := e) (by omega)
  have he3 := pow12 hp (k := e - b.c2.toNat) (by omega)
  have ht0 : 0 ≤ b.c1 * p ^ (e - b.c2.toNat) := Int.mul_nonneg hT.1 (by omega)
  have ht1 : b.c1 * p ^ (e - b.c2.toNat) ≤ 13841287201 := by
    have hmk := mkB_le hb
    have h6 := pow_pos h2 (6 - e)
    have : 1 * (b.c1 * p ^ (e - b.c2.toNat)) ≤ p ^ (6 - e) * (b.c1 * p ^ (e - b.c2.toNat)) := Int.mul_le_mul_of_nonneg_right (by omega) ht0
    omega
  have hk6 := pow_ne h2 (6 - e)
  obtain ⟨w1, b1⟩ := lin_W' hg.1.1 hg.1.2.1 ⟨ht0, ht1⟩ (q := p ^ e) (by omega)
  obtain ⟨w2, b2⟩ := lin_W' hg.1.2.2.1 hg.1.2.2.2 ⟨ht0, ht1⟩ (q := p ^ e) (by omega)
  obtain ⟨w3, b3⟩ := one_W' hg.1.1 (m := p ^ (b.c0 + e).toNat) (by omega)
  obtain ⟨w4, b4⟩ := one_W' hg.1.2.2.1 (m := p ^ (b.c0 + e).toNat) (by omega)
  have w1 : W (W (g.c0 * (b.c1 * p ^ (e - b.c2.toNat))) + W (g.c1 * p ^ e)) = _ := w1
  have w2 : W (W (g.c2 * (b.c1 * p ^ (e - b.c2.toNat))) + W (g.c3 * p ^ e)) = _ := w2
  have w3 : W (g.c0 * p ^ (b.c0 + e).toNat) = _ := w3
  have w4 : W (g.c2 * p ^ (b.c0 + e).toNat) = _ := w4
  have hdet := gB_det hb hg
  have hvl := gB_vl hb hg
  have eM : (toM g).mul (bMat p b) = ⟨p ^ (6 - e) * ((toM g).a * p ^ (b.c0 + e).toNat), p ^ (6 - e) * ((toM g).a * (b.c1 * p ^ (e - b.c2.toNat)) + (toM g).b * p ^ e), p ^ (6 - e) * ((toM g).c * p ^ (b.c0 + e).toNat), p ^ (6 - e) * ((toM g).c * (b.c1 * p ^ (e - b.c2.toNat)) + (toM g).d * p ^ e)⟩ := by
    have em : bMat p b = ⟨p ^ lvB b, mkB p b, 0, p ^ 6⟩ := rfl
    rw [em, ← q1, ← q2, ← q3]
    unfold mul; ext <;> simp only <;> grind
  rw [eM] at hdet hvl ⊢
  have bd := big_63' (det_big' hg.1)
  have vd := vl_lt hp hg.2 bd
  unfold spec_l04Move.f
  rw [ei, W_id (n := b.c0 + (e : Int)) (by omega) (by omega), W_id (n := (e : Int) - b.c2) (by omega) (by omega), spec_power_f hp (k := b.c0 + (e : Int)) (by omega) (by omega), Option.bind_some, spec_power_f hp (k := (e : Int)) (by omega) (by omega), Option.bind_some, spec_power_f hp (k := (e : Int) - b.c2) (by omega) (by omega), Option.bind_some,
    Int.toNat_natCast, show ((e : Int) - b.c2).toNat = e - b.c2.toNat from by omega, W_id (n := b.c1 * p ^ (e - b.c2.toNat)) (by omega) (by omega), w1, w2, w3, w4]
  have hj : ∀ x y : Int, y ≠ 0 → big x → big y → ∃ c ok, spec_l04Move.j8 p (e : Int) g.c0 g.c1 g.c2 g.c3 b.c0 b.c1 b.c2 0 0 0 x y = some (c, ok) ∧ AtB p (p ^ (6 - e) * x) (p ^ (6 - e) * y) ((vl p (toM g).det : Int) + b.c0 + 12 - 2 * vl p (p ^ (6 - e) * y)) c ok := by
    intro x y hy bx by'
    have vy := vl_lt hp hy (big_63' by')
    unfold spec_l04Move.j8 spec_l04Det.f
    rw [Option.bind_some, show W (W (g.c0 * g.c3) - W (g.c1 * g.c2)) = _ from det_W (m := 1000) (by omega) hg.1, spec_val_f hp hg.2 bd, Option.bind_some, spec_val_f hp hy (big_63' by'), Option.bind_some,
      W_id (n := (vl p (toM g).det : Int) + b.c0) (by omega) (by omega), W_id (n := 2 * (e : Int)) (by omega) (by omega), W_id (n := (vl p (toM g).det : Int) + b.c0 + 2 * (e : Int)) (by omega) (by omega), W_id (n := 2 * (vl p y : Int)) (by omega) (by omega), W_id (by omega) (by omega)]
    obtain ⟨c, ok, e', h⟩ := spec_l01Of_f (p := p) (num := x) (den := y) (L := (vl p (toM g).det : Int) + b.c0 + 2 * (e : Int) - 2 * vl p y) hp hy (big_63' bx) (big_63' by')
    rw [e', Option.bind_some]
    refine ⟨c, ok, rfl, ?_⟩
    rw [atB_scale' hp hk6 hy, vl_pow_mul h2 _ hy, show (vl p (toM g).det : Int) + b.c0 + 12 - 2 * ((6 - e + vl p y : Nat) : Int) = (vl p (toM g).det : Int) + b.c0 + 2 * (e : Int) - 2 * vl p y from by omega]
    exact h
  generalize hX : (toM g).a * (b.c1 * p ^ (e - b.c2.toNat)) + (toM g).b * p ^ e = v1 at *
  generalize hY : (toM g).c * (b.c1 * p ^ (e - b.c2.toNat)) + (toM g).d * p ^ e = v2 at *
  generalize hZ : (toM g).a * p ^ (b.c0 + e).toNat = u1 at *
  generalize hW : (toM g).c * p ^ (b.c0 + e).toNat = u2 at *
  have swapdet : (⟨p ^ (6 - e) * v1, p ^ (6 - e) * u1, p ^ (6 - e) * v2, p ^ (6 - e) * u2⟩ : M2).det = -(⟨p ^ (6 - e) * u1, p ^ (6 - e) * v1, p ^ (6 - e) * u2, p ^ (6 - e) * v2⟩ : M2).det := by unfold det; simp only; grind
  have useU : ∀ hu : u2 ≠ 0, (v2 = 0 ∨ vl p u2 ≤ vl p v2) → ∃ c ok, spec_l04Move.j7 p (e : Int) g.c0 g.c1 g.c2 g.c3 b.c0 b.c1 b.c2 0 0 0 u1 u2 v1 v2 = some (c, ok) ∧ MvM p ⟨p ^ (6 - e) * u1, p ^ (6 - e) * v1, p ^ (6 - e) * u2, p ^ (6 - e) * v2⟩ c ok := by
    intro hu hle
    obtain ⟨c, ok, e', h⟩ := hj u1 u2 hu b3 b4
    refine ⟨c, ok, e', mvM_swap hp hdet (mvM_of hp (L := (vl p (toM g).det : Int) + b.c0 + 12 - 2 * vl p (p ^ (6 - e) * u2)) ?_ (Int.mul_ne_zero hk6 hu) ?_ ?_ h)⟩
    · rw [swapdet]; omega
    · rcases hle with h0 | h0
      · left; rw [h0, Int.mul_zero]
      · by_cases h1 : v2 = 0
        · left; rw [h1, Int.mul_zero]
        · right; rw [vl_pow_mul h2 _ hu, vl_pow_mul h2 _ h1]; omega
    · rw [swapdet, vl_neg h2]; omega
  have useV : ∀ hv : v2 ≠ 0, (u2 = 0 ∨ vl p v2 ≤ vl p u2) → ∃ c ok, spec_l04Move.j8 p (e : Int) g.c0 g.c1 g.c2 g.c3 b.c0 b.c1 b.c2 0 0 0 v1 v2 = some (c, ok) ∧ MvM p ⟨p ^ (6 - e) * u1, p ^ (6 - e) * v1, p ^ (6 - e) * u2, p ^ (6 - e) * v2⟩ c ok := by
    intro hv hle
    obtain ⟨c, ok, e', h⟩ := hj v1 v2 hv b1 b2
    refine ⟨c, ok, e', mvM_of hp hdet (Int.mul_ne_zero hk6 hv) ?_ (by omega) h⟩
    rcases hle with h0 | h0
    · left; rw [h0, Int.mul_zero]
    · by_cases h1 : u2 = 0
      · left; rw [h1, Int.mul_zero]
      · right; rw [vl_pow_mul h2 _ hv, vl_pow_mul h2 _ h1]; omega
  by_cases hv : v2 = 0
  · have hu : u2 ≠ 0 := by intro h; apply hdet; unfold det; simp only; rw [h, hv]; simp
    rw [show (v2 == 0) = true from by simpa using hv, ifE_t]
    exact useU hu (.inl hv)
  · have vv := vl_lt hp hv (big_63' b2)
    rw [beq_ne hv, ifE_f]
    by_cases hu : u2 = 0
    · rw [bne_eq hu, ifE_f]
      exact useV hv (.inl hu)
    · rw [bne_ne hu, ifE_t, spec_val_f hp hv (big_63' b2), Option.bind_some, spec_val_f hp hu (big_63' b4), Option.bind_some]
      by_cases hgt : (vl p v2 : Int) > vl p u2
      · rw [ifE_pos hgt]; exact useU hu (.inr (by omega))
      · rw [ifE_neg hgt]; exact useV hv (.inr (by omega))
theorem move_same : spec_l04Move.f p g b = impl_moveBall.f p g b := by
  obtain ⟨c, ok, e, h⟩ := impl_moveBall_f hb hg
  obtain ⟨c', ok', e', h'⟩ := spec_l04Move_f hb hg
  obtain ⟨rfl, rfl⟩ := h.unique hb.1 (gB_det hb hg) h'
  rw [e, e']
end

theorem impl_MoveBall_f (p : Int) (g : Siiii) (b : Siii) : (¬ (isB p b ∧ isM (toM g)) ∧ impl_MoveBall.f p g b = some (zB, 1)) ∨ (isB p b ∧ isM (toM g) ∧ ∃ c ok, MvM p ((toM g).mul (bMat p b)) c ok ∧ impl_moveBall.f p g b = some (c, ok) ∧ impl_MoveBall.f p g b = some (if ok then (c, 0) else (zB, 3))) := by
  unfold impl_MoveBall.f impl_fitted.f
  rw [impl_IsBall_f, Option.bind_some]
  by_cases hb : isB p b
  · rw [decide_eq_true hb, Bool.not_true, ifE_f, impl_IsMatrix_f, Option.bind_some]
    by_cases hg : isM (toM g)
    · rw [decide_eq_true hg, Bool.not_true, ifE_f]
      obtain ⟨c, ok, e, h⟩ := impl_moveBall_f hb hg
      refine .inr ⟨hb, hg, c, ok, h, e, ?_⟩
      rw [e, Option.bind_some]
      cases ok <;> rfl
    · rw [decide_eq_false hg]; exact .inl ⟨fun h => hg h.2, rfl⟩
  · rw [decide_eq_false hb]; exact .inl ⟨fun h => hb h.1, rfl⟩

/-! joins, distances -/
def joinZ (p : Int) (b c : Siii) : Int := if mkB p b = mkB p c then min b.c0 c.c0 else min (min b.c0 c.c0) ((vl p (mkB p b - mkB p c) : Int) - 6)
section
variable {p : Int} {b c : Siii} (hb : isB p b) (hc : isB p c)
include hb hc
theorem impl_joinLevel_f : impl_joinLevel.f p b c = some (joinZ p b c) := by
  unfold impl_joinLevel.f joinZ
  have l1 := hb.lv
  have l2 := hc.lv
  have r1 := mkB_range hb
  have r2 := mkB_range hc
  have s1 := mkB_le hb
  have s2 := mkB_le hc
  have im : imin b.c0 c.c0 = min b.c0 c.c0 := by unfold imin; split <;> omega
  rw [impl_mark_f hb, Option.bind_some, impl_mark_f hc, Option.bind_some, W_id (n := mkB p b - mkB p c) (by omega) (by omega), im]
  by_cases h : mkB p b = mkB p c
  · rw [if_pos h, show mkB p b - mkB p c = 0 from by omega, impl_valuation_0, Option.bind_some]
    congr 1; rw [W_id (n := (1000 : Int) - 6) (by omega) (by omega)]; unfold imin; split <;> omega
  · have h0 : mkB p b - mkB p c ≠ 0 := by omega
    have bb : big63 (mkB p b - mkB p c) := by unfold big63; omega
    have v := vl_lt hb.1 h0 bb
    rw [if_neg h, impl_valuation_f hb.1 h0 bb, Option.bind_some, W_id (n := (vl p (mkB p b - mkB p c) : Int) - 6) (by omega) (by omega)]
    congr 1; unfold imin; split <;> omega
theorem joinZ_range : -6 ≤ joinZ p b c ∧ joinZ p b c ≤ b.c0 ∧ joinZ p b c ≤ c.c0 := by
  have l1 := hb.lv
  have l2 := hc.lv
  unfold joinZ
  split <;> omega
def distZ (p : Int) (b c : Siii) : Int := b.c0 + c.c0 - 2 * joinZ p b c
theorem impl_distance_f : impl_distance.f p b c = some (distZ p b c) := by
  unfold impl_distance.f distZ
  have l1 := hb.lv
  have l2 := hc.lv
  have := joinZ_range hb hc
  rw [impl_joinLevel_f hb hc, Option.bind_some, W_id (n := b.c0 + c.c0) (by omega) (by omega), W_id (n := 2 * joinZ p b c) (by omega) (by omega), W_id (by omega) (by omega)]
theorem distZ_dist : distZ p b c = dist p (bMat p b) (bMat p c) := by
  have l1 := hb.lv
  have l2 := hc.lv
  have n1 := nL_int' l1
  have n2 := nL_int' l2
  unfold bMat mB
  rw [dist_ofB hb.1]
  have hv : vl p (mkB p c - mkB p b) = vl p (mkB p b - mkB p c) := by rw [← vl_neg hb.1.two]; congr 1; omega
  have e1 : Pl.mk p c.c1 c.c2 - Pl.mk p b.c1 b.c2 = mkB p c - mkB p b := rfl
  rw [e1, hv]
  unfold distZ joinZ
  by_cases h : mkB p b = mkB p c
  · rw [if_pos h, if_pos (by omega)]; omega
  · rw [if_neg h, if_neg (by omega)]; omega

theorem spec_l02Join_f : spec_l02Join.f p b c = some (joinZ p b c) := by
  unfold spec_l02Join.f spec_l02Valuation.f joinZ
  have hp := hb.1
  have h2 := hp.two
  have l1 := hb.lv
  have l2 := hc.lv
  have d1 := hb.dn
  have d2 := hc.dn
  have t1 := isB_T' hb
  have t2 := isB_T' hc
  have s1 := mkB_le hb
  have s2 := mkB_le hc
  have r1 := (mkB_range hb).1
  have r2 := (mkB_range hc).1
  obtain ⟨e, he⟩ : ∃ e : Nat, (e : Int) = max b.c2 c.c2 := ⟨(max b.c2 c.c2).toNat, by omega⟩
  have ei : imax b.c2 c.c2 = (e : Int) := by unfold imax; split <;> omega
  have im : imin b.c0 c.c0 = min b.c0 c.c0 := by unfold imin; split <;> omega
  have q (x : Siii) (hx : 0 ≤ x.c2 ∧ x.c2 ≤ e) : p ^ (6 - e) * (x.c1 * p ^ (e - x.c2.toNat)) = mkB p x := by
    unfold mkB Pl.mk
    rw [show (6 - x.c2).toNat = (6 - e) + (e - x.c2.toNat) from by omega, Int.pow_add]; grind
  have q1 := q b (by omega)
  have q2 := q c (by omega)
  have h6 := pow_pos h2 (6 - e)
  have bound (y m : Int) (h0 : 0 ≤ y) (hm : p ^ (6 - e) * y = m) (hle : m ≤ 13841287201) : y ≤ 13841287201 := by
    have : 1 * y ≤ p ^ (6 - e) * y := Int.mul_le_mul_of_nonneg_right (by omega) h0
    omega
  have p1 := pow_pos h2 (e - b.c2.toNat)
  have p2 := pow_pos h2 (e - c.c2.toNat)
  have y1 : 0 ≤ b.c1 * p ^ (e - b.c2.toNat) := Int.mul_nonneg t1.1 (by omega)
  have y2 : 0 ≤ c.c1 * p ^ (e - c.c2.toNat) := Int.mul_nonneg t2.1 (by omega)
  have z1 := bound _ _ y1 q1 s1
  have z2 := bound _ _ y2 q2 s2
  have hd : mkB p b - mkB p c = p ^ (6 - e) * (b.c1 * p ^ (e - b.c2.toNat) - c.c1 * p ^ (e - c.c2.toNat)) := by rw [Int.mul_sub, q1, q2]
  rw [ei, W_id (n := (e : Int) - b.c2) (by omega) (by omega), W_id (n := (e : Int) - c.c2) (by omega) (by omega), spec_power_f hp (k := (e : Int) - b.c2) (by omega) (by omega), Option.bind_some, spec_power_f hp (k := (e : Int) - c.c2) (by omega) (by omega), Option.bind_some,
    show ((e : Int) - b.c2).toNat = e - b.c2.toNat from by omega, show ((e : Int) - c.c2).toNat = e - c.c2.toNat from by omega,
    W_id (n := b.c1 * p ^ (e - b.c2.toNat)) (by omega) (by omega), W_id (n := c.c1 * p ^ (e - c.c2.toNat)) (by omega) (by omega), W_id (n := b.c1 * p ^ (e - b.c2.toNat) - c.c1 * p ^ (e - c.c2.toNat)) (by omega) (by omega)]
  generalize hN : b.c1 * p ^ (e - b.c2.toNat) - c.c1 * p ^ (e - c.c2.toNat) = N at *
  by_cases h : N = 0
  · have hm : mkB p b = mkB p c := by rw [h, Int.mul_zero] at hd; omega
    rw [show (N == 0) = true from by simpa using h, ifE_t, Option.bind_some, ifE_f, if_pos hm, im]
  · have hm : mkB p b ≠ mkB p c := by
      intro hm
      have : p ^ (6 - e) * N = 0 := by omega
      exact Int.mul_ne_zero (pow_ne h2 _) h this
    have bb : big63 N := by unfold big63; omega
    have v := vl_lt hp h bb
    rw [beq_ne h, ifE_f, spec_val_f hp h bb, Option.bind_some, Option.bind_some, ifE_t, if_neg hm, im, hd, vl_pow_mul h2 _ h, W_id (n := (vl p N : Int) - (e : Int)) (by omega) (by omega)]
    congr 1; unfold imin; split <;> omega
end

/-! neighbours -/
theorem ofX_c0 (p L x : Int) : (ofX p L x).c0 = L := rfl
theorem impl_child_f {p : Int} {b : Siii} (hb : isB p b) {k : Int} (hk : 0 ≤ k ∧ k ≤ 1000) : impl_child.f p b k = some (if b.c0 + 1 ≤ 6 then (ofX p (b.c0 + 1) ((mkB p b + k * p ^ lvB b) % p ^ (lvB b + 1)), true) else (zB, false)) := by
  unfold impl_child.f
  have l1 := hb.lv
  have hp := hb.1
  have hm := mkB_range hb
  have hm2 := mkB_le hb
  have hn := pow12 hp (k := lvB b) (lvB_le hb)
  have hkp := Int.mul_le_mul hk.2 hn.2 (by omega) (by omega)
  have hkp0 : 0 ≤ k * p ^ lvB b := Int.mul_nonneg hk.1 (by omega)
  have enl : (b.c0 + 6).toNat = lvB b := rfl
  rw [impl_mark_f hb, Option.bind_some, W_id (n := b.c0 + 6) (by omega) (by omega), impl_power_f hp (by omega) (by omega), Option.bind_some, enl, W_id (n := b.c0 + 1) (by omega) (by omega), W_id (n := k * p ^ lvB b) (by omega) (by omega), W_id (by omega) (by omega), impl_ofMark_f hp, Option.bind_some]
  have e : nL (b.c0 + 1) = lvB b + 1 := by unfold nL lvB nL; omega
  by_cases h : b.c0 + 1 ≤ 6
  · rw [if_pos (by unfold isL; omega), if_pos h, e]
  · rw [if_neg (by unfold isL; omega), if_neg h]; rfl
theorem impl_parent_f {p : Int} {b : Siii} (hb : isB p b) : impl_parent.f p b = some (if -6 ≤ b.c0 - 1 then (ofX p (b.c0 - 1) (mkB p b % p ^ (lvB b - 1)), true) else (zB, false)) := by
  unfold impl_parent.f
  have l1 := hb.lv
  rw [impl_mark_f hb, Option.bind_some, W_id (n := b.c0 - 1) (by omega) (by omega), impl_ofMark_f hb.1, Option.bind_some]
  have e : nL (b.c0 - 1) = lvB b - 1 := by unfold nL lvB nL; omega
  by_cases h : -6 ≤ b.c0 - 1
  · rw [if_pos (by unfold isL; omega), if_pos h, e]
  · rw [if_neg (by unfold isL; omega), if_neg h]; rfl

/-- the child of a digit -/
def chB (p : Int) (b : Siii) (k : Int) : Siii := ofX p (b.c0 + 1) (mkB p b + k * p ^ lvB b)
def paB (p : Int) (b : Siii) : Siii := ofX p (b.c0 - 1) (mkB p b % p ^ (lvB b - 1))
theorem ch_range {p : Int} {b : Siii} (hb : isB p b) {k : Int} (hk : 0 ≤ k ∧ k < p) : 0 ≤ mkB p b + k * p ^ lvB b ∧ mkB p b + k * p ^ lvB b < p ^ (lvB b + 1) := by
  have hm := mkB_range hb
  have hq := isP_pow_pos hb.1 (lvB b)
  have h0 : 0 ≤ k * p ^ lvB b := Int.mul_nonneg hk.1 (by omega)
  have h1 : (k + 1) * p ^ lvB b ≤ p * p ^ lvB b := Int.mul_le_mul_of_nonneg_right (by omega) (by omega)
  rw [Int.add_mul, Int.one_mul] at h1
  rw [Int.pow_succ, Int.mul_comm (p ^ lvB b)]
  omega
theorem impl_child_k {p : Int} {b : Siii} (hb : isB p b) {k : Int} (hk : 0 ≤ k ∧ k < p) : impl_child.f p b k = some (if b.c0 + 1 ≤ 6 then (chB p b k, true) else (zB, false)) := by
  have := hb.1.seven
  have hr := ch_range hb hk
  rw [impl_child_f hb (by omega), Int.emod_eq_of_lt hr.1 hr.2]; rfl
theorem chB_ok {p : Int} {b : Siii} (hb : isB p b) {k : Int} (hk : 0 ≤ k ∧ k < p) (h : b.c0 + 1 ≤ 6) : isB p (chB p b k) ∧ bMat p (chB p b k) = (bMat p b).mul ⟨p, k, 0, 1⟩ := by
  have hr := ch_range hb hk
  have l1 := hb.lv
  have e : nL (b.c0 + 1) = lvB b + 1 := by unfold nL lvB nL; omega
  refine ⟨ofX_isB hb.1 (by unfold isL; omega) (by rw [e]; exact hr), ?_⟩
  have em : bMat p (chB p b k) = ⟨p ^ nL (b.c0 + 1), mkB p (chB p b k), 0, p ^ 6⟩ := rfl
  have em2 : bMat p b = ⟨p ^ lvB b, mkB p b, 0, p ^ 6⟩ := rfl
  rw [em, em2, e]
  unfold chB
  rw [ofX_mk hb.1, Int.pow_succ]
  unfold mul; ext <;> simp only <;> grind
theorem paB_ok {p : Int} {b : Siii} (hb : isB p b) (h : -6 ≤ b.c0 - 1) : isB p (paB p b) ∧ mkB p (paB p b) = mkB p b % p ^ (lvB b - 1) ∧ lvB (paB p b) = lvB b - 1 := by
  have l1 := hb.lv
  have e : nL (b.c0 - 1) = lvB b - 1 := by unfold nL lvB nL; omega
  have hq := isP_pow_pos hb.1 (lvB b - 1)
  have hr := emod_range (a := mkB p b) hq
  exact ⟨ofX_isB hb.1 (by unfold isL; omega) (by rw [e]; exact hr), ofX_mk hb.1, e⟩

theorem impl_neighbour_0 {p : Int} {b : Siii} (hb : isB p b) : impl_neighbour.f p b 0 = some (if -6 ≤ b.c0 - 1 then (paB p b, true) else (zB, false)) := by
  unfold impl_neighbour.f
  rw [show ((0 : Int) == 0) = true from rfl, ifE_t, impl_parent_f hb]; rfl
theorem impl_neighbour_k {p : Int} {b : Siii} (hb : isB p b) {k : Int} (hk : 0 ≤ k ∧ k < p) : impl_neighbour.f p b (k + 1) = some (if b.c0 + 1 ≤ 6 then (chB p b k, true) else (zB, false)) := by
  unfold impl_neighbour.f
  have := hb.1.seven
  rw [beq_ne (by omega), ifE_f, W_id (by omega) (by omega), show k + 1 - 1 = k from by omega, impl_child_k hb hk]; rfl

end Go.Gn
end
