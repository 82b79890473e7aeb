import Derived.Test.YtdfepbmcglnhcaaGreatFwPA
import Derived.Test.YtdfepbmcglnhcaaGreatFwF
import Derived.Test.YtdfepbmcglnhcaaGreatFwV
section
set_option linter.unusedVariables false
set_option linter.unusedSimpArgs false
/-! plain: the draws of balls (for every base from 2 to 7) -/
namespace Go.Gn
open Go Go.Eng Pl Pl.M2

section
variable {p : Int} (h2 : 2 ≤ p) (h7 : p ≤ 7)
include h2 h7
theorem gpow22 {k : Nat} (h : k ≤ 22) : 1 ≤ p ^ k ∧ p ^ k ≤ 3909821048582988049 := by
  have a := pow_pos h2 k
  have b := pow_mono h2 h
  have c : p ^ 22 ≤ 7 ^ 22 := by
    have : p = 2 ∨ p = 3 ∨ p = 4 ∨ p = 5 ∨ p = 6 ∨ p = 7 := by omega
    rcases this with rfl | rfl | rfl | rfl | rfl | rfl <;> decide
  have d : (7 : Int) ^ 22 = 3909821048582988049 := by decide
  omega
theorem gpow12 {k : Nat} (h : k ≤ 12) : 1 ≤ p ^ k ∧ p ^ k ≤ 13841287201 := by
  have a := pow_pos h2 k
  have b := pow_mono h2 h
  have c : p ^ 12 ≤ 7 ^ 12 := by
    have : p = 2 ∨ p = 3 ∨ p = 4 ∨ p = 5 ∨ p = 6 ∨ p = 7 := by omega
    rcases this with rfl | rfl | rfl | rfl | rfl | rfl <;> decide
  have d : (7 : Int) ^ 12 = 13841287201 := by decide
  omega
omit h7 in
theorem gspec_power_l : ∀ (n k i : Nat), n < k → i + n ≤ 100 → p ^ (i + n) ≤ 9223372036854775807 → spec_l01Power.l2 k p (n : Int) (p ^ i) = some (p ^ (i + n)) := by
  intro n
  induction n with
  | zero =>
    intro k i hk h h2
    obtain ⟨k, rfl⟩ : ∃ m, k = m + 1 := ⟨k - 1, by omega⟩
    simp only [spec_l01Power.l2, spec_l01Power.s2]
    rw [ifE_neg (by omega)]; rfl
  | succ n ih =>
    intro k i hk h h3
    obtain ⟨k, rfl⟩ : ∃ m, k = m + 1 := ⟨k - 1, by omega⟩
    simp only [spec_l01Power.l2, spec_l01Power.s2]
    have hb := pow_mono h2 (a := i + 1) (b := i + (n + 1)) (by omega)
    have hb0 := pow_pos h2 (i + 1)
    rw [ifE_pos (by omega), pow_mul_p, W_id (n := p ^ (i + 1)) (by omega) (by omega), W_id (n := ((n + 1 : Nat) : Int) - 1) (by omega) (by omega)]
    have := ih k (i + 1) (by omega) (by omega) (by rw [show i + 1 + n = i + (n + 1) from by omega]; exact h3)
    rw [show i + 1 + n = i + (n + 1) from by omega] at this
    rw [show ((n + 1 : Nat) : Int) - 1 = (n : Int) from by omega]
    exact this
omit h7 in
theorem gspec_power_g {k : Nat} (h : k ≤ 100) (h3 : p ^ k ≤ 9223372036854775807) : spec_l01Power.f p k = some (p ^ k) := by
  have := gspec_power_l h2 k fuelN 0 (lt_fuel (by omega)) (by omega) (by rw [Nat.zero_add]; exact h3)
  rw [Int.pow_zero, Nat.zero_add] at this
  unfold spec_l01Power.f
  exact this
theorem gspec_power_f {k : Int} (h0 : 0 ≤ k) (h : k ≤ 22) : spec_l01Power.f p k = some (p ^ k.toNat) := by
  have := gspec_power_g h2 (k := k.toNat) (by omega) (by have := gpow22 h2 h7 (k := k.toNat) (by omega); omega)
  rw [show ((k.toNat : Nat) : Int) = k from by omega] at this
  exact this
omit h7 in
theorem two_pow_le (k : Nat) : (2 : Int) ^ k ≤ p ^ k := by
  induction k with
  | zero => simp
  | succ k ih =>
    rw [Int.pow_succ, Int.pow_succ]
    have := pow_pos h2 k
    have a := Int.mul_le_mul ih h2 (by omega) (by omega)
    exact a
omit h7 in
theorem gvl_lt {n : Int} (h0 : n ≠ 0) (hn : big63 n) : vl p n < 63 := by
  rcases Nat.lt_or_ge (vl p n) 63 with h | h
  · exact h
  · exfalso
    have hd := (dvd_iff_le_vl h2 h0 63).2 h
    have h1 : p ^ 63 ≤ n.natAbs := Int.le_of_dvd (by omega) (Int.dvd_natAbs.2 hd)
    have h3 : (9223372036854775808 : Int) ≤ p ^ 63 := by
      have := two_pow_le h2 63
      have e : (2 : Int) ^ 63 = 9223372036854775808 := by decide
      omega
    unfold big63 at hn; omega
omit h7 in
theorem gvl_step {n : Int} (h0 : n ≠ 0) (hd : Int.tmod n p = 0) : ∃ q, n = p * q ∧ q ≠ 0 ∧ Int.tdiv n p = q ∧ vl p n = vl p q + 1 := by
  have hdv : p ∣ n := Int.dvd_of_tmod_eq_zero hd
  obtain ⟨q, rfl⟩ := hdv
  have hq : q ≠ 0 := by rintro rfl; simp at h0
  refine ⟨q, rfl, hq, Int.mul_tdiv_cancel_left _ (by omega), ?_⟩
  have := vl_pow_mul h2 1 hq
  have e : p ^ 1 = p := by grind
  rw [e] at this; omega
omit h7 in
theorem gvl_stop {n : Int} (h0 : n ≠ 0) (hd : Int.tmod n p ≠ 0) : vl p n = 0 := by
  refine vl_unique (m := n) h2 h0 (by simp) fun h => hd ?_
  obtain ⟨q, rfl⟩ := h
  exact Int.mul_tmod_right _ _
omit h7 in
theorem gspec_val_l : ∀ (v k : Nat) (n : Int) (c : Nat), n ≠ 0 → big63 n → vl p n = v → v < k → c + v ≤ 100 → spec_l01Val.l2 k p n (c : Int) = some ((c + v : Nat) : Int) := by
  intro v
  induction v with
  | zero =>
    intro k n c h0 hn hv hk hc
    obtain ⟨k, rfl⟩ : ∃ m, k = m + 1 := ⟨k - 1, by omega⟩
    simp only [spec_l01Val.l2, spec_l01Val.s2]
    rw [guardE_pos (by omega)]
    by_cases hd : Int.tmod n p = 0
    · obtain ⟨q, -, -, -, h⟩ := gvl_step h2 h0 hd
      omega
    · rw [beq_ne hd, ifE_f]; rfl
  | succ v ih =>
    intro k n c h0 hn hv hk hc
    obtain ⟨k, rfl⟩ : ∃ m, k = m + 1 := ⟨k - 1, by omega⟩
    simp only [spec_l01Val.l2, spec_l01Val.s2]
    rw [guardE_pos (by omega)]
    by_cases hd : Int.tmod n p = 0
    · obtain ⟨q, rfl, hq, ht, h⟩ := gvl_step h2 h0 hd
      have hqb : big63 q := by
        have h1 : (p * q).natAbs = p.natAbs * q.natAbs := Int.natAbs_mul _ _
        have h3 : 1 * q.natAbs ≤ p.natAbs * q.natAbs := Nat.mul_le_mul_right _ (by omega)
        unfold big63 at *; omega
      rw [show (Int.tmod (p * q) p == 0) = true from by simp [hd], ifE_t, guardE_pos (by omega), ht, W_id (n := q) (by unfold big63 at hqb; omega) (by unfold big63 at hqb; omega), W_id (n := (c : Int) + 1) (by omega) (by omega)]
      have := ih k q (c + 1) hq hqb (by omega) (by omega) (by omega)
      rw [show c + 1 + v = c + (v + 1) from by omega] at this
      exact this
    · exact absurd (gvl_stop h2 h0 hd) (by omega)
omit h7 in
theorem gspec_val_f {n : Int} (h0 : n ≠ 0) (hn : big63 n) : spec_l01Val.f p n = some (vl p n : Int) := by
  have h := gvl_lt h2 h0 hn
  have := gspec_val_l h2 (vl p n) fuelN n 0 h0 hn rfl (lt_fuel (by omega)) (by omega)
  unfold spec_l01Val.f
  rw [Nat.zero_add] at this
  exact this
end

theorem ex_inv_l {m : Int} (hm : 0 < m) (hm2 : m ≤ 4000000000000000000) : ∀ (k : Nat) (a b x y : Int), b.natAbs < k → 0 ≤ a → a ≤ m → 0 ≤ b → b ≤ m → Ex TT (spec_l01InvMod.l2 k m a b x y) := by
  intro k
  induction k with
  | zero => intro a b x y h; omega
  | succ k ih =>
    intro a b x y hk ha ham hb hbm
    simp only [spec_l01InvMod.l2, spec_l01InvMod.s2]
    refine Ex.ite (fun h0 => ?_) (fun _ => Ex.guard (by omega) (Ex.guard (by omega) (Ex.ret trivial)))
    have h0 : b ≠ 0 := by simpa using h0
    have q := quo_facts ha (b := b) (by omega)
    have e1 : W (Int.tdiv a b) = Int.tdiv a b := W_id (by omega) (by omega)
    have e2 : 0 ≤ Int.tdiv a b * b := Int.mul_nonneg q.1 hb
    refine Ex.guard h0 ?_
    rw [e1, W_id (n := Int.tdiv a b * b) (by omega) (by omega), W_id (n := a - Int.tdiv a b * b) (by omega) (by omega)]
    exact ih _ _ _ _ (by omega) hb hbm (by omega) (by omega)
theorem ex_inv {n m : Int} (hm : 0 < m) (hm2 : m ≤ 4000000000000000000) : Ex TT (spec_l01InvMod.f n m) := by
  unfold spec_l01InvMod.f
  rw [guardE_pos (by omega), guardE_pos (by omega), tmod_emod hm (by omega)]
  have := emod_range (a := n) hm
  exact ex_inv_l hm hm2 fuelN _ _ _ _ (lt_fuel (by omega)) this.1 (by omega) (by omega) (by omega)

theorem ex_of {p num den L : Int} (h2 : 2 ≤ p) (h7 : p ≤ 7) (hd : den ≠ 0) (hn : big63 num) (hdn : big63 den) : Ex TT (spec_l01Of.f p num den L) := by
  unfold spec_l01Of.f
  rw [spec_l01In_f, Option.bind_some]
  refine Ex.ite (fun _ => Ex.ret trivial) fun hL => ?_
  have hL : -6 ≤ L ∧ L ≤ 6 := by simpa using hL
  refine Ex.ite (fun _ => Ex.ret trivial) fun h0 => ?_
  have h0 : num ≠ 0 := by simpa using h0
  have hbv := gvl_lt h2 hd hdn
  have hav := gvl_lt h2 h0 hn
  rw [gspec_val_f h2 h0 hn, Option.bind_some, gspec_val_f h2 hd hdn, Option.bind_some, W_id (n := (vl p num : Int) - vl p den) (by omega) (by omega), W_id (n := (vl p den : Int) - vl p num) (by omega) (by omega)]
  refine Ex.ite (fun _ => Ex.ret trivial) fun h1 => ?_
  have h1 : ¬ L ≤ (vl p num : Int) - vl p den := by simpa using h1
  refine Ex.ite (fun _ => Ex.ret trivial) fun h3 => ?_
  have him : imax ((vl p den : Int) - vl p num) 0 = max ((vl p den : Int) - vl p num) 0 := by unfold imax; split <;> omega
  have him2 : imax ((vl p num : Int) - vl p den) 0 = max ((vl p num : Int) - vl p den) 0 := by unfold imax; split <;> omega
  rw [him] at h3 ⊢
  have h3 : ¬ max ((vl p den : Int) - vl p num) 0 > 6 := by simpa using h3
  rw [him2, W_id (n := L + max ((vl p den : Int) - vl p num) 0) (by omega) (by omega), gspec_power_f h2 h7 (by omega) (by omega), Option.bind_some]
  have le (n : Int) (h0 : n ≠ 0) (hn : big63 n) : p ^ vl p n ≤ 9223372036854775807 := by
    have a : p ^ vl p n ∣ n := (dvd_iff_le_vl h2 h0 _).2 (Nat.le_refl _)
    have h1 : p ^ vl p n ≤ n.natAbs := Int.le_of_dvd (by omega) (Int.dvd_natAbs.2 a)
    unfold big63 at hn; omega
  have hm := gpow12 h2 h7 (k := (L + max ((vl p den : Int) - vl p num) 0).toNat) (by omega)
  have hup := gpow12 h2 h7 (k := (max ((vl p num : Int) - vl p den) 0).toNat) (by omega)
  rw [gspec_power_g h2 (by omega) (le num h0 hn), Option.bind_some, guardE_pos (pow_ne h2 _), gspec_power_g h2 (by omega) (le den hd hdn), Option.bind_some, guardE_pos (pow_ne h2 _)]
  refine Ex.bind (ex_inv (by omega) (by omega)) fun r _ => ?_
  rw [spec_l01MulMod_f (by omega) (by omega), Option.bind_some, gspec_power_f h2 h7 (by omega) (by omega), Option.bind_some, spec_l01MulMod_f (by omega) (by omega), Option.bind_some]
  exact Ex.ret trivial

/-! draws -/
abbrev G2 {α : Type} : α × Src → Prop := fun r => SrcOk r.2

theorem ex_l01Bad {s : Src} (hs : SrcOk s) (b : Siii) : Ex G2 (spec_l01Bad.f s b) := by
  unfold spec_l01Bad.f
  refine Ex.bind (ex_next hs (by omega)) fun r hr => ?_
  refine Ex.ite (fun _ => Ex.bind (ex_pick hr.2 (by simp)) fun q hq => Ex.ret hq.2) fun _ => ?_
  refine Ex.ite (fun _ => Ex.bind (ex_pick hr.2 (by simp)) fun q hq => Ex.ret hq.2) fun _ => ?_
  refine Ex.ite (fun _ => Ex.bind (ex_pick hr.2 (by simp)) fun q hq => Ex.ret hq.2) fun _ => Ex.ret hr.2

theorem ex_l01Draw {s : Src} (hs : SrcOk s) {p : Int} (h2 : 2 ≤ p) (h7 : p ≤ 7) : Ex G2 (spec_l01Draw.f s p) := by
  unfold spec_l01Draw.f
  refine Ex.bind (ex_next hs (by omega)) fun r1 h1 => Ex.bind (ex_pick h1.2 (by simp)) fun r2 h3 => Ex.bind (ex_next h3.2 (by omega)) fun r3 h4 => ?_
  refine Ex.ite (fun _ => Ex.ret h4.2) fun _ => ?_
  refine Ex.bind (ex_next h4.2 (by omega)) fun r4 h5 => Ex.bind (ex_next h5.2 (by omega)) fun r5 h6 => Ex.bind (ex_pick h6.2 (by simp)) fun r6 h8 => Ex.bind (ex_next h8.2 (by omega)) fun r7 h9 => Ex.bind (ex_pick h9.2 (by simp)) fun r8 h10 => ?_
  obtain ⟨⟨a5, b5⟩, -⟩ := h5
  obtain ⟨⟨a6, b6⟩, -⟩ := h6
  obtain ⟨m8, -⟩ := h8
  obtain ⟨⟨a9, b9⟩, -⟩ := h9
  obtain ⟨m10, s10⟩ := h10
  rw [W_id (n := r4.1 - 10) (by omega) (by omega), W_id (n := r5.1 - 1000000) (by omega) (by omega)] at m8
  simp only [List.mem_cons, List.not_mem_nil, or_false] at m8 m10
  have hk : 0 ≤ r8.1 ∧ r8.1 ≤ 6 := by omega
  have hpw := gpow12 h2 h7 (k := r8.1.toNat) (by omega)
  rw [gspec_power_f h2 h7 hk.1 (by omega), Option.bind_some]
  refine Ex.bind (ex_of h2 h7 (by omega) (by unfold big63; omega) (by unfold big63; omega)) fun q _ => ?_
  exact Ex.ite (fun _ => Ex.ret s10) fun _ => Ex.ret s10

theorem clamp (n : Int) : 2 ≤ imin (imax n 2) 7 ∧ imin (imax n 2) 7 ≤ 7 := by unfold imin imax; split <;> split <;> omega

theorem ex_l09Side {s : Src} (hs : SrcOk s) (p : Int) : Ex G2 (spec_l09Side.f s p) := by
  unfold spec_l09Side.f
  exact Ex.bind (ex_l01Draw hs (clamp p).1 (clamp p).2) fun r h => Ex.bind (ex_l01Bad h _) fun q hq => Ex.bind (ex_next hq (by omega)) fun z hz => Ex.ret hz.2

end Go.Gn
end
section
set_option linter.unusedVariables false
set_option linter.unusedSimpArgs false
/-! plain: the draws of FnSides -/
namespace Go.Gn
open Go Go.Eng Pl Pl.M2

theorem isP_range {p : Int} (hp : IsP p) : 2 ≤ p ∧ p ≤ 7 := by rcases hp with rfl | rfl | rfl | rfl <;> omega

theorem ex_l01DrawPrime {s : Src} (hs : SrcOk s) : Ex (fun r => IsP r.1 ∧ SrcOk r.2) (spec_l01DrawPrime.f s) := by
  unfold spec_l01DrawPrime.f
  refine Ex.bind (ex_pick hs (by simp)) fun r hr => Ex.ret ⟨?_, hr.2⟩
  have := hr.1
  simp only [List.mem_cons, List.not_mem_nil, or_false] at this
  unfold IsP; omega

theorem ex_l01Spoil {s : Src} (hs : SrcOk s) : Ex (fun r : Int × Siii × Src => SrcOk r.2.2) (spec_l01Spoil.f s) := by
  unfold spec_l01Spoil.f
  refine Ex.bind (ex_l01DrawPrime hs) fun r hr => ?_
  have := isP_range hr.1
  refine Ex.bind (ex_l01Draw hr.2 this.1 this.2) fun q hq => Ex.bind (ex_l01Bad hq _) fun z hz => Ex.bind (ex_next hz (by omega)) fun y hy => ?_
  exact Ex.ite (fun _ => Ex.bind (ex_pick hy.2 (by simp)) fun x hx => Ex.ret hx.2) fun _ => Ex.ret hy.2

theorem ex_is01 (p : Int) (b : Siii) : Ex (fun r => r = decide (isB p b)) (spec_l01Is.f p b) := ⟨_, spec_l01Is_f p b, rfl⟩

theorem isB_T {p : Int} {b : Siii} (h : isB p b) : 0 ≤ b.c1 ∧ b.c1 ≤ 13841287201 := by
  obtain ⟨hp, hL, hD, h | h⟩ := h
  · omega
  · have := pow12 hp (k := (b.c0 + b.c2).toNat) (by omega)
    omega

theorem ex_l01Parent {p : Int} {b : Siii} (h : isB p b) : Ex (fun r : Siii × Bool => r.2 = true → isB p r.1) (spec_l01Parent.f p b) := by
  unfold spec_l01Parent.f
  have hd := h.dn
  have ht := isB_T h
  have hpw := pow12 h.1 (k := b.c2.toNat) (by omega)
  rw [spec_power_f h.1 hd.1 (by omega), Option.bind_some]
  refine Ex.bind (Q := fun r : Siii × Bool => r.2 = true → isB p r.1) ?_ fun q hq => Ex.ret hq
  obtain ⟨c, ok, h1, h2⟩ := spec_l01Of_f (p := p) (num := b.c1) (den := p ^ b.c2.toNat) (L := W (b.c0 - 1)) h.1 (by omega) (by unfold big63; omega) (by unfold big63; omega)
  refine ⟨_, h1, fun hk => ?_⟩
  have hk : ok = true := hk
  rw [hk] at h2
  exact h2.isB.1

theorem two_l {p : Int} (v6 : Int) (o3_0 o3_1 o3_2 o4_0 o4_1 o4_2 o7_0 o7_1 o7_2 : Int) : ∀ (k : Nat) (v10 : Int) (b : Siii), v10.toNat < k → v10 ≤ 1000 → isB p b →
    Ex TT (spec_l01Two.l10 k v6 p v10 o3_0 o3_1 o3_2 o4_0 o4_1 o4_2 o7_0 o7_1 o7_2 b.c0 b.c1 b.c2) := by
  intro k
  induction k with
  | zero => intro v10 b h; omega
  | succ k ih =>
    intro v10 b hk hv hb
    simp only [spec_l01Two.l10, spec_l01Two.s10]
    refine Ex.ite (fun hc => ?_) fun _ => Ex.ret trivial
    have hc : v10 > 0 := by simpa using hc
    rw [W_id (n := v10 - 1) (by omega) (by omega)]
    refine Ex.bind (ex_l01Parent (b := ⟨b.c0, b.c1, b.c2⟩) hb) fun r hr => ?_
    refine Ex.ite (fun h => ?_) fun _ => ?_
    · exact ih _ _ (by omega) (by omega) (hr h)
    · exact ih _ b (by omega) (by omega) hb

theorem two_j {p : Int} (hp : IsP p) {s : Src} (hs : SrcOk s) (v6 : Int) (o3_0 o3_1 o3_2 o4_0 o4_1 o4_2 o7_0 o7_1 o7_2 : Int) :
    Ex TT (spec_l01Two.j6 v6 p o3_0 o3_1 o3_2 o4_0 o4_1 o4_2 s.c0 s.c1 s.c2 o7_0 o7_1 o7_2) := by
  unfold spec_l01Two.j6
  have := isP_range hp
  refine Ex.bind (ex_l01Draw (s := ⟨s.c0, s.c1, s.c2⟩) hs this.1 this.2) fun r hr => Ex.bind (ex_l01Bad hr _) fun q hq => Ex.bind (ex_next hq (by omega)) fun z hz => ?_
  refine Ex.ite (fun _ => Ex.bind (ex_is01 _ _) fun b hb => ?_) fun _ => Ex.ret trivial
  refine Ex.ite (fun h => Ex.bind (ex_next hz.2 (by omega)) fun y hy => ?_) fun _ => Ex.ret trivial
  have hv : isB p ⟨o7_0, o7_1, o7_2⟩ := by rw [h] at hb; simpa using hb.symm
  exact two_l v6 o3_0 o3_1 o3_2 o4_0 o4_1 o4_2 o7_0 o7_1 o7_2 fuelN _ _ (lt_fuel (by have := hy.1; omega)) (by have := hy.1; omega) hv

section
variable {code : List Int} (hb : ∀ x ∈ code, 0 ≤ x ∧ x < 256) (hl : code.length ≤ 4500)
include hb hl
theorem ex_l01Two : Ex TT (spec_l01Two.f code) := by
  unfold spec_l01Two.f
  refine Ex.bind (ex_from hb (by omega)) fun s hs => Ex.bind (ex_l01Spoil hs) fun r hr => ?_
  rw [spec_l01Prime_f, Option.bind_some]
  refine Ex.ite (fun h => two_j (.inl rfl) hr _ _ _ _ _ _ _ _ _ _) fun h => two_j (by simpa using h) hr _ _ _ _ _ _ _ _ _ _

theorem ex_DrawMoveSide : Ex TT (spec_DrawMoveSide.f code) := by
  unfold spec_DrawMoveSide.f
  exact Ex.bind (ex_from hb (by omega)) fun s hs => Ex.bind (ex_pick hs (by simp)) fun r hr => Ex.bind (ex_l04Draw hr.2) fun q hq => Ex.bind (ex_l09Side hq _) fun z hz => Ex.ret trivial

theorem ex_DrawPairedMover : Ex TT (spec_DrawPairedMover.f code) := by
  unfold spec_DrawPairedMover.f
  refine Ex.bind (ex_from hb (by omega)) fun s hs => Ex.bind (ex_next hs (by omega)) fun r hr => ?_
  refine Ex.ite (fun _ => Ex.bind (ex_l01Two hb hl) fun z _ => Ex.ret trivial) fun _ => ?_
  refine Ex.bind (ex_pick hr.2 (by simp)) fun r4 h4 => Ex.bind (ex_next h4.2 (by omega)) fun r5 h5 => Ex.bind (ex_pick h5.2 (by simp)) fun r6 h6 => Ex.bind (ex_next h6.2 (by omega)) fun r7 h7 => ?_
  have m4 := h4.1
  have m6 := h6.1
  have m5 := h5.1
  simp only [List.mem_cons, List.not_mem_nil, or_false] at m4 m6
  rw [W_id (n := r5.1 - 10) (by omega) (by omega)]
  refine Ex.bind (ex_of (by omega) (by omega) (by omega) (by unfold big63; omega) (by unfold big63; omega)) fun r8 h8 => ?_
  refine Ex.bind (ex_next h7.2 (by omega)) fun r9 h9 => Ex.bind (ex_pick h9.2 (by simp)) fun r10 h10 => Ex.bind (ex_next h10.2 (by omega)) fun r11 h11 => ?_
  have m9 := h9.1
  have m10 := h10.1
  simp only [List.mem_cons, List.not_mem_nil, or_false] at m10
  rw [W_id (n := r9.1 - 10) (by omega) (by omega)]
  exact Ex.bind (ex_of (by omega) (by omega) (by omega) (by unfold big63; omega) (by unfold big63; omega)) fun r8 h8 => Ex.ret trivial

omit hb hl in
theorem ex_endOf {x y : Int} (hx : big x) (hy : big y) : Ex TT (spec_l01EndOf.f x y) := by
  unfold spec_l01EndOf.f
  refine Ex.ite (fun _ => Ex.ret trivial) fun h => ?_
  have h : y ≠ 0 := by simpa using h
  rw [spec_gcd_f hx hy, Option.bind_some]
  have hg : (Int.gcd x y : Int) ≠ 0 := by
    intro e
    have : Int.gcd x y = 0 := by omega
    exact h (Int.gcd_eq_zero_iff.1 this).2
  have hgb : (Int.gcd x y : Int) ≤ y.natAbs := by
    have := Int.gcd_dvd_right (a := x) (b := y)
    exact Int.le_of_dvd (by omega) (Int.dvd_natAbs.2 this)
  have w : W (0 - (Int.gcd x y : Int)) = -(Int.gcd x y : Int) := by unfold big at hy; rw [W_id (by omega) (by omega)]; omega
  refine Ex.ite (fun _ => ?_) fun _ => ?_
  · unfold spec_l01EndOf.j6
    refine Ex.guard (by rw [w]; omega) (Ex.guard (by rw [w]; omega) ?_)
    exact Ex.ite (fun _ => Ex.ret trivial) fun _ => Ex.ret trivial
  · unfold spec_l01EndOf.j6
    refine Ex.guard hg (Ex.guard hg ?_)
    exact Ex.ite (fun _ => Ex.ret trivial) fun _ => Ex.ret trivial

omit hb hl in
theorem ex_DrawEnd_j {s : Src} (hs : SrcOk s) (v8 a b : Int) : Ex G2 (spec_l01DrawEnd.j5 v8 s.c0 s.c1 s.c2 a b) := by
  unfold spec_l01DrawEnd.j5
  have hs' : SrcOk (⟨s.c0, s.c1, s.c2⟩ : Src) := hs
  refine Ex.ite (fun _ => Ex.bind (ex_pick hs' (by simp)) fun r hr => Ex.bind (ex_pick hr.2 (by simp)) fun q hq => Ex.ret hq.2) fun _ => ?_
  refine Ex.bind (ex_next hs' (by omega)) fun r4 h4 => Ex.bind (ex_next h4.2 (by omega)) fun r5 h5 => Ex.bind (ex_next h5.2 (by omega)) fun r6 h6 => Ex.bind (ex_pick h6.2 (by simp)) fun r7 h7 => ?_
  refine Ex.bind (ex_next h7.2 (by omega)) fun r8 h8 => Ex.bind (ex_next h8.2 (by omega)) fun r9 h9 => ?_
  have m9 := h9.1
  have p2 := gpow12 (p := 2) (by omega) (by omega) (k := r9.1.toNat) (by omega)
  rw [gspec_power_f (p := 2) (by omega) (by omega) m9.1 (by omega), Option.bind_some]
  refine Ex.bind (ex_next h9.2 (by omega)) fun r11 h11 => ?_
  have m11 := h11.1
  have p3 := gpow12 (p := 3) (by omega) (by omega) (k := r11.1.toNat) (by omega)
  rw [gspec_power_f (p := 3) (by omega) (by omega) m11.1 (by omega), Option.bind_some]
  refine Ex.bind (ex_next h11.2 (by omega)) fun r13 h13 => Ex.bind (ex_pick h13.2 (by simp)) fun r14 h14 => ?_
  have m4 := h4.1
  have m5 := h5.1
  have m6 := h6.1
  have m8 := h8.1
  have m13 := h13.1
  have m7 := h7.1
  have m14 := h14.1
  rw [W_id (n := r4.1 - 10) (by omega) (by omega), W_id (n := r5.1 - 100) (by omega) (by omega), W_id (n := r6.1 - 1000000) (by omega) (by omega)] at m7
  rw [W_id (n := 1 + r8.1) (by omega) (by omega), W_id (n := 1 + r13.1) (by omega) (by omega)] at m14
  simp only [List.mem_cons, List.not_mem_nil, or_false] at m7 m14
  exact Ex.bind (ex_endOf (by unfold big; omega) (by unfold big; omega)) fun _ _ => Ex.ret h14.2

omit hb hl in
theorem ex_DrawEnd {s : Src} (hs : SrcOk s) : Ex G2 (spec_l01DrawEnd.f s) := by
  unfold spec_l01DrawEnd.f
  refine Ex.bind (ex_next hs (by omega)) fun r hr => ?_
  refine Ex.ite (fun _ => Ex.ite (fun _ => Ex.ret hr.2) fun _ => ex_DrawEnd_j hr.2 _ _ _) fun _ => Ex.ite (fun _ => Ex.ret hr.2) fun _ => ex_DrawEnd_j hr.2 _ _ _

omit hb hl in
theorem ex_l05End {s : Src} (hs : SrcOk s) (p : Int) (b : Siii) : Ex G2 (spec_l05End.f s p b) := by
  unfold spec_l05End.f
  refine Ex.bind (ex_is01 _ _) fun q hq => ?_
  refine Ex.ite (fun _ => Ex.bind (ex_DrawEnd hs) fun r hr => Ex.ret hr) fun hc => ?_
  have hv : isB p b := by have : q = true := by simpa using hc
                          rw [this] at hq; simpa using hq.symm
  have hr := isP_range hv.1
  have hd := hv.dn
  have hL := hv.lv
  have ht := isB_T hv
  refine Ex.bind (ex_next hs (by omega)) fun r3 h3 => ?_
  refine Ex.ite (fun _ => Ex.bind (ex_DrawEnd h3.2) fun r hr => Ex.ret hr) fun _ => ?_
  have hpw := pow12 hv.1 (k := b.c2.toNat) (by omega)
  rw [spec_power_f hv.1 hd.1 (by omega), Option.bind_some]
  refine Ex.bind (ex_next h3.2 (by omega)) fun r6 h6 => ?_
  have m6 := h6.1
  have tail : ∀ (v7 : Int) (s : Src), big v7 → SrcOk s → Ex G2 (spec_l05End.j7 v7 (p ^ b.c2.toNat) s.c0 s.c1 s.c2 0 0) := by
    intro v7 s hv7 hs
    unfold spec_l05End.j7
    refine Ex.bind (ex_endOf hv7 (by unfold big; omega)) fun r9 h9 => ?_
    have hs' : SrcOk (⟨s.c0, s.c1, s.c2⟩ : Src) := hs
    exact Ex.ite (fun _ => Ex.bind (ex_DrawEnd hs') fun r hr => Ex.ret hr) fun _ => Ex.ret hs'
  rw [W_id (n := b.c0 + r6.1) (by omega) (by omega), W_id (n := b.c0 + r6.1 - 1) (by omega) (by omega)]
  refine Ex.ite (fun hge => ?_) fun _ => tail _ _ (by unfold big; omega) h6.2
  have hge : b.c0 + r6.1 - 1 ≥ 0 := by simpa using hge
  refine Ex.bind (ex_next h6.2 (by omega)) fun r7 h7 => ?_
  have m7 := h7.1
  have hq := pow12 hv.1 (k := (b.c0 + r6.1 - 1).toNat) (by omega)
  rw [spec_power_f hv.1 hge (by omega), Option.bind_some]
  have d6 := pow_mono hv.1.two (a := b.c2.toNat) (b := 6) (by omega)
  have q8 := pow_mono hv.1.two (a := (b.c0 + r6.1 - 1).toNat) (b := 8) (by omega)
  have s6 : p ^ 6 ≤ 117649 := by rcases hv.1 with rfl | rfl | rfl | rfl <;> decide
  have s8 : p ^ 8 ≤ 5764801 := by rcases hv.1 with rfl | rfl | rfl | rfl <;> decide
  have a1 : 0 ≤ r7.1 * p ^ (b.c0 + r6.1 - 1).toNat := Int.mul_nonneg m7.1 (by omega)
  have a2 : r7.1 * p ^ (b.c0 + r6.1 - 1).toNat ≤ 7 * 5764801 := Int.mul_le_mul (by omega) (by omega) (by omega) (by omega)
  have a3 : 0 ≤ r7.1 * p ^ (b.c0 + r6.1 - 1).toNat * p ^ b.c2.toNat := Int.mul_nonneg a1 (by omega)
  have a4 : r7.1 * p ^ (b.c0 + r6.1 - 1).toNat * p ^ b.c2.toNat ≤ 7 * 5764801 * 117649 := Int.mul_le_mul a2 (by omega) (by omega) (by omega)
  rw [W_id (n := r7.1 * p ^ (b.c0 + r6.1 - 1).toNat) (by omega) (by omega), W_id (n := r7.1 * p ^ (b.c0 + r6.1 - 1).toNat * p ^ b.c2.toNat) (by omega) (by omega), W_id (n := b.c1 + _) (by omega) (by omega)]
  exact tail _ _ (by unfold big; omega) h7.2

theorem ex_DrawSideHas : Ex TT (spec_DrawSideHas.f code) := by
  unfold spec_DrawSideHas.f
  exact Ex.bind (ex_from hb (by omega)) fun s hs => Ex.bind (ex_pick hs (by simp)) fun r hr => Ex.bind (ex_l09Side hr.2 _) fun q hq => Ex.bind (ex_l05End hq _ _) fun z hz => Ex.ret trivial

theorem ex_DrawAreApartSides : Ex TT (spec_DrawAreApartSides.f code) := by
  unfold spec_DrawAreApartSides.f
  refine Ex.guard (by simp only [List.length_cons, List.length_nil]; omega) ?_
  refine Ex.bind (ex_from (code := [4] ++ code) ?_ (by simp only [List.length_append, List.length_cons, List.length_nil]; omega)) fun s hs => Ex.bind (ex_l01Two hb hl) fun r hr => Ex.bind (ex_next hs (by omega)) fun q hq => Ex.bind (ex_next hq.2 (by omega)) fun z hz => Ex.ret trivial
  intro x hx
  simp only [List.cons_append, List.nil_append, List.mem_cons] at hx
  rcases hx with rfl | hx
  · omega
  · exact hb x hx
end

end Go.Gn
end
section
set_option linter.unusedVariables false
set_option linter.unusedSimpArgs false
/-! plain: sides, moved -/
namespace Go.Gn
open Go Go.Eng Pl Pl.M2

abbrev Side := Siiib
def bl (s : Side) : Siii := ⟨s.c0, s.c1, s.c2⟩
abbrev isS (p : Int) (s : Side) : Prop := isB p (bl s)

theorem impl_areSides_l {p : Int} {l : List Side} (hl : l.length ≤ 1000000000000) : ∀ (k i : Nat), l.length - i < k → i ≤ l.length →
    impl_areSides.l2 k p l (l.length : Int) (i : Int) = some ((l.drop i).all (fun b => decide (isS p b)) && decide (IsP p)) := by
  intro k
  induction k with
  | zero => intro i h; omega
  | succ k ih =>
    intro i h hi
    simp only [impl_areSides.l2, impl_areSides.s2]
    by_cases hlt : i < l.length
    · rw [ifE_pos (by omega), getE_nat hlt, Option.bind_some, List.drop_eq_getElem_cons hlt, List.all_cons, impl_IsBall_f, Option.bind_some]
      have e : W ((i : Int) + 1) = ((i + 1 : Nat) : Int) := by rw [W_id (by omega) (by omega)]; omega
      rw [e]
      by_cases h1 : isS p l[i]
      · rw [decide_eq_true h1, decide_eq_true (p := isB p ⟨l[i].c0, l[i].c1, l[i].c2⟩) h1, Bool.not_true, ifE_f, ih (i + 1) (by omega) (by omega), Bool.true_and]
      · rw [decide_eq_false h1, decide_eq_false (p := isB p ⟨l[i].c0, l[i].c1, l[i].c2⟩) h1]; rfl
    · rw [ifE_neg (by omega), List.drop_eq_nil_of_le (by omega), impl_isPrime_f]; rfl
theorem impl_areSides_f {p : Int} {l : List Side} (hl : l.length ≤ 1000000000000) : impl_areSides.f p l = some (l.all (fun b => decide (isS p b)) && decide (IsP p)) := by
  unfold impl_areSides.f
  exact impl_areSides_l hl fuelN 0 (lt_fuel (by omega)) (by omega)

theorem spec_l09Code_l {p : Int} {l : List Side} (hl : l.length ≤ 1000000000000) : ∀ (k i : Nat), l.length - i < k → i ≤ l.length →
    spec_l09Code.l4 k p l (i : Int) = some (if (l.drop i).all (fun b => decide (isS p b)) then 0 else 1) := by
  intro k
  induction k with
  | zero => intro i h; omega
  | succ k ih =>
    intro i h hi
    simp only [spec_l09Code.l4, spec_l09Code.s4]
    by_cases hlt : i < l.length
    · rw [ifE_pos (by omega), getE_nat hlt, Option.bind_some, List.drop_eq_getElem_cons hlt, List.all_cons, spec_l01Is_f, Option.bind_some]
      have e : W ((i : Int) + 1) = ((i + 1 : Nat) : Int) := by rw [W_id (by omega) (by omega)]; omega
      rw [e]
      by_cases h1 : isS p l[i]
      · rw [decide_eq_true h1, decide_eq_true (p := isB p ⟨l[i].c0, l[i].c1, l[i].c2⟩) h1, Bool.not_true, ifE_f, ih (i + 1) (by omega) (by omega), Bool.true_and]
      · rw [decide_eq_false h1, decide_eq_false (p := isB p ⟨l[i].c0, l[i].c1, l[i].c2⟩) h1]; rfl
    · rw [ifE_neg (by omega), List.drop_eq_nil_of_le (by omega)]; rfl
theorem spec_l09Code_f {p : Int} {l : List Side} (hl : l.length ≤ 1000000000000) : spec_l09Code.f p l = some (if IsP p ∧ (l.all (fun b => decide (isS p b))) = true then 0 else 1) := by
  unfold spec_l09Code.f
  rw [spec_l01Prime_f, Option.bind_some]
  by_cases hp : IsP p
  · rw [decide_eq_true hp, Bool.not_true, ifE_f]
    have := spec_l09Code_l (p := p) hl fuelN 0 (lt_fuel (by omega)) (by omega)
    rw [List.drop_zero] at this
    simp only [hp, true_and]
    exact this
  · rw [decide_eq_false hp, Bool.not_false, ifE_t, if_neg fun h => hp h.1]

/-! one ball in another -/
theorem isAt_ball {p : Int} {b c : Siii} (hc : isB p c) : IsAt p c.c1 (p ^ c.c2.toNat) b.c0 b.c1 b.c2 ↔ isB p b ∧ p ^ lvB b ∣ mkB p c - mkB p b := by
  unfold IsAt
  have hd := hc.dn
  have h2 := hc.1.two
  have e1 : p ^ 6 * c.c1 = mkB p c * p ^ c.c2.toNat := by
    unfold mkB Pl.mk
    rw [Int.mul_assoc, ← Int.pow_add, show (6 - c.c2).toNat + c.c2.toNat = 6 from by omega, Int.mul_comm]
  rw [e1, vl_pow h2, Int.pow_add, ← Int.sub_mul]
  have hz := pow_ne h2 c.c2.toNat
  unfold mkB lvB
  exact ⟨fun h => ⟨h.1, Int.dvd_of_mul_dvd_mul_right hz h.2⟩, fun h => ⟨h.1, Int.mul_dvd_mul_right _ h.2⟩⟩

theorem eqB (a b : Siii) : ((a.c0 == b.c0) && ((a.c1 == b.c1) && ((a.c2 == b.c2) && true))) = decide (a = b) := by
  cases a; cases b
  rw [Bool.eq_iff_iff]
  simp [Siii.mk.injEq]

theorem spec_l01Holds_f {p : Int} {b c : Siii} (hb : isB p b) (hc : isB p c) : spec_l01Holds.f p b c = some (decide (Hold p b c)) := by
  unfold spec_l01Holds.f
  have hd := hc.dn
  have ht := isB_T hc
  have h2 := hc.1.two
  by_cases h : b.c0 ≤ c.c0
  · have hpw := pow12 hc.1 (k := c.c2.toNat) (by omega)
    rw [ifE_neg (by omega), spec_power_f hc.1 hd.1 (by omega), Option.bind_some]
    obtain ⟨d, ok, e, h3⟩ := spec_l01Of_f (p := p) (num := c.c1) (den := p ^ c.c2.toNat) (L := b.c0) hc.1 (by omega) (by unfold big63; omega) (by unfold big63; omega)
    rw [e, Option.bind_some]
    have hf : Fits p c.c1 (p ^ c.c2.toNat) b.c0 := ⟨hb.lv, by
      right; right; rw [vl_pow h2]; omega⟩
    rcases h3 with ⟨-, rfl, h4, h5⟩ | ⟨h4, -, -⟩
    · rw [ifE_t, eqB]
      congr 1; rw [decide_eq_decide]
      rw [← h4] at h5
      have h6 := (isAt_ball (b := d) hc).1 h5
      constructor
      · rintro rfl
        exact ⟨h, h6.2⟩
      · rintro ⟨-, h7⟩
        refine isB_inj h6.1 hb h4 ?_
        have e2 : lvB d = lvB b := by unfold lvB; rw [h4]
        have h9 := h6.2
        rw [e2] at h9
        have h8 := Int.dvd_sub h7 h9
        have r1 := mkB_range hb
        have r2 := mkB_range h6.1
        rw [e2] at r2
        refine (eq_of_dvd_sub r2 r1 ?_)
        have e3 : mkB p c - mkB p b - (mkB p c - mkB p d) = mkB p d - mkB p b := by omega
        rwa [e3] at h8
    · exact absurd hf h4
  · rw [ifE_pos (by omega), decide_eq_false fun hh => h hh.1]

/-! a side moved -/
def mS (p : Int) (s : Side) : Int := mkB p (bl s)
def numS (p : Int) (g : M2) (s : Side) : Int := g.a * mS p s + g.b * p ^ 6
def denS (p : Int) (g : M2) (s : Side) : Int := g.c * mS p s + g.d * p ^ 6
def Inside (p : Int) (g : M2) (s : Side) : Prop := g.c ≠ 0 ∧ (denS p g s = 0 ∨ s.c0 + vl p g.c ≤ (vl p (denS p g s) : Int) - 6)
def MoveAt (p : Int) (g : M2) (s r : Side) (ok : Bool) : Prop :=
  (Inside p g s ∧ AtB p g.a g.c ((vl p g.det : Int) - 2 * vl p g.c - s.c0 + 1) (bl r) ok ∧ r.c3 = !s.c3) ∨
  (¬ Inside p g s ∧ AtB p (numS p g s) (denS p g s) ((vl p g.det : Int) + s.c0 - 2 * ((vl p (denS p g s) : Int) - 6)) (bl r) ok ∧ r.c3 = s.c3)

theorem den_ne {p : Int} {g : M2} {s : Side} (hp : IsP p) (hg : g.det ≠ 0) (h : ¬ Inside p g s) : denS p g s ≠ 0 := by
  intro e
  by_cases hc : g.c = 0
  · unfold denS at e
    rw [hc, Int.zero_mul, Int.zero_add] at e
    have hd : g.d = 0 := (Int.mul_eq_zero.1 e).resolve_right (pow_ne hp.two 6)
    exact hg (by unfold det; rw [hc, hd]; simp)
  · exact h ⟨hc, .inl e⟩

theorem bl_inj {r r' : Side} (h : bl r = bl r') (h' : r.c3 = r'.c3) : r = r' := by
  cases r; cases r'
  simp only [bl, Siii.mk.injEq] at h
  simp only at h'
  obtain ⟨rfl, rfl, rfl⟩ := h
  rw [h']

theorem MoveAt.unique {p : Int} {g : M2} {s r r' : Side} {ok ok' : Bool} (hp : IsP p) (hg : g.det ≠ 0) (h : MoveAt p g s r ok) (h' : MoveAt p g s r' ok') : r = r' ∧ ok = ok' := by
  rcases h with ⟨a, b, c⟩ | ⟨a, b, c⟩ <;> rcases h' with ⟨a', b', c'⟩ | ⟨a', b', c'⟩
  · obtain ⟨e, e'⟩ := b.unique a.1 b'
    exact ⟨bl_inj e (by rw [c, c']), e'⟩
  · exact absurd a a'
  · exact absurd a' a
  · obtain ⟨e, e'⟩ := b.unique (den_ne hp hg a) b'
    exact ⟨bl_inj e (by rw [c, c']), e'⟩

theorem p6_le {p : Int} (hp : IsP p) : 64 ≤ p ^ 6 ∧ p ^ 6 ≤ 117649 := by rcases hp with rfl | rfl | rfl | rfl <;> decide

/-- the products stay in range -/
theorem lin_W {x y m q : Int} (hx : small 1000 x) (hy : small 1000 y) (hm : 0 ≤ m ∧ m ≤ 13841287201) (hq : 0 ≤ q ∧ q ≤ 13841287201) :
    W (W (x * m) + W (y * q)) = x * m + y * q ∧ big (x * m + y * q) := by
  have h1 := mul_small (m := 1000) (n := 13841287201) (x := x) (y := m) hx (by unfold small; omega) (by omega)
  have h2 := mul_small (m := 1000) (n := 13841287201) (x := y) (y := q) hy (by unfold small; omega) (by omega)
  unfold small at h1 h2
  rw [W_id (n := x * m) (by omega) (by omega), W_id (n := y * q) (by omega) (by omega), W_id (by omega) (by omega)]
  exact ⟨rfl, by unfold big; omega⟩

theorem big_63 {x : Int} (h : big x) : big63 x := by unfold big at h; unfold big63; omega

theorem det_big {X : M2} (h : fitM 1000 X) : big X.det := by
  obtain ⟨h1, h2, h3, h4⟩ := h
  have a := mul_small h1 h4 (by omega)
  have b := mul_small h2 h3 (by omega)
  unfold small at a b; unfold big det; omega

theorem small_big63 {x : Int} (h : small 1000 x) : big63 x := by unfold small at h; unfold big63; omega

section
variable {p : Int} {g : Siiii} {s : Side} (hs : isS p s) (hg : isM (toM g))
include hs hg

theorem moveSide_j8 (hin : ¬ Inside p (toM g) s) : ∃ r ok, impl_moveSide.j8 p (numS p (toM g) s) (denS p (toM g) s) (vl p (toM g).det) s.c0 s.c1 s.c2 s.c3 0 0 0 false = some (r, ok) ∧ MoveAt p (toM g) s r ok := by
  have hp : IsP p := hs.1
  have hm : 0 ≤ mS p s ∧ mS p s ≤ 13841287201 := ⟨(mkB_range hs).1, mkB_le hs⟩
  have h6 := p6_le hp
  have hL := hs.lv
  have hL : -6 ≤ s.c0 ∧ s.c0 ≤ 6 := hL
  obtain ⟨-, bn⟩ := lin_W hg.1.1 hg.1.2.1 hm (q := p ^ 6) (by omega)
  obtain ⟨-, bd⟩ := lin_W hg.1.2.2.1 hg.1.2.2.2 hm (q := p ^ 6) (by omega)
  have hdn := den_ne hp hg.2 hin
  have bn : big63 (numS p (toM g) s) := big_63 bn
  have bd : big63 (denS p (toM g) s) := big_63 bd
  have v1 := vl_lt hp hdn bd
  have v2 := vl_lt hp hg.2 (big_63 (det_big hg.1))
  unfold impl_moveSide.j8
  rw [impl_valuation_f hp hdn bd, Option.bind_some, W_id (n := (vl p (denS p (toM g) s) : Int) - 6) (by omega) (by omega), W_id (n := 2 * ((vl p (denS p (toM g) s) : Int) - 6)) (by omega) (by omega), W_id (n := s.c0 + (vl p (toM g).det : Int)) (by omega) (by omega), W_id (by omega) (by omega)]
  obtain ⟨b, ok, e, h⟩ := impl_ballAt_f (p := p) (num := numS p (toM g) s) (den := denS p (toM g) s) (L := s.c0 + (vl p (toM g).det : Int) - 2 * ((vl p (denS p (toM g) s) : Int) - 6)) hp hdn bn bd
  rw [e, Option.bind_some]
  refine ⟨_, _, rfl, .inr ⟨hin, ?_, rfl⟩⟩
  rw [show (vl p (toM g).det : Int) + s.c0 - 2 * ((vl p (denS p (toM g) s) : Int) - 6) = s.c0 + (vl p (toM g).det : Int) - 2 * ((vl p (denS p (toM g) s) : Int) - 6) from by omega]
  exact h

theorem impl_moveSide_f : ∃ r ok, impl_moveSide.f p g s = some (r, ok) ∧ MoveAt p (toM g) s r ok := by
  have hp : IsP p := hs.1
  have hm : 0 ≤ mS p s ∧ mS p s ≤ 13841287201 := ⟨(mkB_range hs).1, mkB_le hs⟩
  have h6 := p6_le hp
  have hL : -6 ≤ s.c0 ∧ s.c0 ≤ 6 := hs.lv
  obtain ⟨wn, bn⟩ := lin_W hg.1.1 hg.1.2.1 hm (q := p ^ 6) (by omega)
  obtain ⟨wd, bd⟩ := lin_W hg.1.2.2.1 hg.1.2.2.2 hm (q := p ^ 6) (by omega)
  have wn : W (W (g.c0 * mkB p (bl s)) + W (g.c1 * p ^ 6)) = numS p (toM g) s := wn
  have wd : W (W (g.c2 * mkB p (bl s)) + W (g.c3 * p ^ 6)) = denS p (toM g) s := wd
  have bd : big63 (denS p (toM g) s) := big_63 bd
  have v2 := vl_lt hp hg.2 (big_63 (det_big hg.1))
  unfold impl_moveSide.f impl_determinant.f
  rw [show (⟨s.c0, s.c1, s.c2⟩ : Siii) = bl s from rfl, impl_mark_f hs, Option.bind_some, impl_power_f hp (by omega) (by omega), Option.bind_some, Option.bind_some, det_W (m := 1000) (by omega) hg.1, impl_valuation_f hp hg.2 (big_63 (det_big hg.1)), Option.bind_some, show Int.toNat 6 = 6 from rfl, wn, wd]
  by_cases hc : g.c2 = 0
  · rw [hc, impl_valuation_0, Option.bind_some, bne_eq rfl, ifE_f]
    exact moveSide_j8 hs hg fun h => h.1 hc
  · have bc : big63 g.c2 := small_big63 hg.1.2.2.1
    have v3 := vl_lt hp hc bc
    rw [impl_valuation_f hp hc bc, Option.bind_some, bne_ne hc, ifE_t, W_id (n := s.c0 + (vl p g.c2 : Int)) (by omega) (by omega)]
    have inn : ∀ hin : Inside p (toM g) s, ∃ r ok, ((impl_ballAt.f p g.c0 g.c2 (W ((W ((W ((vl p (toM g).det : Int) - (W (2 * (vl p g.c2 : Int))))) - s.c0)) + 1))).bind fun r7 =>
      some ((⟨r7.1.c0, r7.1.c1, r7.1.c2, !s.c3⟩ : Siiib), r7.2)) = some (r, ok) ∧ MoveAt p (toM g) s r ok := by
      intro hin
      rw [W_id (n := 2 * (vl p g.c2 : Int)) (by omega) (by omega), W_id (n := (vl p (toM g).det : Int) - 2 * (vl p g.c2 : Int)) (by omega) (by omega), W_id (n := (vl p (toM g).det : Int) - 2 * (vl p g.c2 : Int) - s.c0) (by omega) (by omega), W_id (by omega) (by omega)]
      obtain ⟨b, ok, e, h⟩ := impl_ballAt_f (p := p) (num := g.c0) (den := g.c2) (L := (vl p (toM g).det : Int) - 2 * (vl p g.c2 : Int) - s.c0 + 1) hp hc (small_big63 hg.1.1) bc
      rw [e, Option.bind_some]
      exact ⟨_, _, rfl, .inl ⟨hin, h, rfl⟩⟩
    by_cases hz : denS p (toM g) s = 0
    · rw [hz, impl_valuation_0, Option.bind_some, W_id (n := (1000 : Int) - 6) (by omega) (by omega), ifE_pos (by omega)]
      exact inn ⟨hc, .inl hz⟩
    · have v1 := vl_lt hp hz bd
      rw [impl_valuation_f hp hz bd, Option.bind_some, W_id (n := (vl p (denS p (toM g) s) : Int) - 6) (by omega) (by omega)]
      by_cases hge : (vl p (denS p (toM g) s) : Int) - 6 ≥ s.c0 + (vl p g.c2 : Int)
      · rw [ifE_pos hge]
        exact inn ⟨hc, .inr hge⟩
      · rw [ifE_neg hge]
        refine moveSide_j8 hs hg fun h => ?_
        rcases h.2 with h | h
        · exact hz h
        · exact hge h
end

theorem atB_scale {p num den L k : Int} {b : Siii} {ok : Bool} (hp : IsP p) (hk : k ≠ 0) (hd : den ≠ 0) : AtB p (k * num) (k * den) L b ok ↔ AtB p num den L b ok := by
  unfold AtB
  rw [fits_scale hp hk hd, isAt_scale hp hk hd]

section
variable {p : Int} {g : Siiii} {s : Side} (hs : isS p s) (hg : isM (toM g))
include hs hg

omit hg in
theorem scaleS : numS p (toM g) s = p ^ (6 - s.c2).toNat * (g.c0 * s.c1 + g.c1 * p ^ s.c2.toNat) ∧ denS p (toM g) s = p ^ (6 - s.c2).toNat * (g.c2 * s.c1 + g.c3 * p ^ s.c2.toNat) := by
  have hd : 0 ≤ s.c2 ∧ s.c2 ≤ 6 := hs.dn
  have e : p ^ 6 = p ^ (6 - s.c2).toNat * p ^ s.c2.toNat := by rw [← Int.pow_add, show (6 - s.c2).toNat + s.c2.toNat = 6 from by omega]
  unfold numS denS mS mkB Pl.mk bl toM
  simp only [e]
  constructor <;> grind

theorem spec_l09Move_out (z0 z1 z2 : Int) (z3 : Bool) (hin : ¬ Inside p (toM g) s) : ∃ r ok, spec_l09Move.j6 p (vl p (toM g).det) (g.c0 * s.c1 + g.c1 * p ^ s.c2.toNat) (g.c2 * s.c1 + g.c3 * p ^ s.c2.toNat) g.c2 false g.c0 g.c1 g.c2 g.c3 s.c0 s.c1 s.c2 s.c3 z0 z1 z2 z3 = some (r, ok) ∧ MoveAt p (toM g) s r ok := by
  have hp : IsP p := hs.1
  have ht : 0 ≤ s.c1 ∧ s.c1 ≤ 13841287201 := isB_T hs
  have hL : -6 ≤ s.c0 ∧ s.c0 ≤ 6 := hs.lv
  have hd : 0 ≤ s.c2 ∧ s.c2 ≤ 6 := hs.dn
  have hpw := pow12 hp (k := s.c2.toNat) (by omega)
  obtain ⟨-, bn⟩ := lin_W hg.1.1 hg.1.2.1 ht (q := p ^ s.c2.toNat) (by omega)
  obtain ⟨-, bd⟩ := lin_W hg.1.2.2.1 hg.1.2.2.2 ht (q := p ^ s.c2.toNat) (by omega)
  obtain ⟨sn, sd⟩ := scaleS (g := g) hs
  have hdn := den_ne hp hg.2 hin
  have hz := pow_ne hp.two (6 - s.c2).toNat
  have hY : g.c2 * s.c1 + g.c3 * p ^ s.c2.toNat ≠ 0 := by
    intro e; rw [e, Int.mul_zero] at sd; exact hdn sd
  have bn : big63 (g.c0 * s.c1 + g.c1 * p ^ s.c2.toNat) := big_63 bn
  have bd : big63 (g.c2 * s.c1 + g.c3 * p ^ s.c2.toNat) := big_63 bd
  have v1 := vl_lt hp hY bd
  have v2 := vl_lt hp hg.2 (big_63 (det_big hg.1))
  have ev : vl p (denS p (toM g) s) = (6 - s.c2).toNat + vl p (g.c2 * s.c1 + g.c3 * p ^ s.c2.toNat) := by rw [sd, vl_pow_mul hp.two _ hY]
  unfold spec_l09Move.j6
  generalize g.c2 * s.c1 + g.c3 * p ^ s.c2.toNat = Y at *
  generalize g.c0 * s.c1 + g.c1 * p ^ s.c2.toNat = X at *
  rw [Bool.not_false, ifE_t, spec_val_f hp hY bd, Option.bind_some, W_id (n := (vl p Y : Int) - s.c2) (by omega) (by omega), W_id (n := 2 * ((vl p Y : Int) - s.c2)) (by omega) (by omega), W_id (n := (vl p (toM g).det : Int) + s.c0) (by omega) (by omega), W_id (by omega) (by omega)]
  obtain ⟨b, ok, e, h⟩ := spec_l01Of_f (p := p) (num := X) (den := Y) (L := (vl p (toM g).det : Int) + s.c0 - 2 * ((vl p Y : Int) - s.c2)) hp hY bn bd
  rw [e, Option.bind_some]
  refine ⟨_, _, rfl, .inr ⟨hin, ?_, rfl⟩⟩
  rw [sn, show (vl p (toM g).det : Int) + s.c0 - 2 * ((vl p (denS p (toM g) s) : Int) - 6) = (vl p (toM g).det : Int) + s.c0 - 2 * ((vl p Y : Int) - s.c2) from by omega, sd]
  exact (atB_scale hp hz hY).2 h

theorem spec_l09Move_in (X Y z0 z1 z2 : Int) (z3 : Bool) (hin : Inside p (toM g) s) : ∃ r ok, spec_l09Move.j6 p (vl p (toM g).det) X Y g.c2 true g.c0 g.c1 g.c2 g.c3 s.c0 s.c1 s.c2 s.c3 z0 z1 z2 z3 = some (r, ok) ∧ MoveAt p (toM g) s r ok := by
  have hp : IsP p := hs.1
  have hL : -6 ≤ s.c0 ∧ s.c0 ≤ 6 := hs.lv
  have hc : g.c2 ≠ 0 := hin.1
  have bc : big63 g.c2 := small_big63 hg.1.2.2.1
  have v3 := vl_lt hp hc bc
  have v2 := vl_lt hp hg.2 (big_63 (det_big hg.1))
  unfold spec_l09Move.j6
  rw [Bool.not_true, ifE_f, spec_val_f hp hc bc, Option.bind_some, W_id (n := 2 * (vl p g.c2 : Int)) (by omega) (by omega), W_id (n := (vl p (toM g).det : Int) - 2 * (vl p g.c2 : Int)) (by omega) (by omega), W_id (n := (vl p (toM g).det : Int) - 2 * (vl p g.c2 : Int) - s.c0) (by omega) (by omega), W_id (by omega) (by omega)]
  obtain ⟨b, ok, e, h⟩ := spec_l01Of_f (p := p) (num := g.c0) (den := g.c2) (L := (vl p (toM g).det : Int) - 2 * (vl p g.c2 : Int) - s.c0 + 1) hp hc (small_big63 hg.1.1) bc
  rw [e, Option.bind_some]
  exact ⟨_, _, rfl, .inl ⟨hin, h, rfl⟩⟩

theorem spec_l09Move_f : ∃ r ok, spec_l09Move.f p g s = some (r, ok) ∧ MoveAt p (toM g) s r ok := by
  have hp : IsP p := hs.1
  have ht : 0 ≤ s.c1 ∧ s.c1 ≤ 13841287201 := isB_T hs
  have hL : -6 ≤ s.c0 ∧ s.c0 ≤ 6 := hs.lv
  have hd : 0 ≤ s.c2 ∧ s.c2 ≤ 6 := hs.dn
  have hpw := pow12 hp (k := s.c2.toNat) (by omega)
  obtain ⟨wn, bn⟩ := lin_W hg.1.1 hg.1.2.1 ht (q := p ^ s.c2.toNat) (by omega)
  obtain ⟨wd, bd⟩ := lin_W hg.1.2.2.1 hg.1.2.2.2 ht (q := p ^ s.c2.toNat) (by omega)
  obtain ⟨sn, sd⟩ := scaleS (g := g) hs
  have wn : W (W (g.c0 * s.c1) + W (g.c1 * p ^ s.c2.toNat)) = g.c0 * s.c1 + g.c1 * p ^ s.c2.toNat := wn
  have wd : W (W (g.c2 * s.c1) + W (g.c3 * p ^ s.c2.toNat)) = g.c2 * s.c1 + g.c3 * p ^ s.c2.toNat := wd
  unfold spec_l09Move.f
  rw [spec_power_f hp hd.1 (by omega), Option.bind_some, det_W (m := 1000) (by omega) hg.1, spec_val_f hp hg.2 (big_63 (det_big hg.1)), Option.bind_some, wn, wd]
  by_cases hc : g.c2 = 0
  · rw [show (g.c2 != 0) = false from bne_eq hc, ifE_f]
    exact spec_l09Move_out hs hg _ _ _ _ fun h => h.1 hc
  · rw [show (g.c2 != 0) = true from bne_ne hc, ifE_t]
    have hz := pow_ne hp.two (6 - s.c2).toNat
    by_cases hY : g.c2 * s.c1 + g.c3 * p ^ s.c2.toNat = 0
    · rw [show (g.c2 * s.c1 + g.c3 * p ^ s.c2.toNat == 0) = true from by simpa using hY, ifE_t]
      exact spec_l09Move_in hs hg _ _ _ _ _ _ ⟨hc, .inl (by rw [sd, hY, Int.mul_zero])⟩
    · have bc : big63 g.c2 := small_big63 hg.1.2.2.1
      have v3 := vl_lt hp hc bc
      have bd : big63 (g.c2 * s.c1 + g.c3 * p ^ s.c2.toNat) := big_63 bd
      have v1 := vl_lt hp hY bd
      have hdn : denS p (toM g) s ≠ 0 := by rw [sd]; exact Int.mul_ne_zero hz hY
      have ev : vl p (denS p (toM g) s) = (6 - s.c2).toNat + vl p (g.c2 * s.c1 + g.c3 * p ^ s.c2.toNat) := by rw [sd, vl_pow_mul hp.two _ hY]
      rw [beq_ne hY, ifE_f, spec_val_f hp hY bd, Option.bind_some, spec_val_f hp hc bc, Option.bind_some, W_id (n := (vl p (g.c2 * s.c1 + g.c3 * p ^ s.c2.toNat) : Int) - s.c2) (by omega) (by omega), W_id (n := (vl p g.c2 : Int) + s.c0) (by omega) (by omega)]
      by_cases hge : (vl p (g.c2 * s.c1 + g.c3 * p ^ s.c2.toNat) : Int) - s.c2 ≥ (vl p g.c2 : Int) + s.c0
      · rw [decide_eq_true hge]
        exact spec_l09Move_in hs hg _ _ _ _ _ _ ⟨hc, .inr (by show s.c0 + (vl p g.c2 : Int) ≤ _; omega)⟩
      · rw [decide_eq_false hge]
        refine spec_l09Move_out hs hg _ _ _ _ fun h => ?_
        rcases h.2 with h | h
        · exact hdn h
        · have h : s.c0 + (vl p g.c2 : Int) ≤ (vl p (denS p (toM g) s) : Int) - 6 := h
          omega
end

/-- both movers agree -/
theorem move_eq {p : Int} {g : Siiii} {s : Side} (hs : isS p s) (hg : isM (toM g)) : spec_l09Move.f p g s = impl_moveSide.f p g s := by
  obtain ⟨r, ok, e, h⟩ := impl_moveSide_f hs hg
  obtain ⟨r', ok', e', h'⟩ := spec_l09Move_f hs hg
  obtain ⟨rfl, rfl⟩ := h.unique hs.1 hg.2 h'
  rw [e, e']

def zS : Side := ⟨0, 0, 0, false⟩
theorem all1 {p : Int} {s : Side} : ([s].all (fun b => decide (isS p b)) && decide (IsP p)) = decide (isS p s) := by
  rw [List.all_cons, List.all_nil, Bool.and_true, Bool.eq_iff_iff]
  simp only [Bool.and_eq_true, decide_eq_true_eq]
  exact ⟨fun h => h.1, fun h => ⟨h, h.1⟩⟩

theorem impl_MoveSide_f (p : Int) (g : Siiii) (s : Side) : (¬ (isS p s ∧ isM (toM g)) ∧ impl_MoveSide.f p g s = some (zS, 1)) ∨ (isS p s ∧ isM (toM g) ∧ ∃ r ok, MoveAt p (toM g) s r ok ∧ impl_MoveSide.f p g s = some (if ok then (r, 0) else (zS, 3))) := by
  unfold impl_MoveSide.f
  rw [impl_areSides_f (by simp), Option.bind_some, all1]
  by_cases hs : isS p s
  · rw [decide_eq_true hs, Bool.not_true, ifE_f, impl_IsMatrix_f, Option.bind_some]
    by_cases hg : isM (toM g)
    · rw [decide_eq_true hg, Bool.not_true, ifE_f]
      obtain ⟨r, ok, e, h⟩ := impl_moveSide_f hs hg
      refine .inr ⟨hs, hg, r, ok, h, ?_⟩
      rw [e, Option.bind_some]
      cases ok <;> rfl
    · rw [decide_eq_false hg]; exact .inl ⟨fun h => hg h.2, rfl⟩
  · rw [decide_eq_false hs]; exact .inl ⟨fun h => hs h.1, rfl⟩

theorem spec_MoveSide_eq (p : Int) (g : Siiii) (s : Side) : spec_MoveSide.f p g s = impl_MoveSide.f p g s := by
  unfold impl_MoveSide.f spec_MoveSide.f
  rw [impl_areSides_f (by simp), Option.bind_some, all1, spec_l09Code_f (by simp), Option.bind_some]
  by_cases hs : isS p s
  · rw [decide_eq_true hs, if_pos ⟨hs.1, by simp [hs]⟩, bne_eq rfl, ifE_f, Bool.not_true, ifE_f, impl_IsMatrix_f, spec_l04Is_f, Option.bind_some, Option.bind_some]
    by_cases hg : isM (toM g)
    · rw [move_eq hs hg]
    · rw [decide_eq_false hg]; rfl
  · rw [decide_eq_false hs, if_neg fun h => hs (by simpa using h.2)]; rfl

end Go.Gn
end
section
set_option linter.unusedVariables false
set_option linter.unusedSimpArgs false
/-! plain: sides as matrices; ends -/
namespace Go.Gn
open Go Go.Eng Pl Pl.M2

def bM (p : Int) (b : Siii) : M2 := mB p b.c0 b.c1 b.c2
def sM (p : Int) (s : Side) : M2 := if s.c3 then (bM p (bl s)).mul (turn p) else bM p (bl s)
theorem bM_ne {p : Int} {b : Siii} (h : isB p b) : (bM p b).det ≠ 0 := mB_ne h
theorem sM_ne {p : Int} {s : Side} (h : isS p s) : (sM p s).det ≠ 0 := by
  unfold sM; split
  · exact det_turn_ne h.1 (bM_ne h)
  · exact bM_ne h

theorem nL_int {L : Int} (h : -6 ≤ L ∧ L ≤ 6) : (nL L : Int) = L + 6 := by unfold nL; omega

theorem move_eqv {p : Int} {g : M2} {s r : Side} (hs : isS p s) (hg : g.det ≠ 0) (h : MoveAt p g s r true) : isS p r ∧ Eqv p (sM p r) (g.mul (sM p s)) := by
  have hp : IsP p := hs.1
  have hL : -6 ≤ s.c0 ∧ s.c0 ≤ 6 := hs.lv
  have nl := nL_int hL
  rcases h with ⟨hin, hb, hf⟩ | ⟨hin, hb, hf⟩
  · obtain ⟨hr, hr0⟩ := hb.isB
    refine ⟨hr, ?_⟩
    have hr0 : r.c0 = (vl p g.det : Int) - 2 * vl p g.c - s.c0 + 1 := hr0
    have hrl : -6 ≤ r.c0 ∧ r.c0 ≤ 6 := hr.lv
    have nr := nL_int hrl
    have hat : p ^ (nL r.c0 + vl p g.c) ∣ p ^ 6 * g.a - Pl.mk p r.c1 r.c2 * g.c := by
      rcases hb with ⟨-, -, -, hb⟩ | ⟨-, hb, -⟩
      · have := hb.2; rw [← hr0] at this; exact this
      · exact absurd hb (by simp)
    have k : Eqv p ((bM p (bl r)).mul (turn p)) (g.mul (bM p (bl s))) := by
      refine eqv_in hp hg hin.1 ?_ ?_ hat
      · rcases hin.2 with h | h
        · exact .inl h
        · right
          have h : s.c0 + (vl p g.c : Int) ≤ (vl p (g.c * Pl.mk p s.c1 s.c2 + g.d * p ^ 6) : Int) - 6 := h
          show nL s.c0 + vl p g.c ≤ vl p (g.c * Pl.mk p s.c1 s.c2 + g.d * p ^ 6)
          omega
      · show (nL r.c0 : Int) = vl p g.det - 2 * vl p g.c - nL s.c0 + 13
        omega
    unfold sM
    cases hc : s.c3
    · rw [hc] at hf
      rw [hf]; exact k
    · rw [hc] at hf
      rw [hf, if_neg (by simp), if_pos rfl, ← mul_assoc]
      have k2 := k.turn
      rw [turn_turn] at k2
      have k3 := (k2.symm.smul_right hp (s := 1) (by omega))
      rw [smul_one] at k3
      refine Eqv.symm ?_
      have k4 : Eqv p ((g.mul (bM p (bl s))).mul (turn p)) (smul p (bM p (bl r))) := k3
      unfold Eqv at k4 ⊢
      rw [M2.mul_smul] at k4
      exact k4.unsmul hp (by have := hp.two; omega)
  · obtain ⟨hr, hr0⟩ := hb.isB
    refine ⟨hr, ?_⟩
    have hr0 : r.c0 = (vl p g.det : Int) + s.c0 - 2 * ((vl p (denS p g s) : Int) - 6) := hr0
    have hrl : -6 ≤ r.c0 ∧ r.c0 ≤ 6 := hr.lv
    have nr := nL_int hrl
    have hY := den_ne hp hg hin
    have hat : p ^ (nL r.c0 + vl p (denS p g s)) ∣ p ^ 6 * numS p g s - Pl.mk p r.c1 r.c2 * denS p g s := by
      rcases hb with ⟨-, -, -, hb⟩ | ⟨-, hb, -⟩
      · have := hb.2; rw [← hr0] at this; exact this
      · exact absurd hb (by simp)
    have k : Eqv p (bM p (bl r)) (g.mul (bM p (bl s))) := by
      refine eqv_out hp (L := 0) (L' := 0) hg hY ?_ ?_ hat
      · by_cases hc : g.c = 0
        · exact .inl hc
        · right
          have h : ¬ (s.c0 + (vl p g.c : Int) ≤ (vl p (denS p g s) : Int) - 6) := fun h => hin ⟨hc, .inr h⟩
          show vl p (denS p g s) < nL s.c0 + vl p g.c
          omega
      · show (nL r.c0 : Int) = nL s.c0 + vl p g.det - 2 * vl p (denS p g s) + 12
        omega
    unfold sM
    rw [hf]
    cases hc : s.c3
    · exact k
    · rw [if_pos rfl, if_pos rfl, ← mul_assoc]
      exact k.turn

/-! ends -/
abbrev End' := Sii
def isE (e : End') : Prop := (e.c1 = 0 ∧ e.c0 = 1) ∨ ((1 ≤ e.c1 ∧ e.c1 ≤ 1000000) ∧ small 1000000 e.c0 ∧ Int.gcd e.c0 e.c1 = 1)
instance (e : End') : Decidable (isE e) := inferInstanceAs (Decidable (_ ∨ _))

theorem impl_IsEnd_f (e : End') : impl_IsEnd.f e = some (decide (isE e)) := by
  unfold impl_IsEnd.f
  by_cases h0 : e.c1 = 0
  · rw [show (e.c1 == 0) = true from by simpa using h0, ifE_t]
    congr 1
    by_cases h1 : e.c0 = 1
    · rw [show (e.c0 == 1) = true from by simpa using h1, decide_eq_true (.inl ⟨h0, h1⟩)]
    · rw [beq_ne h1, decide_eq_false]; rintro (⟨-, h⟩ | ⟨h, -⟩) <;> omega
  · rw [beq_ne h0, ifE_f, impl_within_f (by omega) (by simp), Option.bind_some]
    have ea : ([e.c0, e.c1].all fun x => decide (small 1000000 x)) = decide (small 1000000 e.c0 ∧ small 1000000 e.c1) := by
      simp [List.all_cons, Bool.decide_and]
    rw [ea]
    by_cases h1 : small 1000000 e.c0 ∧ small 1000000 e.c1
    · obtain ⟨s0, s1⟩ := h1
      rw [ifE_pos ⟨s0, s1⟩]
      unfold small at s1
      by_cases h2 : e.c1 > 0
      · rw [ifE_pos h2, impl_gcd_f (by unfold big; unfold small at s0; omega) (by unfold big; omega), Option.bind_some]
        congr 1
        by_cases h3 : (Int.gcd e.c0 e.c1 : Int) = 1
        · rw [h3, decide_eq_true (.inr ⟨by omega, s0, by omega⟩)]; rfl
        · rw [beq_ne h3, decide_eq_false]; rintro (⟨h, -⟩ | ⟨-, -, h⟩) <;> omega
      · rw [ifE_neg h2, decide_eq_false]; rintro (⟨h, -⟩ | ⟨h, -⟩) <;> omega
    · rw [ifE_neg h1, decide_eq_false]; rintro (⟨h, -⟩ | ⟨h, h3, -⟩)
      · omega
      · exact h1 ⟨h3, by unfold small; omega⟩

theorem spec_l01End_f (e : End') : spec_l01End.f e = some (decide (isE e)) := by
  unfold spec_l01End.f
  by_cases h0 : e.c1 = 0
  · rw [show (e.c1 == 0) = true from by simpa using h0, ifE_t]
    congr 1
    by_cases h1 : e.c0 = 1
    · rw [show (e.c0 == 1) = true from by simpa using h1, decide_eq_true (.inl ⟨h0, h1⟩)]
    · rw [beq_ne h1, decide_eq_false]; rintro (⟨-, h⟩ | ⟨h, -⟩) <;> omega
  · rw [beq_ne h0, ifE_f, spec_l01In_f, Option.bind_some]
    by_cases h1 : 1 ≤ e.c1 ∧ e.c1 ≤ 1000000
    · rw [ifE_pos h1, spec_l01In_f, Option.bind_some]
      by_cases h2 : -1000000 ≤ e.c0 ∧ e.c0 ≤ 1000000
      · rw [ifE_pos h2, spec_gcd_f (by unfold big; omega) (by unfold big; omega), Option.bind_some]
        congr 1
        by_cases h3 : (Int.gcd e.c0 e.c1 : Int) = 1
        · rw [h3, decide_eq_true (.inr ⟨by omega, h2, by omega⟩)]; rfl
        · rw [beq_ne h3, decide_eq_false]; rintro (⟨h, -⟩ | ⟨-, -, h⟩) <;> omega
      · rw [ifE_neg h2, decide_eq_false]; rintro (⟨h, -⟩ | ⟨-, h, -⟩)
        · omega
        · exact h2 h
    · rw [ifE_neg h1, decide_eq_false]; rintro (⟨h, -⟩ | ⟨h, -⟩)
      · omega
      · exact h1 h

theorem isE_ne {e : End'} (h : isE e) : e.c0 ≠ 0 ∨ e.c1 ≠ 0 := by rcases h with ⟨-, h⟩ | ⟨h, -⟩ <;> omega
theorem isE_small {e : End'} (h : isE e) : small 1000000 e.c0 ∧ 0 ≤ e.c1 ∧ e.c1 ≤ 1000000 := by
  unfold small
  rcases h with ⟨h, h'⟩ | ⟨h, h', -⟩
  · omega
  · unfold small at h'; omega

theorem endAt_f {x y : Int} (hx : big x) (hy : big y) (h0 : x ≠ 0 ∨ y ≠ 0) : ∃ e ok, impl_endAt.f x y = some (e, ok) ∧ (ok = true → isE e ∧ ∃ k, k ≠ 0 ∧ x = k * e.c0 ∧ y = k * e.c1) := by
  unfold impl_endAt.f
  by_cases h : y = 0
  · rw [show (y == 0) = true from by simpa using h, ifE_t]
    exact ⟨_, _, rfl, fun _ => ⟨.inl ⟨rfl, rfl⟩, x, by omega, by simp, by simp [h]⟩⟩
  · rw [beq_ne h, ifE_f, impl_gcd_f hx hy, Option.bind_some]
    have hg : (Int.gcd x y : Int) ≠ 0 := by
      intro e
      have : Int.gcd x y = 0 := by omega
      exact h (Int.gcd_eq_zero_iff.1 this).2
    have hgb : (Int.gcd x y : Int) ≤ y.natAbs := Int.le_of_dvd (by omega) (Int.dvd_natAbs.2 (Int.gcd_dvd_right (a := x) (b := y)))
    have main : ∀ k : Int, k ≠ 0 → k ∣ x → k ∣ y → ∃ e ok, impl_endAt.j6 x y k 0 0 = some (e, ok) ∧ (ok = true → isE e ∧ ∃ k, k ≠ 0 ∧ x = k * e.c0 ∧ y = k * e.c1) := by
      intro k hk ⟨u, hu⟩ ⟨v, hv⟩
      unfold impl_endAt.j6
      have t1 : Int.tdiv x k = u := by rw [hu]; exact Int.mul_tdiv_cancel_left _ hk
      have t2 : Int.tdiv y k = v := by rw [hv]; exact Int.mul_tdiv_cancel_left _ hk
      have bu : u.natAbs ≤ x.natAbs := by rw [hu, Int.natAbs_mul]; exact Nat.le_mul_of_pos_left _ (by omega)
      have bv : v.natAbs ≤ y.natAbs := by rw [hv, Int.natAbs_mul]; exact Nat.le_mul_of_pos_left _ (by omega)
      unfold big at hx hy
      rw [guardE_pos hk, guardE_pos hk, t1, t2, W_id (n := u) (by omega) (by omega), W_id (n := v) (by omega) (by omega), impl_IsEnd_f, Option.bind_some]
      exact ⟨_, _, rfl, fun h => ⟨by simpa using h, k, hk, hu, hv⟩⟩
    have w : W (0 - (Int.gcd x y : Int)) = -(Int.gcd x y : Int) := by unfold big at hy; rw [W_id (by omega) (by omega)]; omega
    by_cases hn : y < 0
    · rw [ifE_pos hn, w]
      exact main _ (by omega) (Int.neg_dvd.2 (Int.gcd_dvd_left _ _)) (Int.neg_dvd.2 (Int.gcd_dvd_right _ _))
    · rw [ifE_neg hn]
      exact main _ hg (Int.gcd_dvd_left _ _) (Int.gcd_dvd_right _ _)

theorem lin_W2 {x y m q : Int} (hx : small 1000 x) (hy : small 1000 y) (hm : small 1000000 m) (hq : small 1000000 q) :
    W (W (x * m) + W (y * q)) = x * m + y * q ∧ big (x * m + y * q) := by
  have h1 := mul_small (m := 1000) (n := 1000000) hx hm (by omega)
  have h2 := mul_small (m := 1000) (n := 1000000) hy hq (by omega)
  unfold small at h1 h2
  rw [W_id (n := x * m) (by omega) (by omega), W_id (n := y * q) (by omega) (by omega), W_id (by omega) (by omega)]
  exact ⟨rfl, by unfold big; omega⟩

theorem impl_MoveEnd_f {g : Siiii} {e : End'} (hg : isM (toM g)) (he : isE e) : ∃ e' code, impl_MoveEnd.f g e = some (e', code) ∧ (code = 0 → isE e' ∧ ∃ k, k ≠ 0 ∧ g.c0 * e.c0 + g.c1 * e.c1 = k * e'.c0 ∧ g.c2 * e.c0 + g.c3 * e.c1 = k * e'.c1) := by
  unfold impl_MoveEnd.f
  rw [impl_IsMatrix_f, Option.bind_some, decide_eq_true hg, Bool.not_true, ifE_f, impl_IsEnd_f, Option.bind_some, decide_eq_true he, Bool.not_true, ifE_f]
  unfold impl_moveEnd.f
  have hb := isE_small he
  obtain ⟨w1, b1⟩ := lin_W2 hg.1.1 hg.1.2.1 hb.1 (q := e.c1) (by unfold small; omega)
  obtain ⟨w2, b2⟩ := lin_W2 hg.1.2.2.1 hg.1.2.2.2 hb.1 (q := e.c1) (by unfold small; omega)
  have w1 : W (W (g.c0 * e.c0) + W (g.c1 * e.c1)) = g.c0 * e.c0 + g.c1 * e.c1 := w1
  have w2 : W (W (g.c2 * e.c0) + W (g.c3 * e.c1)) = g.c2 * e.c0 + g.c3 * e.c1 := w2
  obtain ⟨e', ok, h, h'⟩ := endAt_f b1 b2 (app_ne hg.2 (isE_ne he))
  have h : impl_endAt.f (g.c0 * e.c0 + g.c1 * e.c1) (g.c2 * e.c0 + g.c3 * e.c1) = some (e', ok) := h
  rw [w1, w2, h, Option.bind_some, Option.bind_some]
  unfold impl_fittedEnd.f
  cases ok
  · exact ⟨_, _, rfl, fun h => absurd h (by decide)⟩
  · exact ⟨_, _, rfl, fun _ => h' rfl⟩

theorem in_iff {p x y : Int} (hp : IsP p) : In p x y ↔ y ≠ 0 ∧ (x = 0 ∨ vl p y ≤ vl p x) := by
  constructor
  · rintro ⟨t, u, v, rfl, rfl, hv⟩
    have hz := pow_ne hp.two t
    have v0 : v ≠ 0 := fun h => hv (by rw [h]; exact Int.dvd_zero _)
    refine ⟨Int.mul_ne_zero hz v0, ?_⟩
    by_cases h : u = 0
    · left; rw [h, Int.mul_zero]
    · right
      rw [vl_pow_mul hp.two _ v0, vl_pow_mul hp.two _ h, show vl p v = 0 from vl_unique (m := v) hp.two v0 (by simp) hv]; omega
  · rintro ⟨h0, h⟩
    obtain ⟨v, e, hv⟩ := vl_spec hp.two h0
    obtain ⟨u, hu⟩ := pow_dvd_vl hp.two h
    exact ⟨_, u, v, hu, e, hv⟩

noncomputable instance (p : Int) (X : M2) (x y : Int) : Decidable (Has p X x y) := Classical.propDecidable _
def HasS (p : Int) (s : Side) (e : End') : Prop := Has p (sM p s) e.c0 e.c1
noncomputable instance (p : Int) (s : Side) (e : End') : Decidable (HasS p s e) := Classical.propDecidable _
theorem has_bM {p x y : Int} {b : Siii} (hb : isB p b) : Has p (bM p b) x y ↔ y ≠ 0 ∧ (x * p ^ 6 - mkB p b * y = 0 ∨ lvB b + vl p y ≤ vl p (x * p ^ 6 - mkB p b * y)) := by
  have hp := hb.1
  unfold Has
  have e1 : (bM p b).adj.a * x + (bM p b).adj.b * y = x * p ^ 6 - mkB p b * y := by
    unfold bM mB ofB adj mkB; simp only; grind
  have e2 : (bM p b).adj.c * x + (bM p b).adj.d * y = p ^ lvB b * y := by
    unfold bM mB ofB adj lvB; simp only; grind
  rw [e1, e2, in_iff hp]
  have hz := pow_ne hp.two (lvB b)
  constructor
  · rintro ⟨h, h'⟩
    have hy : y ≠ 0 := fun h0 => h (by rw [h0, Int.mul_zero])
    rw [vl_pow_mul hp.two _ hy] at h'
    exact ⟨hy, h'⟩
  · rintro ⟨hy, h'⟩
    rw [vl_pow_mul hp.two _ hy]
    exact ⟨Int.mul_ne_zero hz hy, h'⟩

theorem near_big {p : Int} {b : Siii} {e : End'} (hb : isB p b) (he : isE e) : W (W (e.c0 * p ^ 6) - W (mkB p b * e.c1)) = e.c0 * p ^ 6 - mkB p b * e.c1 ∧ big63 (e.c0 * p ^ 6 - mkB p b * e.c1) := by
  have h6 := p6_le hb.1
  have hm := mkB_range hb
  have hm2 := mkB_le hb
  have hb := isE_small he
  have h1 := mul_small (m := 1000000) (n := 117649) hb.1 (y := p ^ 6) (by unfold small; omega) (by omega)
  have h2 := mul_small (m := 13841287201) (n := 1000000) (x := mkB p b) (y := e.c1) (by unfold small; omega) (by unfold small; omega) (by omega)
  unfold small at h1 h2
  rw [W_id (n := e.c0 * p ^ 6) (by omega) (by omega), W_id (n := mkB p b * e.c1) (by omega) (by omega), W_id (by omega) (by omega)]
  exact ⟨rfl, by unfold big63; omega⟩

theorem impl_held_f {p : Int} {b : Siii} {e : End'} (hb : isB p b) (he : isE e) : impl_held.f p b e = some (decide (Has p (bM p b) e.c0 e.c1)) := by
  unfold impl_held.f
  have hL := hb.lv
  by_cases h0 : e.c1 = 0
  · rw [bne_eq h0, ifE_f, decide_eq_false]
    intro h; exact ((has_bM hb).1 h).1 h0
  · rw [bne_ne h0, ifE_t]
    unfold impl_nearness.f
    obtain ⟨w, bg⟩ := near_big hb he
    rw [impl_power_f hb.1 (by omega) (by omega), Option.bind_some, impl_mark_f hb, Option.bind_some, show Int.toNat 6 = 6 from rfl, w]
    by_cases hz : e.c0 * p ^ 6 - mkB p b * e.c1 = 0
    · rw [show (e.c0 * p ^ 6 - mkB p b * e.c1 == 0) = true from by simpa using hz, ifE_t, Option.bind_some, decide_eq_true (p := (1000 : Int) ≥ b.c0) (by omega), decide_eq_true ((has_bM hb).2 ⟨h0, .inl hz⟩)]
    · have be : big63 e.c1 := by have := isE_small he; unfold big63; omega
      have v1 := vl_lt hb.1 hz bg
      have v2 := vl_lt hb.1 h0 be
      rw [beq_ne hz, ifE_f, impl_valuation_f hb.1 hz bg, Option.bind_some, impl_valuation_f hb.1 h0 be, Option.bind_some, W_id (n := (vl p (e.c0 * p ^ 6 - mkB p b * e.c1) : Int) - vl p e.c1) (by omega) (by omega), W_id (by omega) (by omega), Option.bind_some]
      congr 1; rw [decide_eq_decide, has_bM hb]
      have := nL_int hL
      unfold lvB
      constructor
      · intro h; exact ⟨h0, .inr (by omega)⟩
      · rintro ⟨-, h | h⟩
        · exact absurd h hz
        · omega

theorem spec_l02Meet_f {p : Int} {b : Siii} {e : End'} (hb : isB p b) (he : isE e) (h0 : e.c1 ≠ 0) : ∃ r, spec_l02Meet.f p b e = some r ∧ (r == b.c0) = decide (Has p (bM p b) e.c0 e.c1) := by
  unfold spec_l02Meet.f
  have hL := hb.lv
  have hd := hb.dn
  have hp := hb.1
  have nl := nL_int hL
  have hpw := pow12 hb.1 (k := b.c2.toNat) (by omega)
  obtain ⟨-, bg⟩ := near_big hb he
  have sc : e.c0 * p ^ 6 - mkB p b * e.c1 = p ^ (6 - b.c2).toNat * (e.c0 * p ^ b.c2.toNat - b.c1 * e.c1) := by
    have e6 : p ^ 6 = p ^ (6 - b.c2).toNat * p ^ b.c2.toNat := by rw [← Int.pow_add, show (6 - b.c2).toNat + b.c2.toNat = 6 from by omega]
    unfold mkB Pl.mk; rw [e6]; grind
  have hz6 := pow_ne hp.two (6 - b.c2).toNat
  have ht := isB_T hb
  have hs := isE_small he
  have h1 := mul_small (m := 1000000) (n := 13841287201) hs.1 (y := p ^ b.c2.toNat) (by unfold small; omega) (by omega)
  have h2 := mul_small (m := 13841287201) (n := 1000000) (x := b.c1) (y := e.c1) (by unfold small; omega) (by unfold small; omega) (by omega)
  unfold small at h1 h2
  rw [spec_power_f hp hd.1 (by omega), Option.bind_some, W_id (n := e.c0 * p ^ b.c2.toNat) (by omega) (by omega), W_id (n := b.c1 * e.c1) (by omega) (by omega), W_id (n := e.c0 * p ^ b.c2.toNat - b.c1 * e.c1) (by omega) (by omega)]
  by_cases hz : e.c0 * p ^ b.c2.toNat - b.c1 * e.c1 = 0
  · rw [show (e.c0 * p ^ b.c2.toNat - b.c1 * e.c1 == 0) = true from by simpa using hz, ifE_t]
    refine ⟨_, rfl, ?_⟩
    rw [decide_eq_true ((has_bM hb).2 ⟨h0, .inl (by rw [sc, hz, Int.mul_zero])⟩)]; simp
  · have be : big63 e.c1 := by unfold big63; omega
    have bg2 : big63 (e.c0 * p ^ b.c2.toNat - b.c1 * e.c1) := by unfold big63; omega
    have v1 := vl_lt hp hz bg2
    have v2 := vl_lt hp h0 be
    rw [beq_ne hz, ifE_f, spec_val_f hp hz bg2, Option.bind_some, spec_val_f hp h0 be, Option.bind_some, W_id (n := (vl p (e.c0 * p ^ b.c2.toNat - b.c1 * e.c1) : Int) - vl p e.c1) (by omega) (by omega), W_id (by omega) (by omega)]
    refine ⟨_, rfl, ?_⟩
    have ev : vl p (e.c0 * p ^ 6 - mkB p b * e.c1) = (6 - b.c2).toNat + vl p (e.c0 * p ^ b.c2.toNat - b.c1 * e.c1) := by rw [sc, vl_pow_mul hp.two _ hz]
    have hnz : e.c0 * p ^ 6 - mkB p b * e.c1 ≠ 0 := by rw [sc]; exact Int.mul_ne_zero hz6 hz
    generalize e.c0 * p ^ b.c2.toNat - b.c1 * e.c1 = N at *
    rw [Bool.eq_iff_iff, decide_eq_true_eq, has_bM hb, ev]
    unfold lvB
    have : (imin b.c0 ((vl p N : Int) - vl p e.c1 - b.c2) = b.c0) ↔ b.c0 ≤ (vl p N : Int) - vl p e.c1 - b.c2 := by unfold imin; split <;> omega
    rw [beq_iff_eq, this]
    constructor
    · intro h; exact ⟨h0, .inr (by omega)⟩
    · rintro ⟨-, h | h⟩
      · exact absurd h hnz
      · omega

theorem has_sM {p : Int} {s : Side} {e : End'} (hs : isS p s) (he : isE e) : decide (HasS p s e) = !(decide (Has p (bM p (bl s)) e.c0 e.c1) == s.c3) := by
  have k : HasS p s e ↔ (Has p (bM p (bl s)) e.c0 e.c1 ↔ s.c3 = false) := by
    unfold HasS sM
    cases s.c3
    · simp
    · rw [if_pos rfl, Has.turn hs.1 (bM_ne hs) (isE_ne he)]; simp
  by_cases h : Has p (bM p (bl s)) e.c0 e.c1 <;> rcases Bool.eq_false_or_eq_true s.c3 with hc | hc <;> simp [k, h, hc]

theorem impl_sideHas_f {p : Int} {s : Side} {e : End'} (hs : isS p s) (he : isE e) : impl_sideHas.f p s e = some (decide (HasS p s e)) := by
  unfold impl_sideHas.f
  rw [show (⟨s.c0, s.c1, s.c2⟩ : Siii) = bl s from rfl, impl_held_f hs he, Option.bind_some, has_sM hs he]

theorem spec_l09Has_f {p : Int} {s : Side} {e : End'} (hs : isS p s) (he : isE e) : spec_l09Has.f p s e = some (decide (HasS p s e)) := by
  unfold spec_l09Has.f
  rw [has_sM hs he]
  by_cases h0 : e.c1 = 0
  · rw [show (e.c1 == 0) = true from by simpa using h0, ifE_t, decide_eq_false fun h => ((has_bM hs).1 h).1 h0]; cases s.c3 <;> rfl
  · rw [beq_ne h0, ifE_f, show (⟨s.c0, s.c1, s.c2⟩ : Siii) = bl s from rfl]
    obtain ⟨r, h, h'⟩ := spec_l02Meet_f hs he h0
    rw [h, Option.bind_some, show (r == s.c0) = decide (Has p (bM p (bl s)) e.c0 e.c1) from h']

noncomputable def hasE (p : Int) (s : Side) (e : End') : Bool × Int := if isS p s ∧ isE e then (decide (HasS p s e), 0) else (false, 1)
theorem impl_SideHas_f (p : Int) (s : Side) (e : End') : impl_SideHas.f p s e = some (hasE p s e) := by
  unfold impl_SideHas.f hasE
  rw [impl_areSides_f (by simp), Option.bind_some, all1]
  by_cases hs : isS p s
  · rw [decide_eq_true hs, Bool.not_true, ifE_f, impl_IsEnd_f, Option.bind_some]
    by_cases he : isE e
    · rw [decide_eq_true he, Bool.not_true, ifE_f, impl_sideHas_f hs he, if_pos ⟨hs, he⟩]; rfl
    · rw [decide_eq_false he, if_neg fun h => he h.2]; rfl
  · rw [decide_eq_false hs, if_neg fun h => hs h.1]; rfl
theorem spec_SideHas_f (p : Int) (s : Side) (e : End') : spec_SideHas.f p s e = some (hasE p s e) := by
  unfold spec_SideHas.f hasE
  rw [spec_l09Code_f (by simp), Option.bind_some]
  by_cases hs : isS p s
  · rw [if_pos ⟨hs.1, by simp [hs]⟩, bne_eq rfl, ifE_f, spec_l01End_f, Option.bind_some]
    by_cases he : isE e
    · rw [decide_eq_true he, Bool.not_true, ifE_f, spec_l09Has_f hs he, if_pos ⟨hs, he⟩]; rfl
    · rw [decide_eq_false he, if_neg fun h => he h.2]; rfl
  · rw [if_neg fun h => hs (by simpa using h.2), if_neg fun h => hs h.1]; rfl

end Go.Gn
end
section
set_option linter.unusedVariables false
set_option linter.unusedSimpArgs false
/-! plain: the paired mover -/
namespace Go.Gn
open Go Go.Eng Pl Pl.M2

/-! the loops of the spec's normal form -/
section
variable {v z0 z1 z2 z3 a b c d : Int}
theorem p8_0 {k : Nat} (he : big a) (hv : big v) : spec_l09Paired.l8 (k + 1) v 0 z0 z1 z2 z3 a b c d = spec_l09Paired.l8 k (Int.gcd a v : Int) 1 z0 z1 z2 z3 a b c d := by
  simp only [spec_l09Paired.l8, spec_l09Paired.s8]
  rw [ifE_pos (by omega), show ((0 : Int) == 0) = true from rfl, ifE_t, spec_gcd_f he hv, Option.bind_some]
  by_cases h0 : a = 0
  · rw [bne_eq h0, ifE_f]
    by_cases h1 : v = 0
    · rw [bne_eq h1, ifE_f, h0, h1]; rfl
    · rw [bne_ne h1, ifE_t]; rfl
  · rw [bne_ne h0, ifE_t]; rfl
theorem p8_1 {k : Nat} (he : big b) (hv : big v) : spec_l09Paired.l8 (k + 1) v 1 z0 z1 z2 z3 a b c d = spec_l09Paired.l8 k (Int.gcd b v : Int) 2 z0 z1 z2 z3 a b c d := by
  simp only [spec_l09Paired.l8, spec_l09Paired.s8]
  rw [ifE_pos (by omega), show ((1 : Int) == 0) = false from rfl, ifE_f, show ((1 : Int) == 1) = true from rfl, ifE_t, spec_gcd_f he hv, Option.bind_some]
  by_cases h0 : b = 0
  · rw [bne_eq h0, ifE_f]
    by_cases h1 : v = 0
    · rw [bne_eq h1, ifE_f, h0, h1]; rfl
    · rw [bne_ne h1, ifE_t]; rfl
  · rw [bne_ne h0, ifE_t]; rfl
theorem p8_2 {k : Nat} (he : big c) (hv : big v) : spec_l09Paired.l8 (k + 1) v 2 z0 z1 z2 z3 a b c d = spec_l09Paired.l8 k (Int.gcd c v : Int) 3 z0 z1 z2 z3 a b c d := by
  simp only [spec_l09Paired.l8, spec_l09Paired.s8]
  rw [ifE_pos (by omega), show ((2 : Int) == 0) = false from rfl, ifE_f, show ((2 : Int) == 1) = false from rfl, ifE_f, show ((2 : Int) == 2) = true from rfl, ifE_t, spec_gcd_f he hv, Option.bind_some]
  by_cases h0 : c = 0
  · rw [bne_eq h0, ifE_f]
    by_cases h1 : v = 0
    · rw [bne_eq h1, ifE_f, h0, h1]; rfl
    · rw [bne_ne h1, ifE_t]; rfl
  · rw [bne_ne h0, ifE_t]; rfl
theorem p8_3 {k : Nat} (he : big d) (hv : big v) : spec_l09Paired.l8 (k + 1) v 3 z0 z1 z2 z3 a b c d = spec_l09Paired.l8 k (Int.gcd d v : Int) 4 z0 z1 z2 z3 a b c d := by
  simp only [spec_l09Paired.l8, spec_l09Paired.s8]
  rw [ifE_pos (by omega), show ((3 : Int) == 0) = false from rfl, ifE_f, show ((3 : Int) == 1) = false from rfl, ifE_f, show ((3 : Int) == 2) = false from rfl, ifE_f, show ((3 : Int) == 3) = true from rfl, ifE_t, spec_gcd_f he hv, Option.bind_some]
  by_cases h0 : d = 0
  · rw [bne_eq h0, ifE_f]
    by_cases h1 : v = 0
    · rw [bne_eq h1, ifE_f, h0, h1]; rfl
    · rw [bne_ne h1, ifE_t]; rfl
  · rw [bne_ne h0, ifE_t]; rfl
theorem p8 (ha : big a) (hb : big b) (hc : big c) (hd : big d) : spec_l09Paired.l8 fuelN 0 0 z0 z1 z2 z3 a b c d = spec_l09Paired.l13 fuelN (⟨a, b, c, d⟩ : M2).cont 0 z0 z1 z2 z3 a b c d := by
  obtain ⟨k, hk⟩ := fuel_succ 5 (by omega)
  have h0 : big 0 := by unfold big; omega
  have y1 := gcd_big ha h0
  have y2 := gcd_big hb y1
  have y3 := gcd_big hc y2
  have y4 := gcd_big hd y3
  have e : (⟨a, b, c, d⟩ : M2).cont = ((Int.gcd d (Int.gcd c (Int.gcd b (Int.gcd a 0 : Int) : Int) : Int) : Nat) : Int) := by
    unfold cont
    simp only [Int.gcd, Int.natAbs_zero, Nat.gcd_zero_right, Int.natAbs_natCast]
    congr 1
    generalize a.natAbs = a
    generalize b.natAbs = b
    generalize c.natAbs = c
    generalize d.natAbs = d
    ac_rfl
  rw [e]
  conv => lhs; rw [hk]
  rw [p8_0 ha h0, p8_1 hb y1, p8_2 hc y2, p8_3 hd y3]
  simp only [spec_l09Paired.l8, spec_l09Paired.s8]
  rw [ifE_neg (by omega)]

theorem p13 (h : (⟨a, b, c, d⟩ : M2).det ≠ 0) (hc : (⟨a, b, c, d⟩ : M2).cont ≤ 9223372036854775807 ∧ 0 ≤ (⟨a, b, c, d⟩ : M2).cont) : spec_l09Paired.l13 fuelN (⟨a, b, c, d⟩ : M2).cont 0 z0 z1 z2 z3 a b c d = spec_l09Paired.l19 fuelN (⟨a, b, c, d⟩ : M2).kof 0 z0 z1 z2 z3 a b c d := by
  obtain ⟨k, hk⟩ := fuel_succ 2 (by omega)
  have hr := row_ne h
  simp only at hr
  have hw : W (0 - (⟨a, b, c, d⟩ : M2).cont) = -(⟨a, b, c, d⟩ : M2).cont := by rw [W_id (by omega) (by omega)]; omega
  have kn : ∀ hn : a < 0 ∨ a = 0 ∧ b < 0, (⟨a, b, c, d⟩ : M2).kof = -(⟨a, b, c, d⟩ : M2).cont := by
    intro hn; unfold kof sgn; rw [if_pos hn]; omega
  have kp : ∀ hn : ¬ (a < 0 ∨ a = 0 ∧ b < 0), (⟨a, b, c, d⟩ : M2).kof = (⟨a, b, c, d⟩ : M2).cont := by
    intro hn; unfold kof sgn; rw [if_neg hn]; omega
  conv => lhs; rw [hk]
  generalize (⟨a, b, c, d⟩ : M2).cont = q at *
  generalize (⟨a, b, c, d⟩ : M2).kof = r at *
  simp only [spec_l09Paired.l13, spec_l09Paired.s13]
  rw [ifE_pos (by omega), show ((0 : Int) == 0) = true from rfl, ifE_t]
  by_cases ha : a = 0
  · rw [bne_eq ha, ifE_f, show W (0 + 1) = 1 from rfl, ifE_pos (by omega), show ((1 : Int) == 0) = false from rfl, ifE_f, show ((1 : Int) == 1) = true from rfl, ifE_t, bne_ne (by omega : b ≠ 0), ifE_t]
    by_cases hn : b < 0
    · rw [ifE_pos hn, hw, kn (.inr ⟨ha, hn⟩)]
    · rw [ifE_neg hn, kp (by omega)]
  · rw [bne_ne ha, ifE_t]
    by_cases hn : a < 0
    · rw [ifE_pos hn, hw, kn (.inl hn)]
    · rw [ifE_neg hn, kp (by omega)]

theorem p19 {D : Int} (hD : D ≠ 0) {a' b' c' d' : Int} (ea : W (Int.tdiv a D) = a') (eb : W (Int.tdiv b D) = b') (ec : W (Int.tdiv c D) = c') (ed : W (Int.tdiv d D) = d') :
    spec_l09Paired.l19 fuelN D 0 z0 z1 z2 z3 a b c d = some (if fitM 1000 ⟨a', b', c', d'⟩ then (⟨a', b', c', d'⟩, true) else (zM, false)) := by
  obtain ⟨k, hk⟩ := fuel_succ 5 (by omega)
  rw [hk]
  have hin (x : Int) : spec_l01In.f x (-1000) 1000 = some (decide (small 1000 x)) := by rw [spec_l01In_f]; rfl
  simp only [spec_l09Paired.l19, spec_l09Paired.s19]
  rw [ifE_pos (by omega), show ((0 : Int) == 0) = true from rfl, ifE_t, guardE_pos hD, ea]
  simp only [spec_l09Paired.j22]
  rw [show ((0 : Int) == 0) = true from rfl, ifE_t, hin, Option.bind_some]
  by_cases s1 : small 1000 a'
  case neg => rw [decide_eq_false s1, Bool.not_false, ifE_t, if_neg fun h => s1 h.1]; rfl
  rw [decide_eq_true s1, Bool.not_true, ifE_f, show W (0 + 1) = 1 from rfl, spec_l09Paired.s19, ifE_pos (by omega), show ((1 : Int) == 0) = false from rfl, ifE_f, show ((1 : Int) == 1) = true from rfl, ifE_t, guardE_pos hD, eb, spec_l09Paired.j22, show ((1 : Int) == 0) = false from rfl, show ((1 : Int) == 1) = true from rfl, ifE_f, ifE_t, hin, Option.bind_some]
  by_cases s2 : small 1000 b'
  case neg => rw [decide_eq_false s2, Bool.not_false, ifE_t, if_neg fun h => s2 h.2.1]; rfl
  rw [decide_eq_true s2, Bool.not_true, ifE_f, show W (1 + 1) = 2 from rfl, spec_l09Paired.s19, ifE_pos (by omega), show ((2 : Int) == 0) = false from rfl, ifE_f, show ((2 : Int) == 1) = false from rfl, ifE_f, show ((2 : Int) == 2) = true from rfl, ifE_t, guardE_pos hD, ec, spec_l09Paired.j22, show ((2 : Int) == 0) = false from rfl, show ((2 : Int) == 1) = false from rfl, show ((2 : Int) == 2) = true from rfl, ifE_f, ifE_f, ifE_t, hin, Option.bind_some]
  by_cases s3 : small 1000 c'
  case neg => rw [decide_eq_false s3, Bool.not_false, ifE_t, if_neg fun h => s3 h.2.2.1]; rfl
  rw [decide_eq_true s3, Bool.not_true, ifE_f, show W (2 + 1) = 3 from rfl, spec_l09Paired.s19, ifE_pos (by omega), show ((3 : Int) == 0) = false from rfl, ifE_f, show ((3 : Int) == 1) = false from rfl, ifE_f, show ((3 : Int) == 2) = false from rfl, ifE_f, show ((3 : Int) == 3) = true from rfl, ifE_t, guardE_pos hD, ed, spec_l09Paired.j22, show ((3 : Int) == 0) = false from rfl, show ((3 : Int) == 1) = false from rfl, show ((3 : Int) == 2) = false from rfl, show ((3 : Int) == 3) = true from rfl, ifE_f, ifE_f, ifE_f, ifE_t, hin, Option.bind_some]
  by_cases s4 : small 1000 d'
  case neg => rw [decide_eq_false s4, Bool.not_false, ifE_t, if_neg fun h => s4 h.2.2.2]; rfl
  rw [decide_eq_true s4, Bool.not_true, ifE_f, show W (3 + 1) = 4 from rfl, spec_l09Paired.s19, ifE_neg (by omega), if_pos ⟨s1, s2, s3, s4⟩]

theorem spec_pnorm (h : (⟨a, b, c, d⟩ : M2).det ≠ 0) (hb : fitM 4611686018427387904 ⟨a, b, c, d⟩) : spec_l09Paired.l8 fuelN 0 0 z0 z1 z2 z3 a b c d = some (if fitM 1000 (red ⟨a, b, c, d⟩) then (ofM (red ⟨a, b, c, d⟩), true) else (zM, false)) := by
  have hcl := cont_le h hb
  obtain ⟨b1, b2, b3, b4⟩ := fit_big hb (by omega)
  rw [p8 b1 b2 b3 b4, p13 h (by omega)]
  have hk := kof_ne h
  have hkd := kof_dvd (⟨a, b, c, d⟩ : M2)
  have hf := red_fit h hb
  have val : ∀ e : Int, (⟨a, b, c, d⟩ : M2).kof ∣ e → small 4611686018427387904 (e / (⟨a, b, c, d⟩ : M2).kof) → W (Int.tdiv e (⟨a, b, c, d⟩ : M2).kof) = e / (⟨a, b, c, d⟩ : M2).kof := by
    intro e he hs
    unfold small at hs
    rw [tdiv_eq he, W_id (by omega) (by omega)]
  rw [p19 hk (val a hkd.1 hf.1) (val b hkd.2.1 hf.2.1) (val c hkd.2.2.1 hf.2.2.1) (val d hkd.2.2.2 hf.2.2.2)]
  rfl
end
end Go.Gn
end
section
set_option linter.unusedVariables false
set_option linter.unusedSimpArgs false
/-! plain: the paired mover, 2 -/
namespace Go.Gn
open Go Go.Eng Pl Pl.M2

def posP (a b : Siii) : Nat := (a.c0 + b.c0 - 1).toNat
def negP (a b : Siii) : Nat := (-(a.c0 + b.c0 - 1)).toNat
def MP (p : Int) (a b : Siii) : M2 :=
  ⟨b.c1 * p ^ a.c2.toNat * p ^ negP a b, p ^ posP a b * p ^ a.c2.toNat * p ^ b.c2.toNat - a.c1 * b.c1 * p ^ negP a b, p ^ a.c2.toNat * p ^ b.c2.toNat * p ^ negP a b, -a.c1 * p ^ b.c2.toNat * p ^ negP a b⟩

theorem MP_det (p : Int) (a b : Siii) : (MP p a b).det = -(p ^ posP a b * (p ^ a.c2.toNat * p ^ b.c2.toNat) * (p ^ a.c2.toNat * p ^ b.c2.toNat * p ^ negP a b)) := by
  unfold MP det; simp only; grind
theorem MP_ne {p : Int} {a b : Siii} (hp : IsP p) : (MP p a b).det ≠ 0 := by
  rw [MP_det]
  have h (k : Nat) := pow_ne hp.two k
  have := Int.mul_ne_zero (Int.mul_ne_zero (h (posP a b)) (Int.mul_ne_zero (h a.c2.toNat) (h b.c2.toNat))) (Int.mul_ne_zero (Int.mul_ne_zero (h a.c2.toNat) (h b.c2.toNat)) (h (negP a b)))
  omega

/-- a fraction over a power, reduced -/
theorem fr_red {p : Int} (hp : IsP p) : ∀ (K : Nat) (v : Int), ∃ (n : Int) (k : Nat), n * p ^ K = v * p ^ k ∧ k ≤ K ∧ (k = 0 ∨ ¬ p ∣ n) := by
  intro K
  induction K with
  | zero => intro v; exact ⟨v, 0, rfl, by omega, .inl rfl⟩
  | succ K ih =>
    intro v
    by_cases h : p ∣ v
    · obtain ⟨w, rfl⟩ := h
      obtain ⟨n, k, e, h1, h2⟩ := ih w
      exact ⟨n, k, by rw [Int.pow_succ]; grind, by omega, h2⟩
    · exact ⟨v, K + 1, rfl, by omega, .inr h⟩

def NP (p : Int) (a b : Siii) (n : Int) (k s : Nat) : M2 := ⟨b.c1 * p ^ (s - b.c2.toNat), n * p ^ (s - k), p ^ s, -a.c1 * p ^ (s - a.c2.toNat)⟩
def sP (a b : Siii) (k : Nat) : Nat := max (max a.c2.toNat b.c2.toNat) k

section
variable {p : Int} {a b : Siii} (ha : isB p a) (hb : isB p b) {n : Int} {k : Nat}
  (hfr : n * (p ^ a.c2.toNat * p ^ b.c2.toNat * p ^ negP a b) = (MP p a b).b * p ^ k) (hk : k = 0 ∨ ¬ p ∣ n)
include ha hb hfr hk

omit ha hb hk in
theorem NP_smul : smul (p ^ a.c2.toNat * p ^ b.c2.toNat * p ^ negP a b) (NP p a b n k (sP a b k)) = smul (p ^ sP a b k) (MP p a b) := by
  have e1 : p ^ sP a b k = p ^ (sP a b k - b.c2.toNat) * p ^ b.c2.toNat := by rw [← Int.pow_add]; congr 1; unfold sP; omega
  have e2 : p ^ sP a b k = p ^ (sP a b k - a.c2.toNat) * p ^ a.c2.toNat := by rw [← Int.pow_add]; congr 1; unfold sP; omega
  have e3 : p ^ sP a b k = p ^ (sP a b k - k) * p ^ k := by rw [← Int.pow_add]; congr 1; unfold sP; omega
  ext
  · show _ * (b.c1 * p ^ (sP a b k - b.c2.toNat)) = p ^ sP a b k * (b.c1 * p ^ a.c2.toNat * p ^ negP a b)
    rw [e1]; grind
  · show _ * (n * p ^ (sP a b k - k)) = p ^ sP a b k * (MP p a b).b
    rw [e3]
    calc _ = n * (p ^ a.c2.toNat * p ^ b.c2.toNat * p ^ negP a b) * p ^ (sP a b k - k) := by grind
      _ = _ := by rw [hfr]; grind
  · show _ * p ^ sP a b k = p ^ sP a b k * (p ^ a.c2.toNat * p ^ b.c2.toNat * p ^ negP a b)
    grind
  · show _ * (-a.c1 * p ^ (sP a b k - a.c2.toNat)) = p ^ sP a b k * (-a.c1 * p ^ b.c2.toNat * p ^ negP a b)
    rw [e2]; grind

omit hb hk in
theorem NP_det : (NP p a b n k (sP a b k)).det ≠ 0 := by
  intro h
  have h1 := congrArg M2.det (NP_smul hfr)
  rw [det_smul, det_smul, h, Int.mul_zero] at h1
  have hp := ha.1
  have hz := pow_ne hp.two (sP a b k)
  exact Int.mul_ne_zero (Int.mul_ne_zero hz hz) (MP_ne hp) h1.symm

omit hb hk in
theorem NP_red : red (NP p a b n k (sP a b k)) = red (MP p a b) := by
  have hp := ha.1
  have h (k : Nat) := pow_ne hp.two k
  rw [← red_smul (s := p ^ a.c2.toNat * p ^ b.c2.toNat * p ^ negP a b) (Int.mul_ne_zero (Int.mul_ne_zero (h _) (h _)) (h _)) (NP_det ha hfr), NP_smul hfr, red_smul (h _) (MP_ne hp)]

omit hfr in
theorem NP_kof : (NP p a b n k (sP a b k)).kof = 1 ∨ (NP p a b n k (sP a b k)).kof = -1 := by
  have hp := ha.1
  have hd := kof_dvd (NP p a b n k (sP a b k))
  generalize (NP p a b n k (sP a b k)).kof = q at hd
  by_cases hq : p ∣ q
  · exfalso
    obtain ⟨h1, h2, h3, h4⟩ := hd
    have h1 : p ∣ b.c1 * p ^ (sP a b k - b.c2.toNat) := Int.dvd_trans hq h1
    have h2 : p ∣ n * p ^ (sP a b k - k) := Int.dvd_trans hq h2
    have h3 : p ∣ p ^ sP a b k := Int.dvd_trans hq h3
    have h4 : p ∣ -a.c1 * p ^ (sP a b k - a.c2.toNat) := Int.dvd_trans hq h4
    have h2p := hp.two
    have d1 := ha.dn
    have d2 := hb.dn
    have one : ¬ p ∣ 1 := fun h => by have := Int.le_of_dvd (by omega) h; omega
    have hs : 0 < sP a b k := by
      rcases Nat.eq_zero_or_pos (sP a b k) with h | h
      · rw [h, Int.pow_zero] at h3; exact absurd h3 one
      · exact h
    have na : a.c2.toNat = 0 ∨ ¬ p ∣ a.c1 := by
      rcases ha.2.2.2 with ⟨-, -, h⟩ | ⟨-, -, -, h | h⟩
      · exact .inl (by omega)
      · exact .inl (by omega)
      · exact .inr h
    have nb : b.c2.toNat = 0 ∨ ¬ p ∣ b.c1 := by
      rcases hb.2.2.2 with ⟨-, -, h⟩ | ⟨-, -, -, h | h⟩
      · exact .inl (by omega)
      · exact .inl (by omega)
      · exact .inr h
    have hc : sP a b k = a.c2.toNat ∨ sP a b k = b.c2.toNat ∨ sP a b k = k := by unfold sP; omega
    rcases hc with h | h | h
    · rw [show sP a b k - a.c2.toNat = 0 from by omega, Int.pow_zero, Int.mul_one, Int.dvd_neg] at h4
      rcases na with g | g
      · omega
      · exact g h4
    · rw [show sP a b k - b.c2.toNat = 0 from by omega, Int.pow_zero, Int.mul_one] at h1
      rcases nb with g | g
      · omega
      · exact g h1
    · rw [show sP a b k - k = 0 from by omega, Int.pow_zero, Int.mul_one] at h2
      rcases hk with g | g
      · omega
      · exact g h2
  · have h3 : q ∣ p ^ sP a b k := hd.2.2.1
    have h5 := gcd_pow hp hq (sP a b k)
    have h6 : (Int.gcd q (p ^ sP a b k) : Int) = q.natAbs := by
      have := Int.gcd_eq_natAbs_left h3
      omega
    omega

theorem NP_fit (m : Int) : fitM m (red (MP p a b)) ↔ fitM m (NP p a b n k (sP a b k)) := by
  have e := red_smul_kof (NP p a b n k (sP a b k))
  rw [← NP_red ha hfr]
  have h := NP_kof ha hb hk
  generalize NP p a b n k (sP a b k) = N at *
  have hs : ∀ x : Int, small m (-1 * x) ↔ small m x := by intro x; unfold small; omega
  have h1 : ∀ x : Int, small m (1 * x) ↔ small m x := by intro x; rw [Int.one_mul]
  conv => rhs; rw [← e]
  unfold fitM smul
  rcases h with h | h <;> rw [h]
  · simp only [h1]
  · simp only [hs]
end

theorem pow23 {p : Int} (hp : IsP p) {k : Nat} (h : k ≤ 23) (h7 : p = 7 → k ≤ 22) : 1 ≤ p ^ k ∧ p ^ k ≤ 3909821048582988049 := by
  have a := pow_pos hp.two k
  refine ⟨by omega, ?_⟩
  rcases hp with rfl | rfl | rfl | rfl
  · have := pow_mono (p := 2) (by omega) h; have e : (2 : Int) ^ 23 = 8388608 := by decide
    omega
  · have := pow_mono (p := 3) (by omega) h; have e : (3 : Int) ^ 23 = 94143178827 := by decide
    omega
  · have := pow_mono (p := 5) (by omega) h; have e : (5 : Int) ^ 23 = 11920928955078125 := by decide
    omega
  · have := pow_mono (p := 7) (by omega) (h7 rfl); have e : (7 : Int) ^ 22 = 3909821048582988049 := by decide
    omega

theorem isB_T2 {p : Int} {b : Siii} (h : isB p b) : ∃ m : Nat, 0 ≤ b.c1 ∧ b.c1 ≤ p ^ m ∧ (m = 0 ∧ b.c1 = 0 ∧ b.c0 + b.c2 ≤ 0 ∧ b.c2 = 0 ∨ (m : Int) = b.c0 + b.c2 ∧ 0 < b.c0 + b.c2) := by
  rcases h.2.2.2 with ⟨h1, h2, h3⟩ | ⟨h1, h2, h3, -⟩
  · exact ⟨0, by omega, by rw [Int.pow_zero]; omega, .inl ⟨rfl, h2, h1, h3⟩⟩
  · exact ⟨(b.c0 + b.c2).toNat, h2, by omega, .inr (by omega)⟩

theorem mul2 {x y u v : Int} (h0 : 0 ≤ x) (h : x ≤ y) (k0 : 0 ≤ u) (k : u ≤ v) : 0 ≤ x * u ∧ x * u ≤ y * v := ⟨Int.mul_nonneg h0 k0, Int.mul_le_mul h k k0 (by omega)⟩

section
variable {p : Int} {a b : Siii} (ha : isB p a) (hb : isB p b) (h7 : p = 7 → a.c2 + b.c2 ≠ 12) (ta : a.c1 ≤ 1000000) (tb : b.c1 ≤ 1000000)
include ha hb h7 ta tb

theorem MP_fit : W (W (b.c1 * p ^ a.c2.toNat) * p ^ negP a b) = (MP p a b).a ∧
    W (W (W (p ^ posP a b * p ^ a.c2.toNat) * p ^ b.c2.toNat) - W (W (a.c1 * b.c1) * p ^ negP a b)) = (MP p a b).b ∧
    W (W (p ^ a.c2.toNat * p ^ b.c2.toNat) * p ^ negP a b) = (MP p a b).c ∧
    W (W (W (0 - a.c1) * p ^ b.c2.toNat) * p ^ negP a b) = (MP p a b).d ∧ fitM 4611686018427387904 (MP p a b) := by
  have hp := ha.1
  have la := ha.lv
  have lb := hb.lv
  have da := ha.dn
  have db := hb.dn
  obtain ⟨ma, a0, a1, ea⟩ := isB_T2 ha
  obtain ⟨mb, b0, b1, eb⟩ := isB_T2 hb
  have hneg : (negP a b : Int) = max (1 - a.c0 - b.c0) 0 := by unfold negP; omega
  have hpos : (posP a b : Int) = max (a.c0 + b.c0 - 1) 0 := by unfold posP; omega
  have hxa : (a.c2.toNat : Int) = a.c2 := by omega
  have hxb : (b.c2.toNat : Int) = b.c2 := by omega
  have P (k : Nat) : 0 < p ^ k := pow_pos hp.two k
  unfold MP
  simp only
  generalize negP a b = ng at *
  generalize posP a b = ps at *
  generalize a.c2.toNat = xa at *
  generalize b.c2.toNat = xb at *
  -- a
  have A1 := mul2 b0 b1 (Int.le_of_lt (P xa)) (Int.le_refl _)
  have A2 := mul2 A1.1 A1.2 (Int.le_of_lt (P ng)) (Int.le_refl _)
  rw [← Int.pow_add] at A1 A2
  rw [← Int.pow_add] at A2
  have A3 := pow23 hp (k := mb + xa) (by omega) (by omega)
  have A4 := pow23 hp (k := mb + xa + ng) (by omega) (by omega)
  -- d
  have D1 := mul2 a0 a1 (Int.le_of_lt (P xb)) (Int.le_refl _)
  have D2 := mul2 D1.1 D1.2 (Int.le_of_lt (P ng)) (Int.le_refl _)
  rw [← Int.pow_add] at D1 D2
  rw [← Int.pow_add] at D2
  have D3 := pow23 hp (k := ma + xb) (by omega) (by omega)
  have D4 := pow23 hp (k := ma + xb + ng) (by omega) (by omega)
  have D5 : -a.c1 * p ^ xb = -(a.c1 * p ^ xb) := Int.neg_mul _ _
  have D6 : -a.c1 * p ^ xb * p ^ ng = -(a.c1 * p ^ xb * p ^ ng) := by rw [D5, Int.neg_mul]
  -- c
  have C3 := pow23 hp (k := xa + xb) (by omega) (by omega)
  have C4 := pow23 hp (k := xa + xb + ng) (by omega) (by omega)
  rw [Int.pow_add] at C3 C4
  rw [Int.pow_add] at C4
  -- b
  have B3 := pow23 hp (k := ps + xa) (by omega) (by omega)
  have B4 := pow23 hp (k := ps + xa + xb) (by omega) (by omega)
  rw [Int.pow_add] at B3 B4
  rw [Int.pow_add] at B4
  have E1 := mul2 a0 ta b0 tb
  have E2 : 0 ≤ a.c1 * b.c1 * p ^ ng ∧ a.c1 * b.c1 * p ^ ng ≤ 3909821048582988049 := by
    by_cases h0 : ng = 0
    · rw [h0, Int.pow_zero, Int.mul_one]; omega
    · have F1 := mul2 a0 a1 b0 b1
      have F2 := mul2 F1.1 F1.2 (Int.le_of_lt (P ng)) (Int.le_refl _)
      rw [← Int.pow_add] at F1 F2
      rw [← Int.pow_add] at F2
      have F4 := pow23 hp (k := ma + mb + ng) (by omega) (by omega)
      omega
  rw [W_id (n := 0 - a.c1) (by omega) (by omega), Int.zero_sub, D5, W_id (n := b.c1 * p ^ xa) (by omega) (by omega), W_id (n := b.c1 * p ^ xa * p ^ ng) (by omega) (by omega), W_id (n := p ^ ps * p ^ xa) (by omega) (by omega), W_id (n := p ^ ps * p ^ xa * p ^ xb) (by omega) (by omega),
    W_id (n := a.c1 * b.c1) (by omega) (by omega), W_id (n := a.c1 * b.c1 * p ^ ng) (by omega) (by omega), W_id (n := p ^ ps * p ^ xa * p ^ xb - a.c1 * b.c1 * p ^ ng) (by omega) (by omega),
    W_id (n := p ^ xa * p ^ xb) (by omega) (by omega), W_id (n := p ^ xa * p ^ xb * p ^ ng) (by omega) (by omega), W_id (n := -(a.c1 * p ^ xb)) (by omega) (by omega), ← D5, D6, W_id (n := -(a.c1 * p ^ xb * p ^ ng)) (by omega) (by omega)]
  refine ⟨rfl, rfl, rfl, rfl, ?_, ?_, ?_, ?_⟩ <;> unfold small <;> simp only <;> omega
end

theorem spec_l09Paired_f {p : Int} {a b : Siii} (ha : isB p a) (hb : isB p b) : spec_l09Paired.f p a b = some (if fitM 1000 (red (MP p a b)) then (ofM (red (MP p a b)), true) else (zM, false)) := by
  have hp := ha.1
  have la := ha.lv
  have lb := hb.lv
  have da := ha.dn
  have db := hb.dn
  have P (k : Nat) : 0 < p ^ k := pow_pos hp.two k
  obtain ⟨n, k, e1, hk, e2⟩ := fr_red hp (a.c2.toNat + b.c2.toNat + negP a b) (MP p a b).b
  rw [Int.pow_add, Int.pow_add] at e1
  have hf := NP_fit ha hb e1 e2 1000
  unfold spec_l09Paired.f
  by_cases ta : a.c1 > 1000000
  · rw [ifE_pos ta, if_neg]; rfl
    intro h
    have h := (hf.1 h).2.2.2
    have h : small 1000 (-a.c1 * p ^ (sP a b k - a.c2.toNat)) := h
    have h2 := (mul2 (by omega) (Int.le_refl a.c1) (u := 1) (v := p ^ (sP a b k - a.c2.toNat)) (by omega) (by have := P (sP a b k - a.c2.toNat); omega)).2
    rw [Int.neg_mul] at h
    unfold small at h; omega
  rw [ifE_neg ta]
  by_cases tb : b.c1 > 1000000
  · rw [ifE_pos tb, if_neg]; rfl
    intro h
    have h := (hf.1 h).1
    have h : small 1000 (b.c1 * p ^ (sP a b k - b.c2.toNat)) := h
    have h2 := (mul2 (by omega) (Int.le_refl b.c1) (u := 1) (v := p ^ (sP a b k - b.c2.toNat)) (by omega) (by have := P (sP a b k - b.c2.toNat); omega)).2
    unfold small at h; omega
  rw [ifE_neg tb]
  have go : ∀ h7 : p = 7 → a.c2 + b.c2 ≠ 12, spec_l09Paired.j4 p (W ((W (a.c0 + b.c0)) - 1)) a.c0 a.c1 a.c2 b.c0 b.c1 b.c2 0 0 0 0 = some (if fitM 1000 (red (MP p a b)) then (ofM (red (MP p a b)), true) else (zM, false)) := by
    intro h7
    obtain ⟨w1, w2, w3, w4, w5⟩ := MP_fit ha hb h7 (by omega) (by omega)
    have i1 : imax (a.c0 + b.c0 - 1) 0 = (posP a b : Int) := by unfold posP imax; split <;> omega
    have i2 : imax (0 - (a.c0 + b.c0 - 1)) 0 = (negP a b : Int) := by unfold negP imax; split <;> omega
    have q1 : posP a b ≤ 11 := by unfold posP; omega
    have q2 : negP a b ≤ 13 := by unfold negP; omega
    unfold spec_l09Paired.j4
    rw [spec_power_f hp da.1 (by omega), Option.bind_some, spec_power_f hp db.1 (by omega), Option.bind_some, W_id (n := a.c0 + b.c0) (by omega) (by omega), W_id (n := a.c0 + b.c0 - 1) (by omega) (by omega), W_id (n := 0 - (a.c0 + b.c0 - 1)) (by omega) (by omega), i1, i2,
      spec_power_f hp (by omega) (by omega), Option.bind_some, spec_power_f hp (by omega) (by omega), Option.bind_some, Int.toNat_natCast, Int.toNat_natCast, w1, w2, w3, w4]
    exact spec_pnorm (MP_ne hp) w5
  by_cases h7 : p = 7
  · rw [show (p == 7) = true from by simpa using h7, ifE_t, W_id (n := a.c2 + b.c2) (by omega) (by omega)]
    by_cases h12 : a.c2 + b.c2 = 12
    · rw [show (a.c2 + b.c2 == 12) = true from by simpa using h12, ifE_t, if_neg]; rfl
      intro h
      have h := (hf.1 h).2.2.1
      have h : small 1000 (p ^ sP a b k) := h
      have h6 := pow_mono hp.two (a := 6) (b := sP a b k) (by unfold sP; omega)
      rw [h7] at h6 h
      have e : (7 : Int) ^ 6 = 117649 := by decide
      unfold small at h; omega
    · rw [beq_ne h12, ifE_f]
      exact go fun _ => h12
  · rw [beq_ne h7, ifE_f]
    exact go fun h => absurd h h7

end Go.Gn
end
section
set_option linter.unusedVariables false
set_option linter.unusedSimpArgs false
/-! plain: the paired mover, 3 -/
namespace Go.Gn
open Go Go.Eng Pl Pl.M2

def tailP (v0 v10 v11 o4_1 o4_2 o5_1 o5_2 : Int) : Option (Siiii × Int) :=
  ifE (decide ((imax (imax o4_2 o5_2) v11) > 10)) (
    some ((⟨0, 0, 0, 0⟩ : Siiii), 3)) (
    (impl_power.f v0 (imax (imax o4_2 o5_2) v11)).bind fun r50 =>
    ifE (decide (r50 > 1000)) (
      some ((⟨0, 0, 0, 0⟩ : Siiii), 3)) (
      (impl_within.f 1000 [v10]).bind fun r51 =>
      ifE (!r51) (
        some ((⟨0, 0, 0, 0⟩ : Siiii), 3)) (
        (impl_power.f v0 (W ((imax (imax o4_2 o5_2) v11) - v11))).bind fun r52 =>
        ifE (decide (r52 > 1000)) (
          some ((⟨0, 0, 0, 0⟩ : Siiii), 3)) (
          (impl_power.f v0 (W ((imax (imax o4_2 o5_2) v11) - o5_2))).bind fun r53 =>
          (impl_power.f v0 (W ((imax (imax o4_2 o5_2) v11) - v11))).bind fun r54 =>
          (impl_power.f v0 (imax (imax o4_2 o5_2) v11)).bind fun r55 =>
          (impl_power.f v0 (W ((imax (imax o4_2 o5_2) v11) - o4_2))).bind fun r56 =>
          (impl_reduced.f (⟨W (o5_1 * r53), W (v10 * r54), r55, W ((W (0 - o4_1)) * r56)⟩ : Siiii)).bind fun r57 =>
          (impl_fittedMatrix.f r57.1 r57.2).bind fun r58 =>
          some (r58.1, r58.2)))))

theorem paired_step {p n k : Int} (h2 : 2 ≤ p) (a b : Siii) (z0 z1 z2 z3 : Int) (f : Nat) :
    impl_PairedMover.l16 (f + 1) p n k a.c0 a.c1 a.c2 b.c0 b.c1 b.c2 z0 z1 z2 z3 =
      if n ≠ 0 ∧ k > 0 ∧ Int.tmod n p = 0 then impl_PairedMover.l16 f p (W (Int.tdiv n p)) (W (k - 1)) a.c0 a.c1 a.c2 b.c0 b.c1 b.c2 z0 z1 z2 z3
      else tailP p n (if n = 0 then 0 else k) a.c1 a.c2 b.c1 b.c2 := by
  rw [impl_PairedMover.l16]
  unfold impl_PairedMover.s16
  have ht : ∀ x : Int, tailP p n x a.c1 a.c2 b.c1 b.c2 = tailP p n x a.c1 a.c2 b.c1 b.c2 := fun _ => rfl
  conv at ht => intro x; rhs; unfold tailP
  by_cases h0 : n = 0
  · rw [bne_eq h0, ifE_f, if_neg (by simp [h0]), if_pos h0, show (n == 0) = true from by simpa using h0, ifE_t, ht]
  · rw [bne_ne h0, ifE_t, if_neg h0]
    by_cases hk : k > 0
    · rw [ifE_pos hk, guardE_pos (by omega), guardE_pos (by omega)]
      by_cases hd : Int.tmod n p = 0
      · rw [show (Int.tmod n p == 0) = true from by simpa using hd, ifE_t, if_pos ⟨h0, hk, hd⟩]
      · rw [beq_ne hd, ifE_f, beq_ne h0, ifE_f, if_neg fun h => hd h.2.2, ht]
    · rw [ifE_neg hk, beq_ne h0, ifE_f, if_neg fun h => hk h.2.1, ht]

theorem paired_l {p : Int} (hp : IsP p) (a b : Siii) (z0 z1 z2 z3 : Int) : ∀ (f K : Nat) (v : Int), K < f → K ≤ 100 → big63 v →
    ∃ (n : Int) (k : Nat), impl_PairedMover.l16 f p v (K : Int) a.c0 a.c1 a.c2 b.c0 b.c1 b.c2 z0 z1 z2 z3 = tailP p n (k : Int) a.c1 a.c2 b.c1 b.c2 ∧ n * p ^ K = v * p ^ k ∧ k ≤ K ∧ (k = 0 ∨ ¬ p ∣ n) ∧ big63 n := by
  intro f
  induction f with
  | zero => intro K v h; omega
  | succ f ih =>
    intro K v hK hK2 hv
    rw [paired_step hp.two]
    by_cases hc : v ≠ 0 ∧ (K : Int) > 0 ∧ Int.tmod v p = 0
    · rw [if_pos hc]
      obtain ⟨h0, hk, hd⟩ := hc
      obtain ⟨q, rfl, hq, ht, -⟩ := vl_step hp h0 hd
      have hqb : big63 q := by
        have h1 : (p * q).natAbs = p.natAbs * q.natAbs := Int.natAbs_mul _ _
        have h2 := hp.two
        have h3 : 1 * q.natAbs ≤ p.natAbs * q.natAbs := Nat.mul_le_mul_right _ (by omega)
        unfold big63 at *; omega
      obtain ⟨K, rfl⟩ : ∃ m, K = m + 1 := ⟨K - 1, by omega⟩
      rw [ht, W_id (n := q) (by unfold big63 at hqb; omega) (by unfold big63 at hqb; omega), W_id (n := ((K + 1 : Nat) : Int) - 1) (by omega) (by omega), show ((K + 1 : Nat) : Int) - 1 = (K : Int) from by omega]
      obtain ⟨n, k, e, e1, e2, e3, e4⟩ := ih K q (by omega) (by omega) hqb
      exact ⟨n, k, e, by rw [Int.pow_succ]; grind, by omega, e3, e4⟩
    · rw [if_neg hc]
      by_cases h0 : v = 0
      · rw [if_pos h0]
        exact ⟨v, 0, rfl, by rw [h0]; simp, by omega, .inl rfl, hv⟩
      · rw [if_neg h0]
        refine ⟨v, K, rfl, rfl, by omega, ?_, hv⟩
        by_cases hk : K = 0
        · exact .inl hk
        · right; intro h
          have : Int.tmod v p = 0 := Int.tmod_eq_zero_of_dvd h
          exact hc ⟨h0, by omega, this⟩

theorem tailP_f {p : Int} {a b : Siii} (ha : isB p a) (hb : isB p b) {n : Int} {k : Nat}
    (hfr : n * (p ^ a.c2.toNat * p ^ b.c2.toNat * p ^ negP a b) = (MP p a b).b * p ^ k) (hk : k = 0 ∨ ¬ p ∣ n) (ta : a.c1 ≤ 1000) (tb : b.c1 ≤ 1000) :
    tailP p n (k : Int) a.c1 a.c2 b.c1 b.c2 = some (fitE (MP p a b)) := by
  have hp := ha.1
  have da := ha.dn
  have db := hb.dn
  have a0 := (isB_T ha).1
  have b0 := (isB_T hb).1
  have hf := NP_fit ha hb hfr hk 1000
  have P (k : Nat) : 0 < p ^ k := pow_pos hp.two k
  have es : imax (imax a.c2 b.c2) (k : Int) = (sP a b k : Int) := by unfold sP imax; split <;> split <;> omega
  have bad : ¬ fitM 1000 (NP p a b n k (sP a b k)) → some ((⟨0, 0, 0, 0⟩ : Siiii), (3 : Int)) = some (fitE (MP p a b)) := by
    intro h; unfold fitE; rw [if_neg fun h' => h (hf.1 h')]; rfl
  unfold tailP
  rw [es]
  have hs1 : a.c2.toNat ≤ sP a b k := by unfold sP; omega
  have hs2 : b.c2.toNat ≤ sP a b k := by unfold sP; omega
  have hs3 : k ≤ sP a b k := by unfold sP; omega
  generalize hsv : sP a b k = s at *
  by_cases h10 : (s : Int) > 10
  · rw [ifE_pos h10]
    refine bad fun h => ?_
    have h : small 1000 (p ^ s) := h.2.2.1
    have h3 := pow_mono hp.two (a := 11) (b := s) (by omega)
    have h4 : (2048 : Int) ≤ p ^ 11 := by rcases hp with rfl | rfl | rfl | rfl <;> decide
    unfold small at h; omega
  rw [ifE_neg h10, impl_power_f hp (by omega) (by omega), Option.bind_some, Int.toNat_natCast]
  by_cases h1000 : p ^ s > 1000
  · rw [ifE_pos h1000]
    refine bad fun h => ?_
    have h : small 1000 (p ^ s) := h.2.2.1
    unfold small at h; omega
  rw [ifE_neg h1000, impl_within_f (by omega) (by simp), Option.bind_some]
  have ea : ([n].all fun x => decide (small 1000 x)) = decide (small 1000 n) := by simp
  rw [ea]
  by_cases hn : small 1000 n
  case neg =>
    rw [decide_eq_false hn, Bool.not_false, ifE_t]
    refine bad fun h => hn ?_
    have h : small 1000 (n * p ^ (s - k)) := h.2.1
    have h1 := P (s - k)
    have h2 : (n * p ^ (s - k)).natAbs = n.natAbs * (p ^ (s - k)).natAbs := Int.natAbs_mul _ _
    have h3 : n.natAbs * 1 ≤ n.natAbs * (p ^ (s - k)).natAbs := Nat.mul_le_mul_left _ (by omega)
    unfold small at *; omega
  rw [decide_eq_true hn, Bool.not_true, ifE_f, W_id (n := (s : Int) - (k : Int)) (by omega) (by omega), impl_power_f hp (k := (s : Int) - k) (by omega) (by omega), Option.bind_some, show ((s : Int) - (k : Int)).toNat = s - k from by omega]
  have m1 := pow_mono hp.two (a := s - k) (b := s) (by omega)
  have m2 := pow_mono hp.two (a := s - b.c2.toNat) (b := s) (by omega)
  have m3 := pow_mono hp.two (a := s - a.c2.toNat) (b := s) (by omega)
  have q1 := P (s - k)
  have q2 := P (s - b.c2.toNat)
  have q3 := P (s - a.c2.toNat)
  have q4 := P s
  rw [ifE_neg (by omega), W_id (n := (s : Int) - b.c2) (by omega) (by omega), impl_power_f hp (k := (s : Int) - b.c2) (by omega) (by omega), Option.bind_some, Option.bind_some, Option.bind_some, W_id (n := (s : Int) - a.c2) (by omega) (by omega), impl_power_f hp (k := (s : Int) - a.c2) (by omega) (by omega), Option.bind_some,
    show ((s : Int) - b.c2).toNat = s - b.c2.toNat from by omega, show ((s : Int) - a.c2).toNat = s - a.c2.toNat from by omega]
  have sa : small (1000 * 1000) (b.c1 * p ^ (s - b.c2.toNat)) := mul_small (by unfold small; omega) (by unfold small; omega) (by omega)
  have sb : small (1000 * 1000) (n * p ^ (s - k)) := mul_small hn (by unfold small; omega) (by omega)
  have sd : small (1000 * 1000) (-a.c1 * p ^ (s - a.c2.toNat)) := mul_small (by unfold small; omega) (by unfold small; omega) (by omega)
  have hfit : fitM lim (NP p a b n k s) := by
    refine ⟨small_mono sa (by unfold lim; omega), small_mono sb (by unfold lim; omega), ?_, small_mono sd (by unfold lim; omega)⟩
    show small lim (p ^ s); unfold small lim; omega
  unfold small at sa sb sd
  rw [W_id (n := 0 - a.c1) (by omega) (by omega), Int.zero_sub, W_id (n := b.c1 * p ^ (s - b.c2.toNat)) (by omega) (by omega), W_id (n := n * p ^ (s - k)) (by omega) (by omega), W_id (n := -a.c1 * p ^ (s - a.c2.toNat)) (by omega) (by omega)]
  have hdet : (NP p a b n k s).det ≠ 0 := by rw [← hsv]; exact NP_det ha hfr
  have hred : red (NP p a b n k s) = red (MP p a b) := by rw [← hsv]; exact NP_red ha hfr
  have hr := impl_reduced_f (g := ofM (NP p a b n k s)) hdet hfit
  have hr : impl_reduced.f (⟨b.c1 * p ^ (s - b.c2.toNat), n * p ^ (s - k), p ^ s, -a.c1 * p ^ (s - a.c2.toNat)⟩ : Siiii) = some (ofM (red (NP p a b n k s)), decide (fitM 1000 (red (NP p a b n k s)))) := hr
  rw [hr, Option.bind_some, hred]
  unfold impl_fittedMatrix.f fitE
  by_cases h : fitM 1000 (red (MP p a b))
  · rw [decide_eq_true h, if_pos h]; rfl
  · rw [decide_eq_false h, if_neg h]; rfl

noncomputable def pairE (p : Int) (a b : Siii) : Siiii × Int :=
  if isB p a ∧ isB p b then (if ¬ Hold p a b ∧ ¬ Hold p b a then fitE (MP p a b) else (zM, 5)) else (zM, 1)

theorem all2 {p : Int} {a b : Siii} : ([a, b].all (fun b => decide (isB p b)) && decide (IsP p)) = decide (isB p a ∧ isB p b) := by
  rw [List.all_cons, List.all_cons, List.all_nil, Bool.and_true, Bool.eq_iff_iff]
  simp only [Bool.and_eq_true, decide_eq_true_eq]
  exact ⟨fun h => h.1, fun h => ⟨h, h.1.1⟩⟩

theorem spec_PairedMover_f (p : Int) (a b : Siii) : spec_PairedMover.f p a b = some (pairE p a b) := by
  unfold spec_PairedMover.f pairE
  rw [spec_l01Code_f (by simp), Option.bind_some]
  by_cases hab : isB p a ∧ isB p b
  · obtain ⟨ha, hb⟩ := hab
    rw [if_pos ⟨ha.1, by simp [ha, hb]⟩, bne_eq rfl, ifE_f, spec_l01Holds_f ha hb, Option.bind_some, if_pos ⟨ha, hb⟩]
    by_cases h1 : Hold p a b
    · rw [decide_eq_true h1, ifE_t, if_neg fun h => h.1 h1]; rfl
    · rw [decide_eq_false h1, ifE_f, spec_l01Holds_f hb ha, Option.bind_some]
      by_cases h2 : Hold p b a
      · rw [decide_eq_true h2, ifE_t, if_neg fun h => h.2 h2]; rfl
      · rw [decide_eq_false h2, ifE_f, if_pos ⟨h1, h2⟩, spec_l09Paired_f ha hb, Option.bind_some]
        unfold fitE
        by_cases h : fitM 1000 (red (MP p a b))
        · rw [if_pos h, if_pos h]; rfl
        · rw [if_neg h, if_neg h]; rfl
  · rw [if_neg fun h => hab (by simpa using h.2), if_neg hab]; rfl

theorem impl_PairedMover_f (p : Int) (a b : Siii) : impl_PairedMover.f p a b = some (pairE p a b) := by
  unfold impl_PairedMover.f pairE
  rw [impl_areBalls_f (by simp), Option.bind_some, all2]
  by_cases hab : isB p a ∧ isB p b
  case neg => rw [decide_eq_false hab, if_neg hab]; rfl
  obtain ⟨ha, hb⟩ := hab
  rw [decide_eq_true ⟨ha, hb⟩, Bool.not_true, ifE_f, impl_apart_f ha hb, Option.bind_some, if_pos ⟨ha, hb⟩]
  by_cases hap : ¬ Hold p a b ∧ ¬ Hold p b a
  case neg => rw [decide_eq_false hap, if_neg hap]; rfl
  rw [decide_eq_true hap, Bool.not_true, ifE_f, if_pos hap]
  have hp := ha.1
  have la := ha.lv
  have lb := hb.lv
  have da := ha.dn
  have db := hb.dn
  have a0 := (isB_T ha).1
  have b0 := (isB_T hb).1
  have P (k : Nat) : 0 < p ^ k := pow_pos hp.two k
  have bad : ¬ fitM 1000 (red (MP p a b)) → some ((⟨0, 0, 0, 0⟩ : Siiii), (3 : Int)) = some (fitE (MP p a b)) := by
    intro h; unfold fitE; rw [if_neg h]; rfl
  have ex := fr_red hp (a.c2.toNat + b.c2.toNat + negP a b) (MP p a b).b
  obtain ⟨n, k, e1, hk, e2⟩ := ex
  rw [Int.pow_add, Int.pow_add] at e1
  have hf := NP_fit ha hb e1 e2 1000
  by_cases ta : a.c1 > 1000
  · rw [ifE_pos ta]
    refine bad fun h => ?_
    have h : small 1000 (-a.c1 * p ^ (sP a b k - a.c2.toNat)) := (hf.1 h).2.2.2
    have h2 := (mul2 (by omega) (Int.le_refl a.c1) (u := 1) (v := p ^ (sP a b k - a.c2.toNat)) (by omega) (by have := P (sP a b k - a.c2.toNat); omega)).2
    rw [Int.neg_mul] at h
    unfold small at h; omega
  rw [ifE_neg ta]
  by_cases tb : b.c1 > 1000
  · rw [ifE_pos tb]
    refine bad fun h => ?_
    have h : small 1000 (b.c1 * p ^ (sP a b k - b.c2.toNat)) := (hf.1 h).1
    have h2 := (mul2 (by omega) (Int.le_refl b.c1) (u := 1) (v := p ^ (sP a b k - b.c2.toNat)) (by omega) (by have := P (sP a b k - b.c2.toNat); omega)).2
    unfold small at h; omega
  rw [ifE_neg tb, W_id (n := a.c0 + b.c0) (by omega) (by omega), W_id (n := a.c0 + b.c0 - 1) (by omega) (by omega), W_id (n := a.c2 + b.c2) (by omega) (by omega), W_id (n := a.c0 + b.c0 - 1 + (a.c2 + b.c2)) (by omega) (by omega), W_id (n := 0 - (a.c0 + b.c0 - 1)) (by omega) (by omega), W_id (n := 0 - (a.c0 + b.c0 - 1 + (a.c2 + b.c2))) (by omega) (by omega)]
  have tt := mul2 a0 (by omega : a.c1 ≤ 1000) b0 (by omega : b.c1 ≤ 1000)
  have hneg : (negP a b : Int) = max (1 - a.c0 - b.c0) 0 := by unfold negP; omega
  have hpos : (posP a b : Int) = max (a.c0 + b.c0 - 1) 0 := by unfold posP; omega
  have eb : (MP p a b).b = p ^ posP a b * p ^ a.c2.toNat * p ^ b.c2.toNat - a.c1 * b.c1 * p ^ negP a b := rfl
  by_cases hE : a.c0 + b.c0 - 1 + (a.c2 + b.c2) ≥ 0
  · rw [ifE_pos hE]
    by_cases h19 : a.c0 + b.c0 - 1 + (a.c2 + b.c2) > 19
    · rw [ifE_pos h19]
      refine bad fun h => ?_
      have h : small 1000 (n * p ^ (sP a b k - k)) := (hf.1 h).2.1
      have na : ¬ p ∣ a.c1 := by
        rcases ha.2.2.2 with ⟨-, -, h⟩ | ⟨-, -, -, h | h⟩
        · omega
        · omega
        · exact h
      have nb : ¬ p ∣ b.c1 := by
        rcases hb.2.2.2 with ⟨-, -, h⟩ | ⟨-, -, -, h | h⟩
        · omega
        · omega
        · exact h
      have hn0 : negP a b = 0 := by omega
      have ex2 : p ^ posP a b * p ^ a.c2.toNat * p ^ b.c2.toNat = p ^ (posP a b + a.c2.toNat + b.c2.toNat) := by rw [Int.pow_add, Int.pow_add]
      have nv : ¬ p ∣ (MP p a b).b := by
        rw [eb, hn0, Int.pow_zero, Int.mul_one, ex2]
        intro hd
        have h1 : p ∣ p ^ (posP a b + a.c2.toNat + b.c2.toNat) := by
          obtain ⟨j, hj⟩ : ∃ j, posP a b + a.c2.toNat + b.c2.toNat = j + 1 := ⟨posP a b + a.c2.toNat + b.c2.toNat - 1, by omega⟩
          rw [hj, Int.pow_succ]; exact Int.dvd_mul_left _ _
        have h2 := Int.dvd_sub h1 hd
        have e3 : p ^ (posP a b + a.c2.toNat + b.c2.toNat) - (p ^ (posP a b + a.c2.toNat + b.c2.toNat) - a.c1 * b.c1) = a.c1 * b.c1 := by omega
        rw [e3] at h2
        exact ndvd_mul hp na nb h2
      have big1 : (MP p a b).b ≥ 48576 := by
        have h1 := pow_mono hp.two (a := 20) (b := posP a b + a.c2.toNat + b.c2.toNat) (by omega)
        have h2 : (1048576 : Int) ≤ p ^ 20 := by rcases hp with rfl | rfl | rfl | rfl <;> decide
        rw [eb, hn0, Int.pow_zero, Int.mul_one, ex2]
        omega
      have hv0 : (MP p a b).b ≠ 0 := by omega
      have hn00 : n ≠ 0 := by
        intro h0; rw [h0, Int.zero_mul] at e1
        exact Int.mul_ne_zero hv0 (pow_ne hp.two k) e1.symm
      have hvl := congrArg (vl p) e1
      rw [← Int.pow_add, ← Int.pow_add, Int.mul_comm n, Int.mul_comm _ (p ^ k), vl_pow_mul hp.two _ hn00, vl_pow_mul hp.two _ hv0, show vl p (MP p a b).b = 0 from vl_unique (m := (MP p a b).b) hp.two hv0 (by simp) nv] at hvl
      have hkk : k = a.c2.toNat + b.c2.toNat + negP a b := by omega
      have hnn : n = (MP p a b).b := by
        rw [← Int.pow_add, ← Int.pow_add, ← hkk] at e1
        exact Int.eq_of_mul_eq_mul_right (pow_ne hp.two k) e1
      have h2 := (mul2 (by omega) (Int.le_refl n) (u := 1) (v := p ^ (sP a b k - k)) (by omega) (by have := P (sP a b k - k); omega)).2
      unfold small at h; omega
    · rw [ifE_neg h19, impl_power_f hp (by omega) (by omega), Option.bind_some]
      have hpw := pow23 hp (k := (a.c0 + b.c0 - 1 + (a.c2 + b.c2)).toNat) (by omega) (by omega)
      rw [W_id (n := a.c1 * b.c1) (by omega) (by omega), W_id (n := p ^ (a.c0 + b.c0 - 1 + (a.c2 + b.c2)).toNat - a.c1 * b.c1) (by omega) (by omega)]
      obtain ⟨n', k', h1, h2, h3, h4, -⟩ := paired_l hp a b 0 0 0 0 fuelN (a.c2.toNat + b.c2.toNat) (p ^ (a.c0 + b.c0 - 1 + (a.c2 + b.c2)).toNat - a.c1 * b.c1) (lt_fuel (by omega)) (by omega) (by unfold big63; omega)
      rw [show ((a.c2.toNat + b.c2.toNat : Nat) : Int) = a.c2 + b.c2 from by omega] at h1
      rw [h1]
      refine tailP_f ha hb ?_ h4 (by omega) (by omega)
      rw [Int.pow_add] at h2
      rw [← Int.mul_assoc n', h2, eb]
      have e9 : p ^ posP a b * p ^ a.c2.toNat * p ^ b.c2.toNat = p ^ (a.c0 + b.c0 - 1 + (a.c2 + b.c2)).toNat * p ^ negP a b := by
        rw [← Int.pow_add, ← Int.pow_add, ← Int.pow_add]; congr 1; omega
      rw [e9]; grind
  · rw [ifE_neg hE, impl_power_f hp (by omega) (by omega), Option.bind_some]
    have hpw := pow12 hp (k := (-(a.c0 + b.c0 - 1 + (a.c2 + b.c2))).toNat)
    have hpw := pow22 hp (k := (0 - (a.c0 + b.c0 - 1 + (a.c2 + b.c2))).toNat) (by omega)
    have hpw2 : p ^ (0 - (a.c0 + b.c0 - 1 + (a.c2 + b.c2))).toNat ≤ 96889010407 := by
      have h1 := pow_mono hp.two (a := (0 - (a.c0 + b.c0 - 1 + (a.c2 + b.c2))).toNat) (b := 13) (by omega)
      have h2 : p ^ 13 ≤ 96889010407 := by rcases hp with rfl | rfl | rfl | rfl <;> decide
      omega
    have tp := mul2 tt.1 tt.2 (by omega) hpw2
    rw [W_id (n := a.c1 * b.c1) (by omega) (by omega), W_id (n := a.c1 * b.c1 * p ^ (0 - (a.c0 + b.c0 - 1 + (a.c2 + b.c2))).toNat) (by omega) (by omega), W_id (n := 1 - a.c1 * b.c1 * p ^ (0 - (a.c0 + b.c0 - 1 + (a.c2 + b.c2))).toNat) (by omega) (by omega)]
    obtain ⟨n', k', h1, h2, h3, h4, -⟩ := paired_l hp a b 0 0 0 0 fuelN (negP a b) (1 - a.c1 * b.c1 * p ^ (0 - (a.c0 + b.c0 - 1 + (a.c2 + b.c2))).toNat) (lt_fuel (by omega)) (by omega) (by unfold big63; omega)
    rw [show (negP a b : Int) = 0 - (a.c0 + b.c0 - 1) from by omega] at h1
    rw [h1]
    refine tailP_f ha hb ?_ h4 (by omega) (by omega)
    have e8 : p ^ negP a b = p ^ (0 - (a.c0 + b.c0 - 1 + (a.c2 + b.c2))).toNat * (p ^ a.c2.toNat * p ^ b.c2.toNat) := by
      rw [← Int.pow_add, ← Int.pow_add]; congr 1; omega
    have e7 : posP a b = 0 := by omega
    rw [eb, e7, Int.pow_zero]
    calc n' * (p ^ a.c2.toNat * p ^ b.c2.toNat * p ^ negP a b) = n' * p ^ negP a b * (p ^ a.c2.toNat * p ^ b.c2.toNat) := by grind
      _ = _ := by rw [h2, e8]; grind

end Go.Gn
end
section
set_option linter.unusedVariables false
set_option linter.unusedSimpArgs false
/-! plain: the law FnSides -/
namespace Go.Gn
open Go Go.Eng Pl Pl.M2

/-! apart sides -/
def ApS (p : Int) (s t : Side) : Prop :=
  if s.c3 then (if t.c3 then False else Hold p (bl s) (bl t)) else (if t.c3 then Hold p (bl t) (bl s) else ¬ Hold p (bl s) (bl t) ∧ ¬ Hold p (bl t) (bl s))
noncomputable instance (p : Int) (s t : Side) : Decidable (ApS p s t) := Classical.propDecidable _
theorem ApS.comm {p : Int} {s t : Side} : ApS p s t ↔ ApS p t s := by
  unfold ApS
  cases s.c3 <;> cases t.c3 <;> simp [and_comm]

theorem impl_apartSides_f {p : Int} {s t : Side} (hs : isS p s) (ht : isS p t) : impl_apartSides.f p s t = some (decide (ApS p s t)) := by
  unfold impl_apartSides.f impl_apartSides.j3
  have h1 := impl_holds_f hs ht
  have h2 := impl_holds_f ht hs
  have h3 := impl_apart_f hs ht
  unfold bl at h1 h2 h3
  rw [h1, h2, h3]
  by_cases hc : s.c3 = true
  · by_cases hc' : t.c3 = true
    · rw [hc, hc', ifE_t, ifE_t, decide_eq_false (by unfold ApS; simp [hc, hc'])]
    · have hc' : t.c3 = false := by simpa using hc'
      rw [hc, hc', ifE_t, ifE_f, ifE_t, Option.bind_some]; congr 1; rw [decide_eq_decide]; unfold ApS; simp [hc, hc']; rfl
  · have hc : s.c3 = false := by simpa using hc
    rw [hc, ifE_f, ifE_f]
    by_cases hc' : t.c3 = true
    · rw [hc', ifE_t, Option.bind_some]; congr 1; rw [decide_eq_decide]; unfold ApS; simp [hc, hc']; rfl
    · have hc' : t.c3 = false := by simpa using hc'
      rw [hc', ifE_f, Option.bind_some]; congr 1; rw [decide_eq_decide]; unfold ApS; simp [hc, hc']; rfl

theorem spec_l09Apart_f {p : Int} {s t : Side} (hs : isS p s) (ht : isS p t) : spec_l09Apart.f p s t = some (decide (ApS p s t)) := by
  unfold spec_l09Apart.f spec_l09Apart.j3
  have h1 := spec_l01Holds_f hs ht
  have h2 := spec_l01Holds_f ht hs
  rw [show (⟨s.c0, s.c1, s.c2⟩ : Siii) = bl s from rfl, show (⟨t.c0, t.c1, t.c2⟩ : Siii) = bl t from rfl, h1, h2]
  by_cases hc : s.c3 = true
  · by_cases hc' : t.c3 = true
    · rw [hc, hc', ifE_t, ifE_t, decide_eq_false (by unfold ApS; simp [hc, hc'])]
    · have hc' : t.c3 = false := by simpa using hc'
      rw [hc, hc', ifE_t, ifE_f, ifE_t, Option.bind_some]; congr 1; rw [decide_eq_decide]; unfold ApS; simp [hc, hc']
  · have hc : s.c3 = false := by simpa using hc
    rw [hc, ifE_f, ifE_f]
    by_cases hc' : t.c3 = true
    · rw [hc', ifE_t, Option.bind_some]; congr 1; rw [decide_eq_decide]; unfold ApS; simp [hc, hc']
    · have hc' : t.c3 = false := by simpa using hc'
      rw [hc', ifE_f, Option.bind_some]
      by_cases g1 : Hold p (bl s) (bl t)
      · rw [decide_eq_true g1, Bool.not_true, ifE_f, decide_eq_false (by unfold ApS; simp [hc, hc', g1])]
      · rw [decide_eq_false g1, Bool.not_false, ifE_t, Option.bind_some]
        by_cases g2 : Hold p (bl t) (bl s)
        · rw [decide_eq_true g2, decide_eq_false (by unfold ApS; simp [hc, hc', g2])]; rfl
        · rw [decide_eq_false g2, decide_eq_true (by unfold ApS; simp [hc, hc', g1, g2])]; rfl

noncomputable def apE (p : Int) (s t : Side) : Bool × Int := if isS p s ∧ isS p t then (decide (ApS p s t), 0) else (false, 1)
theorem apE_comm {p : Int} {s t : Side} : apE p s t = apE p t s := by
  unfold apE
  by_cases h : isS p s ∧ isS p t
  · rw [if_pos h, if_pos h.symm, decide_eq_decide.2 ApS.comm]
  · rw [if_neg h, if_neg fun h' => h h'.symm]

theorem allS2 {p : Int} {a b : Side} : ([a, b].all (fun b => decide (isS p b)) && decide (IsP p)) = decide (isS p a ∧ isS p b) := by
  rw [List.all_cons, List.all_cons, List.all_nil, Bool.and_true, Bool.eq_iff_iff]
  simp only [Bool.and_eq_true, decide_eq_true_eq]
  exact ⟨fun h => h.1, fun h => ⟨h, h.1.1⟩⟩

theorem impl_AreApartSides_f (p : Int) (s t : Side) : impl_AreApartSides.f p s t = some (apE p s t) := by
  unfold impl_AreApartSides.f apE
  rw [impl_areSides_f (by simp), Option.bind_some, allS2]
  by_cases h : isS p s ∧ isS p t
  · rw [decide_eq_true h, if_pos h, Bool.not_true, ifE_f, impl_apartSides_f h.1 h.2]; rfl
  · rw [decide_eq_false h, if_neg h]; rfl
theorem spec_AreApartSides_f (p : Int) (s t : Side) : spec_AreApartSides.f p s t = some (apE p s t) := by
  unfold spec_AreApartSides.f apE
  rw [spec_l09Code_f (by simp), Option.bind_some]
  by_cases h : isS p s ∧ isS p t
  · rw [if_pos ⟨h.1.1, by simp [h]⟩, if_pos h, bne_eq rfl, ifE_f, spec_l09Apart_f h.1 h.2]; rfl
  · rw [if_neg fun h' => h (by simpa using h'.2), if_neg h]; rfl

/-! the paired mover does pair -/
theorem pair_move {p : Int} {a b : Siii} (ha : isB p a) (hb : isB p b) : MoveAt p (red (MP p a b)) ⟨a.c0, a.c1, a.c2, true⟩ ⟨b.c0, b.c1, b.c2, false⟩ true := by
  have hp := ha.1
  have h2 := hp.two
  have da := ha.dn
  have db := hb.dn
  have hq := kof_ne (MP_ne (a := a) (b := b) hp)
  have e := red_smul_kof (MP p a b)
  have hG := det_red_ne (MP_ne (a := a) (b := b) hp)
  generalize hgen : red (MP p a b) = G at *
  generalize (MP p a b).kof = q at *
  have ea : q * G.a = b.c1 * p ^ a.c2.toNat * p ^ negP a b := congrArg M2.a e
  have ec : q * G.c = p ^ a.c2.toNat * p ^ b.c2.toNat * p ^ negP a b := congrArg M2.c e
  have ed : q * G.d = -a.c1 * p ^ b.c2.toNat * p ^ negP a b := congrArg M2.d e
  have hX : p ^ a.c2.toNat * p ^ b.c2.toNat * p ^ negP a b ≠ 0 := Int.mul_ne_zero (Int.mul_ne_zero (pow_ne h2 _) (pow_ne h2 _)) (pow_ne h2 _)
  have hc : G.c ≠ 0 := fun h => by rw [h, Int.mul_zero] at ec; exact hX ec.symm
  have e6a : p ^ 6 = p ^ (6 - a.c2).toNat * p ^ a.c2.toNat := by rw [← Int.pow_add, show (6 - a.c2).toNat + a.c2.toNat = 6 from by omega]
  have e6b : p ^ 6 = p ^ (6 - b.c2).toNat * p ^ b.c2.toNat := by rw [← Int.pow_add, show (6 - b.c2).toNat + b.c2.toNat = 6 from by omega]
  left
  refine ⟨⟨hc, .inl ?_⟩, ?_, rfl⟩
  · refine ((Int.mul_eq_zero (a := q)).1 ?_).resolve_left hq
    show q * (G.c * (a.c1 * p ^ (6 - a.c2).toNat) + G.d * p ^ 6) = 0
    calc q * (G.c * (a.c1 * p ^ (6 - a.c2).toNat) + G.d * p ^ 6) = q * G.c * (a.c1 * p ^ (6 - a.c2).toNat) + q * G.d * p ^ 6 := by grind
      _ = 0 := by rw [ec, ed, e6a]; grind
  · have hz : p ^ 6 * G.a - Pl.mk p b.c1 b.c2 * G.c = 0 := by
      refine ((Int.mul_eq_zero (a := q)).1 ?_).resolve_left hq
      show q * (p ^ 6 * G.a - b.c1 * p ^ (6 - b.c2).toNat * G.c) = 0
      calc q * (p ^ 6 * G.a - b.c1 * p ^ (6 - b.c2).toNat * G.c) = p ^ 6 * (q * G.a) - b.c1 * p ^ (6 - b.c2).toNat * (q * G.c) := by grind
        _ = 0 := by rw [ea, ec, e6b]; grind
    have v1 : vl p q + vl p G.c = a.c2.toNat + b.c2.toNat + negP a b := by
      rw [← vl_mul hp hq hc, ec, ← Int.pow_add, ← Int.pow_add, vl_pow h2]
    have v2 : vl p q + vl p q + vl p G.det = posP a b + (a.c2.toNat + b.c2.toNat) + (a.c2.toNat + b.c2.toNat + negP a b) := by
      have h1 := congrArg M2.det e
      rw [det_smul, MP_det, ← Int.pow_add, ← Int.pow_add, ← Int.pow_add, ← Int.pow_add] at h1
      rw [← vl_mul hp hq hq, ← vl_mul hp (Int.mul_ne_zero hq hq) hG, h1, vl_neg h2, vl_pow h2]
    have hneg : (negP a b : Int) = max (1 - a.c0 - b.c0) 0 := by unfold negP; omega
    have hpos : (posP a b : Int) = max (a.c0 + b.c0 - 1) 0 := by unfold posP; omega
    have hL : b.c0 = (vl p G.det : Int) - 2 * vl p G.c - a.c0 + 1 := by omega
    have hat : IsAt p G.a G.c b.c0 b.c1 b.c2 := ⟨hb, by rw [hz]; exact Int.dvd_zero _⟩
    left
    show Fits p G.a G.c ((vl p G.det : Int) - 2 * vl p G.c - a.c0 + 1) ∧ true = true ∧ b.c0 = (vl p G.det : Int) - 2 * vl p G.c - a.c0 + 1 ∧ IsAt p G.a G.c ((vl p G.det : Int) - 2 * vl p G.c - a.c0 + 1) b.c1 b.c2
    rw [← hL]
    exact ⟨hat.fits hc, rfl, rfl, hat⟩

theorem eqS4 (a b : Side) : (((a.c0 == b.c0) && ((a.c1 == b.c1) && ((a.c2 == b.c2) && true))) && ((a.c3 == b.c3) && true)) = decide (a = b) := by
  cases a; cases b
  rw [Bool.eq_iff_iff]
  simp [Siiib.mk.injEq, and_assoc]

theorem pair_free {p : Int} {a b : Siii} (ha : isB p a) (hb : isB p b) (hap : ¬ Hold p a b ∧ ¬ Hold p b a) (hf : fitM 1000 (red (MP p a b))) :
    impl_IsFree.f p [ofM (red (MP p a b))] [⟨a.c0, a.c1, a.c2, false⟩, ⟨b.c0, b.c1, b.c2, false⟩] = some (true, 0) := by
  have hp := ha.1
  have hM : isM (toM (ofM (red (MP p a b)))) := ⟨hf, det_red_ne (MP_ne hp)⟩
  have hA : isS p (⟨a.c0, a.c1, a.c2, false⟩ : Side) := ha
  have hB : isS p (⟨b.c0, b.c1, b.c2, false⟩ : Side) := hb
  have hA' : isS p (⟨a.c0, a.c1, a.c2, true⟩ : Side) := ha
  unfold impl_IsFree.f impl_freeCode.f
  have hall : ([ofM (red (MP p a b))].all fun x => decide (isM (toM x))) = true := by simp [hM]
  rw [impl_areSides_f (by simp), Option.bind_some, allS2, decide_eq_true ⟨hA, hB⟩, Bool.not_true, ifE_f, impl_areMatrices_f (by simp), Option.bind_some, hall, Bool.not_true, ifE_f,
    ifE_neg (by simp), ifE_neg (by simp), bne_eq (by rfl), ifE_f]
  unfold impl_isFree.f
  obtain ⟨k, hk⟩ := fuel_succ 3 (by omega)
  have hmove : impl_moveSide.f p (ofM (red (MP p a b))) ⟨a.c0, a.c1, a.c2, true⟩ = some (⟨b.c0, b.c1, b.c2, false⟩, true) := by
    obtain ⟨r, ok, e, h⟩ := impl_moveSide_f hA' hM
    obtain ⟨e1, e2⟩ := h.unique hp hM.2 (pair_move ha hb)
    rw [e, e1, e2]
  have hapart : impl_apartSides.f p ⟨b.c0, b.c1, b.c2, false⟩ ⟨a.c0, a.c1, a.c2, false⟩ = some true := by
    rw [impl_apartSides_f hB hA, decide_eq_true]
    unfold ApS; simp only [Bool.false_eq_true, if_false]; exact hap.symm
  have main : impl_isFree.l2 (k + 3) p [ofM (red (MP p a b))] [⟨a.c0, a.c1, a.c2, false⟩, ⟨b.c0, b.c1, b.c2, false⟩] [⟨a.c0, a.c1, a.c2, false⟩, ⟨b.c0, b.c1, b.c2, false⟩] 2 0 = some (true, 0) := by
    simp only [impl_isFree.l2]
    rw [impl_isFree.s2, ifE_pos (by omega)]
    rw [show getE ([⟨a.c0, a.c1, a.c2, false⟩, ⟨b.c0, b.c1, b.c2, false⟩] : List Side) 0 = some ⟨a.c0, a.c1, a.c2, false⟩ from rfl, Option.bind_some, show getS ([⟨a.c0, a.c1, a.c2, false⟩, ⟨b.c0, b.c1, b.c2, false⟩] : List Side) 0 0 = some [] from rfl, Option.bind_some, hk]
    simp only [impl_isFree.l5]
    rw [impl_isFree.s5, ifE_neg (by simp), show W (0 + 1) = 1 from rfl]
    rw [impl_isFree.s2, ifE_pos (by omega)]
    rw [show getE ([⟨a.c0, a.c1, a.c2, false⟩, ⟨b.c0, b.c1, b.c2, false⟩] : List Side) 1 = some ⟨b.c0, b.c1, b.c2, false⟩ from rfl, Option.bind_some, show getS ([⟨a.c0, a.c1, a.c2, false⟩, ⟨b.c0, b.c1, b.c2, false⟩] : List Side) 0 1 = some [⟨a.c0, a.c1, a.c2, false⟩] from rfl, Option.bind_some, hk]
    simp only [impl_isFree.l5]
    rw [impl_isFree.s5, ifE_pos (by simp), show getE ([⟨a.c0, a.c1, a.c2, false⟩] : List Side) 0 = some ⟨a.c0, a.c1, a.c2, false⟩ from rfl, Option.bind_some, hapart, Option.bind_some, Bool.not_true, ifE_f, show W (0 + 1) = 1 from rfl]
    rw [impl_isFree.s5, ifE_neg (by simp), show W (1 + 1) = 2 from rfl]
    rw [impl_isFree.s2, ifE_neg (by omega), hk]
    simp only [impl_isFree.l12]
    rw [impl_isFree.s12, ifE_pos (by simp), show getE [ofM (red (MP p a b))] 0 = some (ofM (red (MP p a b))) from rfl, Option.bind_some, show W (2 * 0) = 0 from rfl, show getE ([⟨a.c0, a.c1, a.c2, false⟩, ⟨b.c0, b.c1, b.c2, false⟩] : List Side) 0 = some ⟨a.c0, a.c1, a.c2, false⟩ from rfl, Option.bind_some]
    rw [show impl_opposite.f (⟨a.c0, a.c1, a.c2, false⟩ : Side) = some ⟨a.c0, a.c1, a.c2, true⟩ from rfl, Option.bind_some, hmove, Option.bind_some, Bool.not_true, ifE_f, show W (0 + 1) = 1 from rfl, show getE ([⟨a.c0, a.c1, a.c2, false⟩, ⟨b.c0, b.c1, b.c2, false⟩] : List Side) 1 = some ⟨b.c0, b.c1, b.c2, false⟩ from rfl, Option.bind_some, eqS4, decide_eq_true rfl, Bool.not_true, ifE_f]
    rw [impl_isFree.s12, ifE_neg (by simp)]
  rw [show fuelN = k + 3 from hk] at *
  have main2 : impl_isFree.l2 (k + 3) p [ofM (red (MP p a b))] [⟨a.c0, a.c1, a.c2, false⟩, ⟨b.c0, b.c1, b.c2, false⟩] [⟨a.c0, a.c1, a.c2, false⟩, ⟨b.c0, b.c1, b.c2, false⟩] (([⟨a.c0, a.c1, a.c2, false⟩, ⟨b.c0, b.c1, b.c2, false⟩] : List Side).length : Int) 0 = some (true, 0) := main
  rw [main2]; rfl

end Go.Gn
end
