import Derived.Test.YtdfepbmcglnhcaaGreatFwPB
import Derived.Test.YtdfepbmcglnhcaaGreatFwF
section
set_option linter.unusedVariables false
set_option linter.unusedSimpArgs false
/-! plain: the draws of FnFreeWords -/
namespace Go.Gn
open Go Go.Eng Pl Pl.M2

def i64 (x : Int) : Prop := -9223372036854775808 ≤ x ∧ x ≤ 9223372036854775807
instance (x : Int) : Decidable (i64 x) := inferInstanceAs (Decidable (_ ∧ _))
theorem W_i64 (x : Int) : i64 (W x) := by
  unfold i64
  show -9223372036854775808 ≤ IntKind.wrap .i64 x ∧ IntKind.wrap .i64 x ≤ 9223372036854775807
  unfold IntKind.wrap
  simp [IntKind.bits, IntKind.signed]
  have := @Int.bmod_lt x (2 ^ 64) (by decide)
  have := @Int.le_bmod x (2 ^ 64) (by decide)
  omega

theorem ex_gcd_l : ∀ (k : Nat) (a b : Int), b.natAbs < k → i64 a → i64 b → (a ≠ 0 ∨ b ≠ 0) → Ex (fun r => r ≠ 0 ∧ i64 r) (spec_l01Gcd.l1 k a b) := by
  intro k
  induction k with
  | zero => intro a b h; omega
  | succ k ih =>
    intro a b hk ha hb h0
    simp only [spec_l01Gcd.l1, spec_l01Gcd.s1]
    refine Ex.ite (fun h => ?_) fun h => Ex.ret ?_
    · have h : b ≠ 0 := by simpa using h
      have t := tmod_lt a b h
      exact Ex.guard h (ih _ _ (by omega) hb (by unfold i64 at *; omega) (.inl h))
    · have h : b = 0 := by simpa using h
      have h1 : a ≠ 0 := by rcases h0 with g | g; exact g; exact absurd h g
      have w := W_i64 (0 - a)
      unfold i64 at *
      by_cases hm : a = -9223372036854775808
      · subst hm; exact ⟨by decide, by decide⟩
      · rw [W_id (n := 0 - a) (by omega) (by omega)] at *
        unfold imax; split <;> omega
theorem ex_gcd {a b : Int} (ha : i64 a) (hb : i64 b) (h0 : a ≠ 0 ∨ b ≠ 0) : Ex (fun r => r ≠ 0 ∧ i64 r) (spec_l01Gcd.f a b) := ex_gcd_l fuelN a b (lt_fuel (by unfold i64 at hb; omega)) ha hb h0

theorem ex_endOf2 {x y : Int} (hx : i64 x) (hy : i64 y) : Ex (fun r : Sii × Bool => i64 r.1.c0 ∧ i64 r.1.c1) (spec_l01EndOf.f x y) := by
  unfold spec_l01EndOf.f
  refine Ex.ite (fun _ => Ex.ret ⟨by decide, by decide⟩) fun h => ?_
  have h : y ≠ 0 := by simpa using h
  refine Ex.bind (ex_gcd hx hy (.inr h)) fun r hr => ?_
  have hj : ∀ g : Int, g ≠ 0 → Ex (fun r : Sii × Bool => i64 r.1.c0 ∧ i64 r.1.c1) (spec_l01EndOf.j6 x y g 0 0) := by
    intro g hg
    unfold spec_l01EndOf.j6
    exact Ex.guard hg (Ex.guard hg (Ex.ite (fun _ => Ex.ret ⟨W_i64 _, W_i64 _⟩) fun _ => Ex.ret ⟨W_i64 _, W_i64 _⟩))
  refine Ex.ite (fun _ => hj _ ?_) fun _ => hj _ hr.1
  obtain ⟨h1, h2⟩ := hr
  unfold i64 at h2
  by_cases hm : r = -9223372036854775808
  · subst hm; decide
  · rw [W_id (by omega) (by omega)]; omega

theorem ex_l04End (g : Siiii) (e : Sii) : Ex (fun _ => True) (spec_l04End.f g e) := by
  unfold spec_l04End.f
  exact Ex.bind (ex_endOf2 (W_i64 _) (W_i64 _)) fun r hr => Ex.ret trivial

theorem ex_l05Small {s : Src} (hs : SrcOk s) : Ex G2 (spec_l05Small.f s) := by
  unfold spec_l05Small.f
  refine Ex.bind (ex_next hs (by omega)) fun r hr => Ex.ite (fun _ => Ex.ret hr.2) fun _ => ?_
  exact Ex.bind (ex_next hr.2 (by omega)) fun q hq => Ex.bind (ex_pick hq.2 (by simp)) fun z hz => Ex.bind (ex_endOf2 (W_i64 _) (by
    have := hz.1
    simp only [List.mem_cons, List.not_mem_nil, or_false] at this
    unfold i64; omega)) fun y _ => Ex.ret hz.2

abbrev GMv := fun r : Int × List Siiii × List Siiib × Src => (1 ≤ r.2.1.length ∧ r.2.1.length ≤ 4 ∧ r.2.2.1.length ≤ 8) ∧ SrcOk r.2.2.2

theorem movers_l {p L m s0 : Int} (hp : IsP p) (hLm : (L = 2 ∧ m = p * p) ∨ (L = 1 ∧ m = p)) (hs0 : 0 ≤ s0 ∧ s0 < m) {n : Int} (hn : 1 ≤ n ∧ n ≤ 4) : ∀ (k : Nat) (i : Int) (s : Src) (l : List Siiii) (l2 : List Siiib), 0 ≤ i → i ≤ n → (n - i).toNat < k → (l.length : Int) = i → (l2.length : Int) = 2 * i → SrcOk s →
    Ex GMv (spec_l09Movers.l9 k p L m n s0 i s.c0 s.c1 s.c2 l l2) := by
  have hm : 2 ≤ m ∧ m ≤ 49 ∧ p ^ L.toNat = m ∧ (0 < L ∧ L ≤ 2) := by
    rcases hLm with ⟨rfl, rfl⟩ | ⟨rfl, rfl⟩ <;> rcases hp with rfl | rfl | rfl | rfl <;> decide
  intro k
  induction k with
  | zero => intro i s l l2 h0 h1 hk; omega
  | succ k ih =>
    intro i s l l2 h0 h1 hk hl hl2 hs
    simp only [spec_l09Movers.l9, spec_l09Movers.s9]
    refine Ex.ite (fun h => ?_) fun h => ?_
    · have h : i < n := by simpa using h
      rw [W_id (n := 2 * i) (by omega) (by omega), W_id (n := s0 + 2 * i) (by omega) (by omega), W_id (n := s0 + 2 * i + 1) (by omega) (by omega)]
      refine Ex.guard (by omega) (Ex.guard (by omega) ?_)
      have hball : ∀ x : Int, 0 ≤ x → isB p ⟨L, Int.tmod x m, 0⟩ := by
        intro x hx
        have e : Int.tmod x m = x % m := Int.tmod_eq_emod_of_nonneg hx
        have r := emod_range (a := x) (m := m) (by omega)
        refine ⟨hp, ⟨by show -6 ≤ L; omega, by show L ≤ 6; omega⟩, ⟨by show (0 : Int) ≤ 0; omega, by show (0 : Int) ≤ 6; omega⟩, .inr ⟨by show 0 < L + 0; omega, ?_, ?_, .inl rfl⟩⟩
        · show 0 ≤ Int.tmod x m; omega
        · show Int.tmod x m < p ^ (L + 0).toNat
          rw [Int.add_zero, hm.2.2.1]; omega
      rw [spec_l09Paired_f (hball _ (by omega)) (hball _ (by omega)), Option.bind_some]
      have hj : ∀ a b c d : Int, Ex GMv (spec_l09Movers.j16 (spec_l09Movers.l9 k) p L m n s0 i s.c0 s.c1 s.c2 l l2 L (Int.tmod (s0 + 2 * i) m) 0 L (Int.tmod (s0 + 2 * i + 1) m) 0 a b c d) := by
        intro a b c d
        unfold spec_l09Movers.j16
        refine Ex.guard (by simp only [List.length_cons, List.length_nil]; omega) (Ex.guard (by simp only [List.length_cons, List.length_nil]; omega) ?_)
        rw [W_id (n := i + 1) (by omega) (by omega)]
        exact ih _ s _ _ (by omega) (by omega) (by omega) (by simp only [List.length_append, List.length_cons, List.length_nil]; omega) (by simp only [List.length_append, List.length_cons, List.length_nil]; omega) hs
      exact Ex.ite (fun _ => hj _ _ _ _) fun _ => hj _ _ _ _
    · have h : i = n := by have : ¬ i < n := by simpa using h
                           omega
      have hs' : SrcOk (⟨s.c0, s.c1, s.c2⟩ : Src) := hs
      refine Ex.bind (ex_next hs' (by omega)) fun r5 h5 => ?_
      refine Ex.ite (fun _ => ?_) fun _ => ?_
      · refine Ex.bind (ex_l04Draw h5.2) fun r6 h6 => ?_
        obtain ⟨x, hx, -, -⟩ := getE_some (l := l) (i := 0) (by omega) (by omega)
        rw [hx, Option.bind_some]
        exact Ex.ret ⟨⟨by simp only [List.length_set]; omega, by simp only [List.length_set]; omega, by show l2.length ≤ 8; omega⟩, h6⟩
      refine Ex.ite (fun _ => ?_) fun _ => ?_
      · refine Ex.bind (ex_next h5.2 (by omega)) fun r8 h8 => Ex.bind (ex_l09Side h8.2 _) fun r9 h9 => ?_
        obtain ⟨x, hx, -, -⟩ := getE_some (l := l2) (i := r8.1) (by have := h8.1; omega) (by have := h8.1; omega)
        rw [hx, Option.bind_some]
        exact Ex.ret ⟨⟨by show 1 ≤ l.length; omega, by show l.length ≤ 4; omega, by simp only [List.length_set]; omega⟩, h9⟩
      refine Ex.ite (fun _ => ?_) fun _ => ?_
      · have hg : getS l2 1 (l2.length : Int) = some ((l2.take (l2.length : Int).toNat).drop (1 : Int).toNat) := by unfold getS; rw [if_pos ⟨by omega, by omega, by omega⟩]
        rw [hg, Option.bind_some]
        exact Ex.ret ⟨⟨by show 1 ≤ l.length; omega, by show l.length ≤ 4; omega, by simp only [List.length_drop, List.length_take]; omega⟩, h5.2⟩
      exact Ex.ite (fun _ => Ex.ret ⟨⟨by simp, by simp, by simp⟩, h5.2⟩) fun _ => Ex.ret ⟨⟨by show 1 ≤ l.length; omega, by show l.length ≤ 4; omega, by show l2.length ≤ 8; omega⟩, h5.2⟩

theorem ex_l09Movers {s : Src} (hs : SrcOk s) : Ex GMv (spec_l09Movers.f s) := by
  unfold spec_l09Movers.f
  refine Ex.bind (ex_pick hs (by simp)) fun r hr => ?_
  have hp : IsP r.1 := by
    have := hr.1
    simp only [List.mem_cons, List.not_mem_nil, or_false] at this
    unfold IsP; omega
  have hj : ∀ L m : Int, (L = 2 ∧ m = r.1 * r.1) ∨ (L = 1 ∧ m = r.1 ∧ 5 ≤ r.1) → Ex GMv (spec_l09Movers.j6 r.1 L m r.2.c0 r.2.c1 r.2.c2) := by
    intro L m hLm
    unfold spec_l09Movers.j6
    have hm : 4 ≤ m ∧ m ≤ 49 := by
      rcases hLm with ⟨rfl, rfl⟩ | ⟨rfl, rfl, h5⟩
      · rcases hp with h | h | h | h <;> rw [h] <;> decide
      · have := isP_range hp; omega
    have q := quo_facts (a := m) (b := 2) (by omega) (by omega)
    have hr2 : SrcOk (⟨r.2.c0, r.2.c1, r.2.c2⟩ : Src) := hr.2
    rw [W_id (n := Int.tdiv m 2) (by omega) (by omega)]
    have hi : 1 ≤ imin (Int.tdiv m 2) 3 ∧ imin (Int.tdiv m 2) 3 ≤ 3 := by unfold imin; split <;> omega
    refine Ex.bind (ex_next hr2 (by omega)) fun r2 h2 => Ex.bind (ex_next h2.2 (by omega)) fun r3 h3 => ?_
    have m2 := h2.1
    rw [W_id (n := 1 + r2.1) (by omega) (by omega)]
    exact movers_l hp (by rcases hLm with h | h; exact .inl h; exact .inr ⟨h.1, h.2.1⟩) h3.1 (by omega) fuelN 0 r3.2 [] [] (by omega) (by omega) (lt_fuel (by omega)) rfl rfl h3.2
  refine Ex.ite (fun h => ?_) fun h => ?_
  · have h : r.1 < 5 := by simpa using h
    have e : W (r.1 * r.1) = r.1 * r.1 := by rcases hp with h | h | h | h <;> rw [h] <;> decide
    rw [e]
    exact hj _ _ (.inl ⟨rfl, rfl⟩)
  · have h : ¬ r.1 < 5 := by simpa using h
    exact hj _ _ (.inr ⟨rfl, rfl, by omega⟩)

abbrev GWd := fun r : List Int × Src => r.1.length ≤ 20 ∧ SrcOk r.2

theorem words_l (v : Int) (hv : 1 ≤ v ∧ v ≤ 4) : ∀ (k : Nat) (i : Int) (s : Src) (l : List Int), i ≤ 10 → i.toNat < k → (l.length : Int) + max i 0 ≤ 10 → SrcOk s →
    Ex GWd (spec_l09Words.l3 k v i s.c0 s.c1 s.c2 l) := by
  intro k
  induction k with
  | zero => intro i s l h0 hk; omega
  | succ k ih =>
    intro i s l h0 hk hl hs
    simp only [spec_l09Words.l3, spec_l09Words.s3]
    have hs' : SrcOk (⟨s.c0, s.c1, s.c2⟩ : Src) := hs
    refine Ex.ite (fun h => ?_) fun h => ?_
    · have h : i > 0 := by simpa using h
      have go : ∀ (x : Int) (s : Src), SrcOk s → Ex GWd (guardE ((l.length + [x].length) * 8 ≤ 140737488355328) (spec_l09Words.l3 k v (W (i - 1)) s.c0 s.c1 s.c2 (l ++ [x]))) := by
        intro x s hs
        refine Ex.guard (by simp only [List.length_cons, List.length_nil]; omega) ?_
        rw [W_id (n := i - 1) (by omega) (by omega)]
        exact ih _ s _ (by omega) (by omega) (by simp only [List.length_append, List.length_cons, List.length_nil]; omega) hs
      refine Ex.bind (ex_next hs' (by omega)) fun r3 h3 => Ex.bind (ex_next h3.2 (by omega)) fun r4 h4 => ?_
      refine Ex.ite (fun hpos => ?_) fun _ => go _ _ h4.2
      have hpos : (l.length : Int) > 0 := by simpa using hpos
      rw [W_id (n := (l.length : Int) - 1) (by omega) (by omega)]
      obtain ⟨x, hx, -, -⟩ := getE_some (l := l) (i := (l.length : Int) - 1) (by omega) (by omega)
      rw [hx, Option.bind_some]
      refine Ex.ite (fun _ => ?_) fun _ => go _ _ h4.2
      refine Ex.bind (ex_next h4.2 (by omega)) fun r6 h6 => ?_
      exact Ex.ite (fun _ => go _ _ h6.2) fun _ => go _ _ h6.2
    · refine Ex.bind (ex_next hs' (by omega)) fun r7 h7 => ?_
      refine Ex.ite (fun _ => ?_) fun _ => Ex.ret ⟨by show l.length ≤ 20; omega, h7.2⟩
      refine Ex.bind (ex_pick h7.2 (by simp)) fun r8 h8 => Ex.guard (by simp only [List.length_cons, List.length_nil]; omega) (Ex.ret ⟨by simp only [List.length_append, List.length_cons, List.length_nil]; omega, h8.2⟩)

theorem ex_l09Words {s : Src} (hs : SrcOk s) {v : Int} (hv : 1 ≤ v ∧ v ≤ 4) : Ex GWd (spec_l09Words.f s v) := by
  unfold spec_l09Words.f
  refine Ex.bind (ex_next hs (by omega)) fun r hr => Ex.bind (ex_pick hr.2 (by simp)) fun q hq => ?_
  have h := hq.1
  have h1 := hr.1
  simp only [List.mem_cons, List.not_mem_nil, or_false] at h
  exact words_l v hv fuelN _ q.2 [] (by omega) (lt_fuel (by omega)) (by simp only [List.length_nil]; omega) hq.2

theorem ex_l01Near {s : Src} (hs : SrcOk s) {n : Int} (hn : 0 ≤ n ∧ n ≤ 1000) : Ex (fun r : Int × Src => SrcOk r.2) (spec_l01Near.f s n) := by
  unfold spec_l01Near.f
  refine Ex.bind (ex_next hs (by omega)) fun r hr => Ex.ite (fun _ => Ex.bind (ex_pick hr.2 (by simp)) fun q hq => Ex.ret hq.2) fun _ => ?_
  rw [W_id (n := n + 1) (by omega) (by omega)]
  exact Ex.bind (ex_next hr.2 (by omega)) fun q hq => Ex.ret hq.2

section
variable {code : List Int} (hb : ∀ x ∈ code, 0 ≤ x ∧ x < 256) (hl : code.length ≤ 4500)
include hb hl
theorem ex_DrawSideOfWord : Ex (fun r => (1 ≤ r.2.1.length ∧ r.2.1.length ≤ 4 ∧ r.2.2.1.length ≤ 8) ∧ r.2.2.2.length ≤ 20) (spec_DrawSideOfWord.f code) := by
  unfold spec_DrawSideOfWord.f
  exact Ex.bind (ex_from hb (by omega)) fun s hs => Ex.bind (ex_l09Movers hs) fun r hr => Ex.bind (ex_l09Words hr.2 (by have := hr.1; omega)) fun q hq => Ex.ret ⟨hr.1, hq.1⟩
theorem ex_DrawWordMatrix : Ex (fun r => (1 ≤ r.1.length ∧ r.1.length ≤ 4) ∧ r.2.length ≤ 20) (spec_DrawWordMatrix.f code) := by
  unfold spec_DrawWordMatrix.f
  exact Ex.bind (ex_from hb (by omega)) fun s hs => Ex.bind (ex_l09Movers hs) fun r hr => Ex.bind (ex_l09Words hr.2 (by have := hr.1; omega)) fun q hq => Ex.ret ⟨⟨hr.1.1, hr.1.2.1⟩, hq.1⟩
theorem ex_DrawIsFree : Ex (fun r => (1 ≤ r.2.1.length ∧ r.2.1.length ≤ 4 ∧ r.2.2.length ≤ 8)) (spec_DrawIsFree.f code) := by
  unfold spec_DrawIsFree.f
  exact Ex.bind (ex_from hb (by omega)) fun s hs => Ex.bind (ex_l09Movers hs) fun r hr => Ex.ret hr.1
theorem ex_DrawCountShortWords : Ex TT (spec_DrawCountShortWords.f code) := by
  unfold spec_DrawCountShortWords.f
  exact Ex.bind (ex_from hb (by omega)) fun s hs => Ex.bind (ex_l01Near hs (by omega)) fun r hr => Ex.bind (ex_l01Near hr (by omega)) fun q hq => Ex.ret trivial
theorem ex_DrawIsShortWord : Ex (fun r => r.2.length ≤ 20) (spec_DrawIsShortWord.f code) := by
  unfold spec_DrawIsShortWord.f
  exact Ex.bind (ex_from hb (by omega)) fun s hs => Ex.bind (ex_l01Near hs (by omega)) fun r hr => Ex.bind (ex_l09Words hr (by unfold imin imax; split <;> split <;> omega)) fun q hq => Ex.ret hq.1
omit hb hl in
theorem bring_l (p : Int) (ms : List Siiii) (ss : List Siiib) (hm : 1 ≤ ms.length ∧ ms.length ≤ 4 ∧ ss.length ≤ 8) : ∀ (k : Nat) (i : Int) (s : Src) (a b x y : Int), i ≤ 10 → i.toNat < k → SrcOk s →
    Ex (fun r => 1 ≤ r.2.1.length ∧ r.2.1.length ≤ 4 ∧ r.2.2.1.length ≤ 8) (spec_DrawBringOut.l5 k p ms ss i a b s.c0 s.c1 s.c2 x y) := by
  intro k
  induction k with
  | zero => intro i s a b x y h0 hk; omega
  | succ k ih =>
    intro i s a b x y h0 hk hs
    simp only [spec_DrawBringOut.l5, spec_DrawBringOut.s5]
    have hs' : SrcOk (⟨s.c0, s.c1, s.c2⟩ : Src) := hs
    refine Ex.ite (fun h => ?_) fun h => ?_
    · have h : i > 0 := by simpa using h
      rw [W_id (n := i - 1) (by omega) (by omega)]
      refine Ex.bind (ex_next hs' (by omega)) fun r5 h5 => ?_
      obtain ⟨g, hg, -, -⟩ := getE_some (l := ms) (i := r5.1) (by have := h5.1; omega) (by have := h5.1; omega)
      rw [hg, Option.bind_some]
      refine Ex.bind (ex_l04End _ _) fun r7 _ => ?_
      exact Ex.ite (fun _ => ih _ _ _ _ _ _ (by omega) (by omega) h5.2) fun _ => ih _ _ _ _ _ _ (by omega) (by omega) h5.2
    · refine Ex.bind (ex_next hs' (by omega)) fun r8 h8 => ?_
      exact Ex.ite (fun _ => Ex.ret hm) fun _ => Ex.ret hm
theorem ex_DrawBringOut : Ex (fun r => 1 ≤ r.2.1.length ∧ r.2.1.length ≤ 4 ∧ r.2.2.1.length ≤ 8) (spec_DrawBringOut.f code) := by
  unfold spec_DrawBringOut.f
  refine Ex.bind (ex_from hb (by omega)) fun s hs => Ex.bind (ex_l09Movers hs) fun r hr => Ex.bind (ex_l05Small hr.2) fun q hq => Ex.bind (ex_next hq (by omega)) fun z hz => ?_
  exact bring_l _ _ _ hr.1 fuelN _ z.2 _ _ _ _ (by have := hz.1; omega) (lt_fuel (by have := hz.1; omega)) hz.2
end
end Go.Gn
end
section
set_option linter.unusedVariables false
set_option linter.unusedSimpArgs false
/-! plain: apart sides are disjoint; moves up to a factor -/
namespace Go.Gn
open Go Go.Eng Pl Pl.M2

theorem ap_smul_iff {p : Int} (hp : IsP p) {K : M2} {s : Int} (hs : s ≠ 0) : Ap p (smul s K) ↔ Ap p K := ⟨fun h => h.unsmul hp hs, fun h => h.smul hp hs⟩

/-- apart: K = (P, y; 0, Q) by valuations -/
theorem ap_upper {p : Int} (hp : IsP p) {n m : Nat} {y : Int} : Ap p ⟨p ^ m, y, 0, p ^ n⟩ ↔ y ≠ 0 ∧ vl p y < m ∧ vl p y < n := by
  have h2 := hp.two
  constructor
  · rintro ⟨k, a, b, c, d, e, hb⟩
    have e1 := congrArg M2.a e
    have e2 := congrArg M2.b e
    have e4 := congrArg M2.d e
    simp only at e1 e2 e4
    have hb0 : b ≠ 0 := fun h => hb (by rw [h]; exact Int.dvd_zero _)
    have hv : vl p y = k := by rw [e2, vl_pow_mul h2 _ hb0, show vl p b = 0 from vl_unique (m := b) h2 hb0 (by simp) hb]; rfl
    refine ⟨by rw [e2]; exact Int.mul_ne_zero (pow_ne h2 _) hb0, ?_, ?_⟩
    · rw [hv]
      have ha0 : a ≠ 0 := fun h => by rw [h] at e1; simp at e1; exact pow_ne h2 m e1
      have hpa : p * a ≠ 0 := Int.mul_ne_zero (by omega) ha0
      have := congrArg (vl p) e1
      rw [vl_pow h2, vl_pow_mul h2 _ hpa, vl_mul hp (by omega) ha0, show vl p p = 1 from by have := vl_pow h2 1; rwa [show p ^ 1 = p from by grind] at this] at this
      omega
    · rw [hv]
      have hd0 : d ≠ 0 := fun h => by rw [h] at e4; simp at e4; exact pow_ne h2 n e4
      have hpd : p * d ≠ 0 := Int.mul_ne_zero (by omega) hd0
      have := congrArg (vl p) e4
      rw [vl_pow h2, vl_pow_mul h2 _ hpd, vl_mul hp (by omega) hd0, show vl p p = 1 from by have := vl_pow h2 1; rwa [show p ^ 1 = p from by grind] at this] at this
      omega
  · rintro ⟨h0, h1, h3⟩
    obtain ⟨b, e, hb⟩ := vl_spec h2 h0
    refine ⟨vl p y, p ^ (m - vl p y - 1), b, 0, p ^ (n - vl p y - 1), ?_, hb⟩
    ext
    · show p ^ m = p ^ vl p y * (p * p ^ (m - vl p y - 1))
      rw [Int.mul_comm p, ← Int.pow_succ, ← Int.pow_add]; congr 1; omega
    · exact e
    · show (0 : Int) = p ^ vl p y * (p * 0); simp
    · show p ^ n = p ^ vl p y * (p * p ^ (n - vl p y - 1))
      rw [Int.mul_comm p, ← Int.pow_succ, ← Int.pow_add]; congr 1; omega

theorem dvd_vl {p : Int} (hp : IsP p) {y : Int} {n : Nat} : p ^ n ∣ y ↔ y = 0 ∨ n ≤ vl p y := by
  by_cases h : y = 0
  · simp [h]
  · rw [dvd_iff_le_vl hp.two h]; simp [h]

/-- inside, inside -/
theorem dis_in {p : Int} {b c : Siii} (hb : isB p b) (hc : isB p c) : Dis p (bM p b) (bM p c) ↔ ¬ Hold p b c ∧ ¬ Hold p c b := by
  have hp := hb.1
  have l1 := hb.lv
  have l2 := hc.lv
  unfold Dis
  have e : (bM p b).adj.mul (bM p c) = smul (p ^ 6) ⟨p ^ lvB c, mkB p c - mkB p b, 0, p ^ lvB b⟩ := adj_ofB_mul p (lvB b) (lvB c) (mkB p b) (mkB p c)
  have n1 : (lvB b : Int) = b.c0 + 6 := nL_int l1
  have n2 : (lvB c : Int) = c.c0 + 6 := nL_int l2
  have hneg : mkB p b - mkB p c = -(mkB p c - mkB p b) := by omega
  rw [e, ap_smul_iff hp (pow_ne hp.two 6), ap_upper hp]
  unfold Hold
  rw [hneg, Int.dvd_neg, dvd_vl hp, dvd_vl hp]
  by_cases h0 : mkB p c - mkB p b = 0
  · simp [h0]; omega
  · simp only [h0, false_or, ne_eq, not_false_eq_true, true_and]
    omega

/-- outside, inside -/
theorem dis_out {p : Int} {b c : Siii} (hb : isB p b) (hc : isB p c) : Dis p ((bM p b).mul (turn p)) (bM p c) ↔ Hold p b c := by
  have hp := hb.1
  have h2 := hp.two
  have l1 := hb.lv
  have l2 := hc.lv
  unfold Dis
  have n1 : (lvB b : Int) = b.c0 + 6 := nL_int l1
  have n2 : (lvB c : Int) = c.c0 + 6 := nL_int l2
  have e : ((bM p b).mul (turn p)).adj.mul (bM p c) = smul (p ^ 6) ⟨0, -p ^ lvB b, -(p * p ^ lvB c), -(p * (mkB p c - mkB p b))⟩ := by
    have e1 : ((bM p b).mul (turn p)).adj.mul (bM p c) = (turn p).adj.mul ((bM p b).adj.mul (bM p c)) := by rw [adj_mul, mul_assoc]
    have e0 : (bM p b).adj.mul (bM p c) = smul (p ^ 6) ⟨p ^ lvB c, mkB p c - mkB p b, 0, p ^ lvB b⟩ := adj_ofB_mul p (lvB b) (lvB c) (mkB p b) (mkB p c)
    rw [e1, e0, mul_smul]
    congr 1
    ext <;> simp only [turn, adj, mul] <;> grind
  rw [e, ap_smul_iff hp (pow_ne h2 6)]
  unfold Hold
  constructor
  · rintro ⟨k, a, b', c', d, e, hb'⟩
    have e2 := congrArg M2.b e
    have e3 := congrArg M2.c e
    have e4 := congrArg M2.d e
    simp only at e2 e3 e4
    have hb0 : b' ≠ 0 := fun h => hb' (by rw [h]; exact Int.dvd_zero _)
    have hk : lvB b = k := by
      have := congrArg (vl p) e2
      rw [vl_neg h2, vl_pow h2, vl_pow_mul h2 _ hb0, show vl p b' = 0 from vl_unique (m := b') h2 hb0 (by simp) hb'] at this
      omega
    subst hk
    have f3 : p ^ lvB c = p ^ lvB b * -c' := by
      refine Int.eq_of_mul_eq_mul_left (a := p) (by omega) ?_
      calc p * p ^ lvB c = -(p ^ lvB b * (p * c')) := by omega
        _ = _ := by grind
    have f4 : mkB p c - mkB p b = p ^ lvB b * -d := by
      refine Int.eq_of_mul_eq_mul_left (a := p) (by omega) ?_
      calc p * (mkB p c - mkB p b) = -(p ^ lvB b * (p * d)) := by omega
        _ = _ := by grind
    refine ⟨?_, ⟨_, f4⟩⟩
    have := (dvd_vl hp (y := p ^ lvB c) (n := lvB b)).1 ⟨_, f3⟩
    rw [vl_pow h2] at this
    have := pow_ne h2 (lvB c)
    omega
  · rintro ⟨h1, q, hq⟩
    have one : ¬ p ∣ (-1 : Int) := fun h => by have := Int.le_of_dvd (by omega) (Int.dvd_neg.2 h); omega
    refine ⟨lvB b, 0, -1, -p ^ (lvB c - lvB b), -q, ?_, one⟩
    ext
    · show (0 : Int) = p ^ lvB b * (p * 0); simp
    · show -p ^ lvB b = p ^ lvB b * -1; omega
    · show -(p * p ^ lvB c) = p ^ lvB b * (p * -p ^ (lvB c - lvB b))
      have : p ^ lvB c = p ^ lvB b * p ^ (lvB c - lvB b) := by rw [← Int.pow_add]; congr 1; omega
      rw [this]; grind
    · show -(p * (mkB p c - mkB p b)) = p ^ lvB b * (p * -q)
      rw [hq]; grind

/-- outside, outside -/
theorem dis_oo {p : Int} {b c : Siii} (hb : isB p b) (hc : isB p c) : ¬ Dis p ((bM p b).mul (turn p)) ((bM p c).mul (turn p)) := by
  have hp := hb.1
  have h2 := hp.two
  unfold Dis
  have e : ((bM p b).mul (turn p)).adj.mul ((bM p c).mul (turn p)) = smul (p ^ 6) ⟨-(p * p ^ lvB b), 0, -(p * (p * (mkB p c - mkB p b))), -(p * p ^ lvB c)⟩ := by
    have e1 : ((bM p b).mul (turn p)).adj.mul ((bM p c).mul (turn p)) = ((turn p).adj.mul ((bM p b).adj.mul (bM p c))).mul (turn p) := by rw [adj_mul, mul_assoc, mul_assoc, mul_assoc]
    have e0 : (bM p b).adj.mul (bM p c) = smul (p ^ 6) ⟨p ^ lvB c, mkB p c - mkB p b, 0, p ^ lvB b⟩ := adj_ofB_mul p (lvB b) (lvB c) (mkB p b) (mkB p c)
    rw [e1, e0, mul_smul, smul_mul]
    congr 1
    ext <;> simp only [turn, adj, mul] <;> grind
  rw [e, ap_smul_iff hp (pow_ne h2 6)]
  rintro ⟨k, a, b', c', d, e, hb'⟩
  have e2 := congrArg M2.b e
  simp only at e2
  exact hb' (by rw [((Int.mul_eq_zero.1 e2.symm).resolve_left (pow_ne h2 k))]; exact Int.dvd_zero _)

theorem aps_dis {p : Int} {s t : Side} (hs : isS p s) (ht : isS p t) : ApS p s t ↔ Dis p (sM p s) (sM p t) := by
  unfold ApS sM
  cases s.c3 <;> cases t.c3
  · simp only [Bool.false_eq_true, if_false]; exact (dis_in hs ht).symm
  · simp only [Bool.false_eq_true, if_false, if_true]
    rw [← dis_out ht hs]
    exact ⟨fun h => h.symm, fun h => h.symm⟩
  · simp only [Bool.false_eq_true, if_false, if_true]; exact (dis_out hs ht).symm
  · simp only [if_true, false_iff]; exact dis_oo hs ht

/-! moves up to a factor -/
theorem moveAt_scale {p : Int} {g : M2} {s r : Side} {ok : Bool} {k : Int} (hp : IsP p) (hg : g.det ≠ 0) (hk : k ≠ 0) : MoveAt p (smul k g) s r ok ↔ MoveAt p g s r ok := by
  have en : numS p (smul k g) s = k * numS p g s := by unfold numS smul; simp only; grind
  have ed : denS p (smul k g) s = k * denS p g s := by unfold denS smul; simp only; grind
  have hkk : k * k ≠ 0 := Int.mul_ne_zero hk hk
  have vd : vl p (smul k g).det = 2 * vl p k + vl p g.det := by rw [det_smul, vl_mul hp hkk hg, vl_mul hp hk hk]; omega
  have hin : Inside p (smul k g) s ↔ Inside p g s := by
    unfold Inside
    rw [ed]
    have ec : (smul k g).c = k * g.c := rfl
    rw [ec]
    by_cases hc : g.c = 0
    · simp [hc]
    · have hkc := Int.mul_ne_zero hk hc
      by_cases hd : denS p g s = 0
      · simp [hd, hc, hk]
      · have hkd := Int.mul_ne_zero hk hd
        rw [vl_mul hp hk hc, vl_mul hp hk hd]
        simp only [hkc, hkd, hc, hd, ne_eq, not_false_eq_true, true_and, false_or]
        omega
  unfold MoveAt
  rw [hin, en, ed, vd]
  have ec : (smul k g).c = k * g.c := rfl
  have ea : (smul k g).a = k * g.a := rfl
  rw [ec, ea]
  constructor
  · rintro (⟨h1, h2, h3⟩ | ⟨h1, h2, h3⟩)
    · left
      refine ⟨h1, ?_, h3⟩
      have hc := h1.1
      rw [atB_scale hp hk hc, vl_mul hp hk hc] at h2
      rwa [show ((2 * vl p k + vl p g.det : Nat) : Int) - 2 * ((vl p k + vl p g.c : Nat) : Int) - s.c0 + 1 = (vl p g.det : Int) - 2 * vl p g.c - s.c0 + 1 from by omega] at h2
    · right
      refine ⟨h1, ?_, h3⟩
      have hd := den_ne hp hg h1
      rw [atB_scale hp hk hd, vl_mul hp hk hd] at h2
      rwa [show ((2 * vl p k + vl p g.det : Nat) : Int) + s.c0 - 2 * (((vl p k + vl p (denS p g s) : Nat) : Int) - 6) = (vl p g.det : Int) + s.c0 - 2 * ((vl p (denS p g s) : Int) - 6) from by omega] at h2
  · rintro (⟨h1, h2, h3⟩ | ⟨h1, h2, h3⟩)
    · left
      refine ⟨h1, ?_, h3⟩
      have hc := h1.1
      rw [atB_scale hp hk hc, vl_mul hp hk hc]
      rwa [show ((2 * vl p k + vl p g.det : Nat) : Int) - 2 * ((vl p k + vl p g.c : Nat) : Int) - s.c0 + 1 = (vl p g.det : Int) - 2 * vl p g.c - s.c0 + 1 from by omega]
    · right
      refine ⟨h1, ?_, h3⟩
      have hd := den_ne hp hg h1
      rw [atB_scale hp hk hd, vl_mul hp hk hd]
      rwa [show ((2 * vl p k + vl p g.det : Nat) : Int) + s.c0 - 2 * (((vl p k + vl p (denS p g s) : Nat) : Int) - 6) = (vl p g.det : Int) + s.c0 - 2 * ((vl p (denS p g s) : Int) - 6) from by omega]

theorem moveAt_red {p : Int} {g : M2} {s r : Side} {ok : Bool} (hp : IsP p) (hg : g.det ≠ 0) : MoveAt p (red g) s r ok ↔ MoveAt p g s r ok := by
  rw [← moveAt_scale hp (det_red_ne hg) (kof_ne hg), red_smul_kof]

/-- the opposite side -/
def opp (s : Side) : Side := ⟨s.c0, s.c1, s.c2, !s.c3⟩
theorem opp_opp (s : Side) : opp (opp s) = s := by cases s; simp [opp]
theorem moveAt_opp {p : Int} {g : M2} {s r : Side} {ok : Bool} (h : MoveAt p g s r ok) : MoveAt p g (opp s) (opp r) ok := by
  rcases h with ⟨a, b, c⟩ | ⟨a, b, c⟩
  · exact .inl ⟨a, b, by simp [opp, c]⟩
  · exact .inr ⟨a, b, by simp [opp, c]⟩

end Go.Gn
end
section
set_option linter.unusedVariables false
set_option linter.unusedSimpArgs false
/-! plain: words; free lists of sides -/
namespace Go.Gn
open Go Go.Eng Pl Pl.M2

theorem ifc {α : Type} {a b : Prop} [Decidable a] [Decidable b] {x y : α} (h : a ↔ b) : (if a then x else y) = (if b then x else y) := by
  by_cases ha : a
  · rw [if_pos ha, if_pos (h.1 ha)]
  · rw [if_neg ha, if_neg fun hb => ha (h.2 hb)]
theorem isS_opp {p : Int} {s : Side} (h : isS p s) : isS p (opp s) := h

/-! words -/
def isWd (v : Int) (w : List Int) : Prop := w.length ≤ 12 ∧ ∀ e ∈ w, e ≠ 0 ∧ -v ≤ e ∧ e ≤ v
noncomputable instance (v : Int) (w : List Int) : Decidable (isWd v w) := Classical.propDecidable _

theorem impl_isWord_l {v : Int} {w : List Int} (hv : 0 ≤ v ∧ v ≤ 1000000) (hl : w.length ≤ 1000000) : ∀ (k i : Nat), w.length - i < k → i ≤ w.length →
    impl_isWord.l2 k v w w (w.length : Int) (i : Int) = some (decide ((∀ e ∈ w.drop i, e ≠ 0 ∧ -v ≤ e ∧ e ≤ v) ∧ w.length ≤ 12)) := by
  intro k
  induction k with
  | zero => intro i h; omega
  | succ k ih =>
    intro i h hi
    simp only [impl_isWord.l2, impl_isWord.s2]
    by_cases hlt : i < w.length
    · rw [ifE_pos (by omega), getE_nat hlt, Option.bind_some, List.drop_eq_getElem_cons hlt]
      have e : W ((i : Int) + 1) = ((i + 1 : Nat) : Int) := by rw [W_id (by omega) (by omega)]; omega
      rw [e]
      by_cases h0 : w[i] = 0
      · rw [show (w[i] == 0) = true from by simpa using h0, ifE_t, decide_eq_false]
        rintro ⟨h, -⟩; exact (h w[i] List.mem_cons_self).1 h0
      · rw [beq_ne h0, ifE_f, impl_within_f (by omega) (by simp), Option.bind_some]
        have ea : ([w[i]].all fun x => decide (small v x)) = decide (small v w[i]) := by simp
        rw [ea]
        by_cases h1 : small v w[i]
        · rw [decide_eq_true h1, Bool.not_true, ifE_f, ih (i + 1) (by omega) (by omega)]
          congr 1; rw [decide_eq_decide]
          simp only [List.mem_cons, forall_eq_or_imp]
          exact ⟨fun h => ⟨⟨⟨h0, h1⟩, h.1⟩, h.2⟩, fun h => ⟨h.1.2, h.2⟩⟩
        · rw [decide_eq_false h1, Bool.not_false, ifE_t, decide_eq_false]
          rintro ⟨h, -⟩; exact h1 (h w[i] List.mem_cons_self).2
    · rw [ifE_neg (by omega), List.drop_eq_nil_of_le (by omega)]
      congr 1; rw [decide_eq_decide]
      simp; omega
theorem impl_isWord_f {v : Int} {w : List Int} (hv : 0 ≤ v ∧ v ≤ 1000000) (hl : w.length ≤ 1000000) : impl_isWord.f v w = some (decide (isWd v w)) := by
  unfold impl_isWord.f
  have := impl_isWord_l hv hl fuelN 0 (lt_fuel (by omega)) (by omega)
  rw [List.drop_zero] at this
  refine this.trans ?_
  congr 1; rw [decide_eq_decide]; unfold isWd; exact and_comm

theorem spec_l09Word_l {v : Int} {w : List Int} (hv : 0 ≤ v ∧ v ≤ 1000000) (hl : w.length ≤ 1000000) : ∀ (k i : Nat), w.length - i < k → i ≤ w.length →
    spec_l09Word.l4 k v w (i : Int) = some (decide (∀ e ∈ w.drop i, e ≠ 0 ∧ -v ≤ e ∧ e ≤ v)) := by
  intro k
  induction k with
  | zero => intro i h; omega
  | succ k ih =>
    intro i h hi
    simp only [spec_l09Word.l4, spec_l09Word.s4]
    by_cases hlt : i < w.length
    · rw [ifE_pos (by omega), getE_nat hlt, Option.bind_some, List.drop_eq_getElem_cons hlt]
      have e : W ((i : Int) + 1) = ((i + 1 : Nat) : Int) := by rw [W_id (by omega) (by omega)]; omega
      rw [e]
      by_cases h0 : w[i] = 0
      · rw [show (w[i] == 0) = true from by simpa using h0, ifE_t, decide_eq_false]
        intro h; exact (h w[i] List.mem_cons_self).1 h0
      · rw [beq_ne h0, ifE_f, Option.bind_some, W_id (n := 0 - v) (by omega) (by omega), spec_l01In_f, Option.bind_some, Int.zero_sub]
        by_cases h1 : -v ≤ w[i] ∧ w[i] ≤ v
        · rw [decide_eq_true h1, Bool.not_true, ifE_f, ih (i + 1) (by omega) (by omega)]
          congr 1; rw [decide_eq_decide]
          simp only [List.mem_cons, forall_eq_or_imp]
          exact ⟨fun h => ⟨⟨h0, h1⟩, h⟩, fun h => h.2⟩
        · rw [decide_eq_false h1, Bool.not_false, ifE_t, decide_eq_false]
          intro h; exact h1 (h w[i] List.mem_cons_self).2
    · rw [ifE_neg (by omega), List.drop_eq_nil_of_le (by omega)]
      simp
theorem spec_l09Word_f {v : Int} {w : List Int} (hl : w.length ≤ 1000000) : spec_l09Word.f v w = some (decide ((1 ≤ v ∧ v ≤ 4) ∧ isWd v w)) := by
  unfold spec_l09Word.f
  rw [spec_l01In_f, Option.bind_some]
  by_cases hv : 1 ≤ v ∧ v ≤ 4
  · rw [decide_eq_true hv, Bool.not_true, ifE_f]
    by_cases h12 : (w.length : Int) > 12
    · rw [ifE_pos h12, decide_eq_false]; intro hh; have := hh.2.1; omega
    · have := spec_l09Word_l (v := v) (by omega) hl fuelN 0 (lt_fuel (by omega)) (by omega)
      rw [List.drop_zero] at this
      rw [ifE_neg h12]
      refine this.trans ?_
      congr 1; rw [decide_eq_decide]; unfold isWd
      exact ⟨fun h => ⟨hv, by omega, h⟩, fun h => h.2.2⟩
  · rw [decide_eq_false hv, Bool.not_false, ifE_t]; congr 1; exact (decide_eq_false fun h => hv h.1).symm

/-- short -/
def isSh (w : List Int) : Prop := ∀ i, (h : i + 1 < w.length) → w[i + 1] ≠ -w[i]
noncomputable instance (w : List Int) : Decidable (isSh w) := Classical.propDecidable _
theorem short_same : ∀ k, impl_isShort.l2 k = spec_l09Short.l2 k := by
  intro k
  induction k with
  | zero => rfl
  | succ k ih => simp only [impl_isShort.l2, spec_l09Short.l2, ih]; rfl
theorem spec_l09Short_f (w : List Int) : spec_l09Short.f w = impl_isShort.f w := by
  unfold spec_l09Short.f impl_isShort.f; rw [short_same]
open Classical in
theorem impl_isShort_l {w : List Int} (hl : w.length ≤ 1000000) (hs : ∀ e ∈ w, -1000000 ≤ e ∧ e ≤ 1000000) : ∀ (k i : Nat), w.length - i < k →
    impl_isShort.l2 k w ((i + 1 : Nat) : Int) = some (decide (∀ j, (h : j + 1 < w.length) → i ≤ j → w[j + 1] ≠ -w[j])) := by
  intro k
  induction k with
  | zero => intro i h; omega
  | succ k ih =>
    intro i h
    simp only [impl_isShort.l2, impl_isShort.s2]
    by_cases hlt : i + 1 < w.length
    · have h1 := hs _ (List.getElem_mem (l := w) (n := i) (by omega))
      rw [ifE_pos (by omega), getE_nat hlt, Option.bind_some, W_id (n := ((i + 1 : Nat) : Int) - 1) (by omega) (by omega), show ((i + 1 : Nat) : Int) - 1 = (i : Int) from by omega, getE_nat (by omega), Option.bind_some, W_id (n := 0 - w[i]) (by omega) (by omega), Int.zero_sub]
      have e : W (((i + 1 : Nat) : Int) + 1) = ((i + 1 + 1 : Nat) : Int) := by rw [W_id (by omega) (by omega)]; omega
      rw [e]
      by_cases h0 : w[i + 1] = -w[i]
      · rw [show (w[i + 1] == -w[i]) = true from by simpa using h0, ifE_t, decide_eq_false]
        intro h; exact h i hlt (Nat.le_refl _) h0
      · rw [beq_ne h0, ifE_f, ih (i + 1) (by omega)]
        congr 1; rw [decide_eq_decide]
        constructor
        · intro h j hj hij
          rcases Nat.eq_or_lt_of_le hij with rfl | hlt2
          · exact h0
          · exact h j hj (by omega)
        · intro h j hj hij; exact h j hj (by omega)
    · rw [ifE_neg (by omega), decide_eq_true]
      intro j hj hij; omega
theorem impl_isShort_f {w : List Int} (hl : w.length ≤ 1000000) (hs : ∀ e ∈ w, -1000000 ≤ e ∧ e ≤ 1000000) : impl_isShort.f w = some (decide (isSh w)) := by
  unfold impl_isShort.f
  refine (impl_isShort_l hl hs fuelN 0 (lt_fuel (by omega))).trans ?_
  congr 1; rw [decide_eq_decide]; unfold isSh
  exact ⟨fun h i hi => h i hi (by omega), fun h i hi _ => h i hi⟩

theorem isWd_small {v : Int} {w : List Int} (hv : v ≤ 1000000) (h : isWd v w) : ∀ e ∈ w, -1000000 ≤ e ∧ e ≤ 1000000 := fun e he => by have := h.2 e he; omega

theorem likeInts_l {a b : List Int} (hl : a.length = b.length) (hb : a.length ≤ 1000000) : ∀ (k i : Nat), a.length - i < k → laws_likeInts.l4 k a b (i : Int) = some (decide (a.drop i = b.drop i)) := by
  intro k
  induction k with
  | zero => intro i h; omega
  | succ k ih =>
    intro i h
    simp only [laws_likeInts.l4, laws_likeInts.s4]
    by_cases hlt : i < a.length
    · have e : W ((i : Int) + 1) = ((i + 1 : Nat) : Int) := by rw [W_id (by omega) (by omega)]; omega
      rw [ifE_pos (by omega), getE_nat hlt, Option.bind_some, getE_nat (by omega : i < b.length), Option.bind_some, e, List.drop_eq_getElem_cons hlt, List.drop_eq_getElem_cons (by omega : i < b.length)]
      by_cases h0 : a[i] = b[i]
      · rw [bne_eq h0, ifE_f, ih (i + 1) (by omega)]; congr 1; rw [decide_eq_decide, h0, List.cons.injEq]; simp
      · rw [bne_ne h0, ifE_t]; congr 1; symm; exact decide_eq_false fun h => h0 (List.cons.inj h).1
    · rw [ifE_neg (by omega), List.drop_eq_nil_of_le (by omega), List.drop_eq_nil_of_le (by omega)]; simp
theorem likeInts_f {a b : List Int} (hb : a.length ≤ 1000000) : laws_likeInts.f a b = some (decide (a = b)) := by
  unfold laws_likeInts.f
  by_cases hl : a.length = b.length
  · rw [bne_eq (by omega), ifE_f]
    have := likeInts_l hl hb fuelN 0 (lt_fuel (by omega))
    rw [List.drop_zero, List.drop_zero] at this
    exact this
  · rw [bne_ne (by omega), ifE_t, decide_eq_false fun h => hl (by rw [h])]

/-! moves -/
def mvS (p : Int) (g : Siiii) (s : Side) : Side × Bool := (impl_moveSide.f p g s).getD (zS, false)
theorem mvS_eq {p : Int} {g : Siiii} {s : Side} (hs : isS p s) (hg : isM (toM g)) : impl_moveSide.f p g s = some (mvS p g s) := by
  obtain ⟨r, ok, e, -⟩ := impl_moveSide_f hs hg
  unfold mvS; rw [e]; rfl
theorem mvS_at {p : Int} {g : Siiii} {s : Side} (hs : isS p s) (hg : isM (toM g)) : MoveAt p (toM g) s (mvS p g s).1 (mvS p g s).2 := by
  obtain ⟨r, ok, e, h⟩ := impl_moveSide_f hs hg
  unfold mvS; rw [e]; exact h
theorem mvS_red {p : Int} {g : Siiii} {s : Side} (hs : isS p s) (hg : isM (toM g)) : mvS p (ofM (red (toM g))) s = mvS p g s := by
  have hr : isM (toM (ofM (red (toM g)))) := ⟨red_fit hg.2 hg.1, det_red_ne hg.2⟩
  have h1 := mvS_at hs hr
  rw [toM_ofM, moveAt_red hs.1 hg.2] at h1
  obtain ⟨a, b⟩ := h1.unique hs.1 hg.2 (mvS_at hs hg)
  exact Prod.ext a b

/-! free -/
def PW (p : Int) (ss : List Side) : Prop := ∀ i j, (h : i < ss.length) → (h' : j < i) → ApS p ss[i] (ss[j]'(by omega))
noncomputable instance (p : Int) (ss : List Side) : Decidable (PW p ss) := Classical.propDecidable _
def mvL (p : Int) : List Siiii → List Side → Bool × Int
  | m :: ms, a :: b :: ss => if (mvS p m (opp a)).2 = false then (false, 3) else if (mvS p m (opp a)).1 = b then mvL p ms ss else (false, 0)
  | _, _ => (true, 0)

section
variable {p : Int} {ms : List Siiii} {ss : List Side} (hS : ∀ s ∈ ss, isS p s) (hM : ∀ m ∈ ms, isM (toM m)) (hl : ss.length = 2 * ms.length) (hl2 : ms.length ≤ 1000)
include hS hM hl hl2

omit hM in
theorem impl_free_in (rec2 : Int → List Siiii → List Side → List Side → Int → Int → Option (Bool × Int)) {i : Nat} (hi : i < ss.length) : ∀ (k j : Nat), i - j < k → j ≤ i →
    impl_isFree.l5 rec2 k p ms ss ss (ss.length : Int) (i : Int) (ss.take i) (i : Int) (j : Int) ss[i].c0 ss[i].c1 ss[i].c2 ss[i].c3 =
      if (∀ j', (h : j' < i) → j ≤ j' → ApS p ss[i] (ss[j']'(by omega))) then rec2 p ms ss ss (ss.length : Int) ((i + 1 : Nat) : Int) else some (false, 0) := by
  intro k
  induction k with
  | zero => intro j h; omega
  | succ k ih =>
    intro j h hj
    simp only [impl_isFree.l5, impl_isFree.s5]
    by_cases hlt : j < i
    · have e : W ((j : Int) + 1) = ((j + 1 : Nat) : Int) := by rw [W_id (by omega) (by omega)]; omega
      rw [ifE_pos (by omega), getE_nat (by simp; omega), Option.bind_some, List.getElem_take]
      have hap := impl_apartSides_f (hS _ (List.getElem_mem hi)) (hS _ (List.getElem_mem (l := ss) (n := j) (by omega)))
      rw [show (⟨ss[i].c0, ss[i].c1, ss[i].c2, ss[i].c3⟩ : Side) = ss[i] from rfl, hap, Option.bind_some, e]
      by_cases h0 : ApS p ss[i] (ss[j]'(by omega))
      · rw [decide_eq_true h0, Bool.not_true, ifE_f, ih (j + 1) (by omega) (by omega)]
        refine ifc ?_
        constructor
        · intro h j' hj' hij
          rcases Nat.eq_or_lt_of_le hij with rfl | hlt2
          · exact h0
          · exact h j' hj' (by omega)
        · intro h j' hj' hij; exact h j' hj' (by omega)
      · rw [decide_eq_false h0, Bool.not_false, ifE_t, if_neg fun h => h0 (h j hlt (Nat.le_refl _))]
    · have e : W ((i : Int) + 1) = ((i + 1 : Nat) : Int) := by rw [W_id (by omega) (by omega)]; omega
      rw [ifE_neg (by omega), e, if_pos]
      intro j' hj' hij; omega

omit hM in
theorem spec_free_in (rec2 : Int → List Siiii → List Side → Int → Option (Bool × Int)) {i : Nat} (hi : i < ss.length) : ∀ (k j : Nat), i - j < k → j ≤ i →
    spec_l09Free.l5 rec2 k p ms ss (i : Int) (j : Int) =
      if (∀ j', (h : j' < i) → j ≤ j' → ApS p ss[i] (ss[j']'(by omega))) then rec2 p ms ss ((i + 1 : Nat) : Int) else some (false, 0) := by
  intro k
  induction k with
  | zero => intro j h; omega
  | succ k ih =>
    intro j h hj
    simp only [spec_l09Free.l5, spec_l09Free.s5]
    by_cases hlt : j < i
    · have e : W ((j : Int) + 1) = ((j + 1 : Nat) : Int) := by rw [W_id (by omega) (by omega)]; omega
      rw [ifE_pos (by omega), getE_nat hi, Option.bind_some, getE_nat (by omega : j < ss.length), Option.bind_some]
      have hap := spec_l09Apart_f (hS _ (List.getElem_mem hi)) (hS _ (List.getElem_mem (l := ss) (n := j) (by omega)))
      rw [hap, Option.bind_some, e]
      by_cases h0 : ApS p ss[i] (ss[j]'(by omega))
      · rw [decide_eq_true h0, Bool.not_true, ifE_f, ih (j + 1) (by omega) (by omega)]
        refine ifc ?_
        constructor
        · intro h j' hj' hij
          rcases Nat.eq_or_lt_of_le hij with rfl | hlt2
          · exact h0
          · exact h j' hj' (by omega)
        · intro h j' hj' hij; exact h j' hj' (by omega)
      · rw [decide_eq_false h0, Bool.not_false, ifE_t, if_neg fun h => h0 (h j hlt (Nat.le_refl _))]
    · have e : W ((i : Int) + 1) = ((i + 1 : Nat) : Int) := by rw [W_id (by omega) (by omega)]; omega
      rw [ifE_neg (by omega), e, if_pos]
      intro j' hj' hij; omega

omit hS hM hl2 in
theorem drop2 {i : Nat} (hi : i < ms.length) : ms.drop i = ms[i] :: ms.drop (i + 1) ∧ ss.drop (2 * i) = (ss[2 * i]'(by omega)) :: (ss[2 * i + 1]'(by omega)) :: ss.drop (2 * (i + 1)) := by
  refine ⟨List.drop_eq_getElem_cons hi, ?_⟩
  rw [List.drop_eq_getElem_cons (by omega : 2 * i < ss.length), List.drop_eq_getElem_cons (by omega : 2 * i + 1 < ss.length)]; rfl

theorem impl_free_mv : ∀ (k i : Nat), ms.length - i < k → i ≤ ms.length → impl_isFree.l12 k p ss ms (ms.length : Int) (i : Int) = some (mvL p (ms.drop i) (ss.drop (2 * i))) := by
  intro k
  induction k with
  | zero => intro i h; omega
  | succ k ih =>
    intro i h hi
    simp only [impl_isFree.l12, impl_isFree.s12]
    by_cases hlt : i < ms.length
    · have e : W ((i : Int) + 1) = ((i + 1 : Nat) : Int) := by rw [W_id (by omega) (by omega)]; omega
      obtain ⟨d1, d2⟩ := drop2 hl hlt
      have hm := hM _ (List.getElem_mem hlt)
      have ha : isS p (opp (ss[2 * i]'(by omega))) := isS_opp (hS _ (List.getElem_mem (l := ss) (n := 2 * i) (by omega)))
      rw [ifE_pos (by omega), getE_nat hlt, Option.bind_some, W_id (n := 2 * (i : Int)) (by omega) (by omega), show 2 * (i : Int) = ((2 * i : Nat) : Int) from by omega, getE_nat (by omega), Option.bind_some, d1, d2]
      rw [show impl_opposite.f (ss[2 * i]'(by omega)) = some (opp (ss[2 * i]'(by omega))) from rfl, Option.bind_some, mvS_eq ha hm, Option.bind_some, e, W_id (n := ((2 * i : Nat) : Int) + 1) (by omega) (by omega), show ((2 * i : Nat) : Int) + 1 = ((2 * i + 1 : Nat) : Int) from by omega, getE_nat (by omega : 2 * i + 1 < ss.length), Option.bind_some, eqS4, ih (i + 1) (by omega) (by omega)]
      simp only [mvL]
      cases h2 : (mvS p ms[i] (opp (ss[2 * i]'(by omega)))).2
      · rw [if_pos rfl]; rfl
      · rw [if_neg (by simp), Bool.not_true, ifE_f]
        by_cases h3 : (mvS p ms[i] (opp (ss[2 * i]'(by omega)))).1 = ss[2 * i + 1]'(by omega)
        · rw [if_pos h3, decide_eq_true h3]; rfl
        · rw [if_neg h3, decide_eq_false h3]; rfl
    · rw [ifE_neg (by omega), List.drop_eq_nil_of_le (by omega)]; rfl

theorem spec_free_mv : ∀ (k i : Nat), ms.length - i < k → i ≤ ms.length → spec_l09Free.l10 k p ms ss (i : Int) = some (mvL p (ms.drop i) (ss.drop (2 * i))) := by
  intro k
  induction k with
  | zero => intro i h; omega
  | succ k ih =>
    intro i h hi
    simp only [spec_l09Free.l10, spec_l09Free.s10]
    by_cases hlt : i < ms.length
    · have e : W ((i : Int) + 1) = ((i + 1 : Nat) : Int) := by rw [W_id (by omega) (by omega)]; omega
      obtain ⟨d1, d2⟩ := drop2 hl hlt
      have hm := hM _ (List.getElem_mem hlt)
      have ha : isS p (opp (ss[2 * i]'(by omega))) := isS_opp (hS _ (List.getElem_mem (l := ss) (n := 2 * i) (by omega)))
      rw [ifE_pos (by omega), W_id (n := 2 * (i : Int)) (by omega) (by omega), show 2 * (i : Int) = ((2 * i : Nat) : Int) from by omega, getE_nat (by omega), Option.bind_some, getE_nat hlt, Option.bind_some, d1, d2]
      have hmv : spec_l09Move.f p ms[i] (⟨(ss[2 * i]'(by omega)).c0, (ss[2 * i]'(by omega)).c1, (ss[2 * i]'(by omega)).c2, !(ss[2 * i]'(by omega)).c3⟩ : Side) = some (mvS p ms[i] (opp (ss[2 * i]'(by omega)))) := by
        rw [← mvS_eq ha hm]; exact move_eq ha hm
      rw [hmv, Option.bind_some, e, W_id (n := ((2 * i : Nat) : Int) + 1) (by omega) (by omega), show ((2 * i : Nat) : Int) + 1 = ((2 * i + 1 : Nat) : Int) from by omega, getE_nat (by omega : 2 * i + 1 < ss.length), Option.bind_some, eqS4, ih (i + 1) (by omega) (by omega)]
      simp only [mvL]
      cases h2 : (mvS p ms[i] (opp (ss[2 * i]'(by omega)))).2
      · rw [if_pos rfl]; rfl
      · rw [if_neg (by simp), Bool.not_true, ifE_f]
        by_cases h3 : (mvS p ms[i] (opp (ss[2 * i]'(by omega)))).1 = ss[2 * i + 1]'(by omega)
        · rw [if_pos h3, decide_eq_true h3]; rfl
        · rw [if_neg h3, decide_eq_false h3]; rfl
    · rw [ifE_neg (by omega), List.drop_eq_nil_of_le (by omega)]; rfl

omit hS hM hl2 in
theorem pw_step {i : Nat} (hi : i < ss.length) : (∀ i' j, (h : i' < ss.length) → (h' : j < i') → i ≤ i' → ApS p ss[i'] (ss[j]'(by omega))) ↔
    (∀ j', (h : j' < i) → 0 ≤ j' → ApS p ss[i] (ss[j']'(by omega))) ∧ (∀ i' j, (h : i' < ss.length) → (h' : j < i') → i + 1 ≤ i' → ApS p ss[i'] (ss[j]'(by omega))) := by
  constructor
  · intro h; exact ⟨fun j hj _ => h i j hi hj (Nat.le_refl _), fun i' j h1 h2 h3 => h i' j h1 h2 (by omega)⟩
  · rintro ⟨h1, h2⟩ i' j hi' hj hii
    rcases Nat.eq_or_lt_of_le hii with rfl | hlt
    · exact h1 j hj (by omega)
    · exact h2 i' j hi' hj hlt

open Classical in
theorem impl_free_l : ∀ (k i : Nat), ss.length - i < k → i ≤ ss.length → impl_isFree.l2 k p ms ss ss (ss.length : Int) (i : Int) =
    some (if (∀ i' j, (h : i' < ss.length) → (h' : j < i') → i ≤ i' → ApS p ss[i'] (ss[j]'(by omega))) then mvL p ms ss else (false, 0)) := by
  intro k
  induction k with
  | zero => intro i h; omega
  | succ k ih =>
    intro i h hi
    simp only [impl_isFree.l2, impl_isFree.s2]
    by_cases hlt : i < ss.length
    · have hg : getS ss 0 (i : Int) = some (ss.take i) := by unfold getS; rw [if_pos ⟨by omega, by omega, by omega⟩]; simp
      rw [ifE_pos (by omega), getE_nat hlt, Option.bind_some, hg, Option.bind_some]
      have hlen : ((ss.take i).length : Int) = (i : Int) := by simp; omega
      rw [hlen]
      have := impl_free_in hS hl hl2 (impl_isFree.l2 k) hlt fuelN 0 (lt_fuel (by omega)) (by omega)
      refine this.trans ?_
      rw [ih (i + 1) (by omega) (by omega)]
      by_cases h1 : (∀ j', (h : j' < i) → 0 ≤ j' → ApS p ss[i] (ss[j']'(by omega)))
      · rw [if_pos h1]
        congr 1
        refine ifc ?_
        rw [pw_step hl hlt]
        exact ⟨fun h => ⟨h1, h⟩, fun h => h.2⟩
      · rw [if_neg h1, if_neg fun h => h1 ((pw_step hl hlt).1 h).1]
    · have hm := impl_free_mv hS hM hl hl2 fuelN 0 (lt_fuel (by omega)) (by omega)
      rw [ifE_neg (by omega)]
      refine hm.trans ?_
      rw [if_pos (fun i' j h1 h2 h3 => by omega)]; rfl

open Classical in
theorem spec_free_l : ∀ (k i : Nat), ss.length - i < k → i ≤ ss.length → spec_l09Free.l2 k p ms ss (i : Int) =
    some (if (∀ i' j, (h : i' < ss.length) → (h' : j < i') → i ≤ i' → ApS p ss[i'] (ss[j]'(by omega))) then mvL p ms ss else (false, 0)) := by
  intro k
  induction k with
  | zero => intro i h; omega
  | succ k ih =>
    intro i h hi
    simp only [spec_l09Free.l2, spec_l09Free.s2]
    by_cases hlt : i < ss.length
    · rw [ifE_pos (by omega)]
      have := spec_free_in hS hl hl2 (spec_l09Free.l2 k) hlt fuelN 0 (lt_fuel (by omega)) (by omega)
      refine this.trans ?_
      rw [ih (i + 1) (by omega) (by omega)]
      by_cases h1 : (∀ j', (h : j' < i) → 0 ≤ j' → ApS p ss[i] (ss[j']'(by omega)))
      · rw [if_pos h1]
        congr 1
        refine ifc ?_
        rw [pw_step hl hlt]
        exact ⟨fun h => ⟨h1, h⟩, fun h => h.2⟩
      · rw [if_neg h1, if_neg fun h => h1 ((pw_step hl hlt).1 h).1]
    · have hm := spec_free_mv hS hM hl hl2 fuelN 0 (lt_fuel (by omega)) (by omega)
      rw [ifE_neg (by omega)]
      refine hm.trans ?_
      rw [if_pos (fun i' j h1 h2 h3 => by omega)]; rfl

noncomputable def freeR (p : Int) (ms : List Siiii) (ss : List Side) : Bool × Int := if PW p ss then mvL p ms ss else (false, 0)
theorem impl_isFree_f : impl_isFree.f p ms ss = some (freeR p ms ss) := by
  unfold impl_isFree.f
  refine (impl_free_l hS hM hl hl2 fuelN 0 (lt_fuel (by omega)) (by omega)).trans ?_
  congr 1
  unfold freeR
  have : (∀ i' j, (h : i' < ss.length) → (h' : j < i') → 0 ≤ i' → ApS p ss[i'] (ss[j]'(by omega))) ↔ PW p ss := ⟨fun h i j h1 h2 => h i j h1 h2 (by omega), fun h i j h1 h2 _ => h i j h1 h2⟩
  by_cases h : PW p ss
  · rw [if_pos h, if_pos (this.2 h)]
  · rw [if_neg h, if_neg fun h' => h (this.1 h')]
theorem spec_l09Free_f : spec_l09Free.f p ms ss = some (freeR p ms ss) := by
  unfold spec_l09Free.f
  refine (spec_free_l hS hM hl hl2 fuelN 0 (lt_fuel (by omega)) (by omega)).trans ?_
  congr 1
  unfold freeR
  have : (∀ i' j, (h : i' < ss.length) → (h' : j < i') → 0 ≤ i' → ApS p ss[i'] (ss[j]'(by omega))) ↔ PW p ss := ⟨fun h i j h1 h2 => h i j h1 h2 (by omega), fun h i j h1 h2 _ => h i j h1 h2⟩
  by_cases h : PW p ss
  · rw [if_pos h, if_pos (this.2 h)]
  · rw [if_neg h, if_neg fun h' => h (this.1 h')]
end

end Go.Gn
end
section
set_option linter.unusedVariables false
set_option linter.unusedSimpArgs false
/-! plain: letters, sides of words -/
namespace Go.Gn
open Go Go.Eng Pl Pl.M2

structure Good (p : Int) (ms : List Siiii) (ss : List Side) : Prop where
  S : ∀ s ∈ ss, isS p s
  P : IsP p
  M : ∀ m ∈ ms, isM (toM m)
  n : 1 ≤ ms.length ∧ ms.length ≤ 4
  l : ss.length = 2 * ms.length

noncomputable def listE (p : Int) (ms : List Siiii) (ss : List Side) : Int :=
  open Classical in if (∀ s ∈ ss, isS p s) ∧ IsP p ∧ (∀ m ∈ ms, isM (toM m)) then (if (1 ≤ ms.length ∧ ms.length ≤ 4) ∧ ss.length = 2 * ms.length then 0 else 2) else 1

theorem listE_cases (p : Int) (ms : List Siiii) (ss : List Side) : (listE p ms ss = 0 ∧ Good p ms ss) ∨ (listE p ms ss = 1 ∧ ¬ ((∀ s ∈ ss, isS p s) ∧ IsP p ∧ (∀ m ∈ ms, isM (toM m)))) ∨
    (listE p ms ss = 2 ∧ ((∀ s ∈ ss, isS p s) ∧ IsP p ∧ (∀ m ∈ ms, isM (toM m))) ∧ ¬ ((1 ≤ ms.length ∧ ms.length ≤ 4) ∧ ss.length = 2 * ms.length)) := by
  unfold listE
  by_cases h : (∀ s ∈ ss, isS p s) ∧ IsP p ∧ (∀ m ∈ ms, isM (toM m))
  · rw [if_pos h]
    by_cases h2 : (1 ≤ ms.length ∧ ms.length ≤ 4) ∧ ss.length = 2 * ms.length
    · rw [if_pos h2]; exact .inl ⟨rfl, h.1, h.2.1, h.2.2, h2.1, h2.2⟩
    · rw [if_neg h2]; exact .inr (.inr ⟨rfl, h, h2⟩)
  · rw [if_neg h]; exact .inr (.inl ⟨rfl, h⟩)

theorem all_iff {α : Type} {P : α → Prop} [DecidablePred P] {l : List α} : (l.all fun x => decide (P x)) = true ↔ ∀ x ∈ l, P x := by simp

noncomputable def freeE (p : Int) (ms : List Siiii) (ss : List Side) : Bool × Int := if listE p ms ss = 0 then freeR p ms ss else (false, listE p ms ss)

theorem impl_freeCode_f {p : Int} {ms : List Siiii} {ss : List Side} (h1 : ms.length ≤ 1000000) (h2 : ss.length ≤ 1000000) : impl_freeCode.f p ms ss = some (freeE p ms ss) := by
  unfold impl_freeCode.f freeE
  rw [impl_areSides_f (by omega), Option.bind_some, impl_areMatrices_f (by omega), Option.bind_some]
  rcases listE_cases p ms ss with ⟨e, g⟩ | ⟨e, h⟩ | ⟨e, h, h'⟩
  · rw [e, if_pos rfl, all_iff.2 g.S, decide_eq_true g.P, all_iff.2 g.M, Bool.and_self, Bool.not_true, ifE_f, ifE_f]
    have := g.n
    have := g.l
    rw [ifE_neg (by omega), ifE_neg (by omega), W_id (n := 2 * (ms.length : Int)) (by omega) (by omega), bne_eq (by omega), ifE_f, impl_isFree_f g.S g.M g.l (by omega)]; rfl
  · rw [e, if_neg (by omega)]
    by_cases a : (ss.all (fun b => decide (isS p b)) && decide (IsP p)) = true
    · rw [a, Bool.not_true, ifE_f]
      by_cases b : (ms.all fun x => decide (isM (toM x))) = true
      · exact absurd ⟨all_iff.1 (Bool.and_eq_true_iff.1 a).1, of_decide_eq_true (Bool.and_eq_true_iff.1 a).2, all_iff.1 b⟩ h
      · rw [Bool.eq_false_iff.2 b]; rfl
    · rw [Bool.eq_false_iff.2 a]; rfl
  · rw [e, if_neg (by omega), all_iff.2 h.1, decide_eq_true h.2.1, all_iff.2 h.2.2, Bool.and_self, Bool.not_true, ifE_f, ifE_f]
    by_cases a : (ms.length : Int) < 1
    · rw [ifE_pos a]
    · rw [ifE_neg a]
      by_cases b : (ms.length : Int) > 4
      · rw [ifE_pos b]
      · rw [ifE_neg b, W_id (n := 2 * (ms.length : Int)) (by omega) (by omega), bne_ne (by omega), ifE_t]

theorem spec_l09List_l {ms : List Siiii} {ss : List Side} (h1 : ms.length ≤ 1000000) : ∀ (k i : Nat), ms.length - i < k → i ≤ ms.length →
    spec_l09List.l4 k ms ss (i : Int) = some (if (ms.drop i).all (fun x => decide (isM (toM x))) = true then (if (1 ≤ ms.length ∧ ms.length ≤ 4) ∧ ss.length = 2 * ms.length then 0 else 2) else 1) := by
  intro k
  induction k with
  | zero => intro i h; omega
  | succ k ih =>
    intro i h hi
    simp only [spec_l09List.l4, spec_l09List.s4]
    by_cases hlt : i < ms.length
    · have e : W ((i : Int) + 1) = ((i + 1 : Nat) : Int) := by rw [W_id (by omega) (by omega)]; omega
      rw [ifE_pos (by omega), getE_nat hlt, Option.bind_some, List.drop_eq_getElem_cons hlt, List.all_cons, spec_l04Is_f, Option.bind_some, e]
      by_cases hm : isM (toM ms[i])
      · rw [decide_eq_true hm, Bool.not_true, ifE_f, ih (i + 1) (by omega) (by omega), Bool.true_and]
      · rw [decide_eq_false hm, Bool.not_false, ifE_t, Bool.false_and]; rfl
    · rw [ifE_neg (by omega), List.drop_eq_nil_of_le (by omega), List.all_nil, if_pos rfl]
      by_cases a : (ms.length : Int) < 1
      · rw [ifE_pos a, if_neg (by omega)]
      · rw [ifE_neg a]
        by_cases b : (ms.length : Int) > 4
        · rw [ifE_pos b, if_neg (by omega)]
        · rw [ifE_neg b, W_id (n := 2 * (ms.length : Int)) (by omega) (by omega)]
          by_cases c : (ss.length : Int) = 2 * (ms.length : Int)
          · rw [bne_eq c, ifE_f, if_pos ⟨by omega, by omega⟩]
          · rw [bne_ne c, ifE_t, if_neg (by omega)]
theorem spec_l09List_f {p : Int} {ms : List Siiii} {ss : List Side} (h1 : ms.length ≤ 1000000) (h2 : ss.length ≤ 1000000) : spec_l09List.f p ms ss = some (listE p ms ss) := by
  unfold spec_l09List.f
  rw [spec_l09Code_f (by omega), Option.bind_some]
  unfold listE
  by_cases a : IsP p ∧ (ss.all (fun b => decide (isS p b))) = true
  · rw [if_pos a, bne_eq rfl, ifE_f]
    refine (spec_l09List_l h1 fuelN 0 (lt_fuel (by omega)) (by omega)).trans ?_
    rw [List.drop_zero]
    congr 1
    refine ifc ?_
    rw [all_iff]
    exact ⟨fun h => ⟨all_iff.1 a.2, a.1, h⟩, fun h => h.2.2⟩
  · rw [if_neg a, bne_ne (by omega), ifE_t, if_neg]
    rintro ⟨h1, h2, -⟩
    exact a ⟨h2, all_iff.2 h1⟩

noncomputable def readyE (p : Int) (ms : List Siiii) (ss : List Side) : Int := if (freeR p ms ss).2 = 0 then (if (freeR p ms ss).1 = true then 0 else 5) else (freeR p ms ss).2
theorem spec_l09Ready_f {p : Int} {ms : List Siiii} {ss : List Side} (g : Good p ms ss) : spec_l09Ready.f p ms ss = some (readyE p ms ss) := by
  unfold spec_l09Ready.f readyE
  have := g.n
  rw [spec_l09Free_f g.S g.M g.l (by omega), Option.bind_some]
  by_cases h : (freeR p ms ss).2 = 0
  · rw [show ((freeR p ms ss).2 == 0) = true from by simpa using h, ifE_t, if_pos h]
    cases hb : (freeR p ms ss).1
    · rfl
    · rw [h]; rfl
  · rw [beq_ne h, ifE_f, if_neg h]

/-! letters -/
def okL (ms : List Siiii) (e : Int) : Prop := e ≠ 0 ∧ -(ms.length : Int) ≤ e ∧ e ≤ ms.length
def li (e : Int) : Nat := if e < 0 then (-e - 1).toNat else (e - 1).toNat
def si (e : Int) : Nat := if e < 0 then 2 * li e else 2 * li e + 1
def rawM (ms : List Siiii) (e : Int) : M2 := toM (ms.getD (li e) zM)
def mt (ms : List Siiii) (e : Int) : M2 := if e < 0 then (rawM ms e).adj else rawM ms e
def lS (ss : List Side) (e : Int) : Side := ss.getD (si e) zS

theorem li_lt {ms : List Siiii} {e : Int} (h : okL ms e) : li e < ms.length := by unfold li; obtain ⟨h0, h1, h2⟩ := h; split <;> omega
theorem getD_of {α : Type} {l : List α} {i : Nat} {d : α} (h : i < l.length) : l.getD i d = l[i] := by simp [h]
theorem okL_neg {ms : List Siiii} {e : Int} (h : okL ms e) : okL ms (-e) := by obtain ⟨h0, h1, h2⟩ := h; exact ⟨by omega, by omega, by omega⟩
theorem li_neg {e : Int} (h : e ≠ 0) : li (-e) = li e := by unfold li; split <;> split <;> omega
theorem mt_neg {ms : List Siiii} {e : Int} (h : e ≠ 0) : mt ms (-e) = (mt ms e).adj := by
  unfold mt rawM
  rw [li_neg h]
  by_cases h1 : e < 0
  · rw [if_neg (by omega), if_pos h1, adj_adj]
  · rw [if_pos (by omega), if_neg h1]

section
variable {p : Int} {ms : List Siiii} {ss : List Side}

theorem rawM_ok (hM : ∀ m ∈ ms, isM (toM m)) {e : Int} (h : okL ms e) : isM (rawM ms e) := by
  unfold rawM; rw [getD_of (li_lt h)]; exact hM _ (List.getElem_mem _)
theorem mt_ok (hM : ∀ m ∈ ms, isM (toM m)) {e : Int} (h : okL ms e) : isM (mt ms e) := by
  unfold mt
  have := rawM_ok hM h
  split
  · exact ⟨adj_fit this.1, det_adj_ne this.2⟩
  · exact this
theorem red_ok {X : M2} (h : isM X) : isM (toM (ofM (red X))) := ⟨red_fit h.2 h.1, det_red_ne h.2⟩

theorem impl_letterMatrix_f (hM : ∀ m ∈ ms, isM (toM m)) {e : Int} (h : okL ms e) (hl : ms.length ≤ 1000) : impl_letterMatrix.f ms e = some (ofM (red (mt ms e))) := by
  unfold impl_letterMatrix.f mt
  have hr := rawM_ok hM h
  have hlt := li_lt h
  obtain ⟨h0, h1, h2⟩ := h
  by_cases hn : e < 0
  · have ei : W (W (0 - e) - 1) = ((li e : Nat) : Int) := by unfold li; rw [if_pos hn, W_id (n := 0 - e) (by omega) (by omega), W_id (by omega) (by omega)]; omega
    rw [ifE_pos hn, ei, getE_nat hlt, Option.bind_some, if_pos hn]
    unfold rawM at hr ⊢
    rw [getD_of hlt] at hr ⊢
    rw [impl_inverted_f hr.2 (isM_fit hr)]; rfl
  · have ei : W (e - 1) = ((li e : Nat) : Int) := by unfold li; rw [if_neg hn, W_id (by omega) (by omega)]; omega
    rw [ifE_neg hn, ei, getE_nat hlt, Option.bind_some, if_neg hn]
    unfold rawM at hr ⊢
    rw [getD_of hlt] at hr ⊢
    rw [impl_reduce_f hr.2 (isM_lim hr)]; rfl

theorem spec_l09Letter_f (hM : ∀ m ∈ ms, isM (toM m)) {e : Int} (h : okL ms e) (hl : ms.length ≤ 1000) : ∃ y, spec_l09Letter.f ms e = some y ∧ isM (toM y) ∧ red (toM y) = red (mt ms e) := by
  unfold spec_l09Letter.f mt
  have hr := rawM_ok hM h
  have hlt := li_lt h
  obtain ⟨h0, h1, h2⟩ := h
  by_cases hn : e < 0
  · have ei : W (W (0 - e) - 1) = ((li e : Nat) : Int) := by unfold li; rw [if_pos hn, W_id (n := 0 - e) (by omega) (by omega), W_id (by omega) (by omega)]; omega
    rw [ifE_neg (by omega), ei, getE_nat hlt, Option.bind_some, if_pos hn]
    unfold rawM at hr ⊢
    rw [getD_of hlt] at hr ⊢
    rw [spec_l04Inverse_f hr.2 (isM_fit hr), Option.bind_some]
    exact ⟨_, rfl, red_ok ⟨adj_fit hr.1, det_adj_ne hr.2⟩, red_red (det_adj_ne hr.2)⟩
  · have ei : W (e - 1) = ((li e : Nat) : Int) := by unfold li; rw [if_neg hn, W_id (by omega) (by omega)]; omega
    rw [ifE_pos (by omega), ei, getE_nat hlt, Option.bind_some, if_neg hn]
    unfold rawM at hr ⊢
    rw [getD_of hlt] at hr ⊢
    exact ⟨_, rfl, hr, rfl⟩

theorem si_lt (hl : ss.length = 2 * ms.length) {e : Int} (h : okL ms e) : si e < ss.length := by
  have := li_lt h; unfold si; split <;> omega

theorem impl_letterSide_f (hl : ss.length = 2 * ms.length) {e : Int} (h : okL ms e) (hl2 : ms.length ≤ 1000) : impl_letterSide.f ss e = some (lS ss e) := by
  unfold impl_letterSide.f lS
  have hlt := si_lt hl h
  obtain ⟨h0, h1, h2⟩ := h
  rw [getD_of hlt]
  by_cases hn : e < 0
  · have ei : W (2 * W (W (0 - e) - 1)) = ((si e : Nat) : Int) := by unfold si li; rw [if_pos hn, if_pos hn, W_id (n := 0 - e) (by omega) (by omega), W_id (n := 0 - e - 1) (by omega) (by omega), W_id (by omega) (by omega)]; omega
    rw [ifE_pos hn, ei, getE_nat hlt]; rfl
  · have ei : W (W (2 * W (e - 1)) + 1) = ((si e : Nat) : Int) := by unfold si li; rw [if_neg hn, if_neg hn, W_id (n := e - 1) (by omega) (by omega), W_id (n := 2 * (e - 1)) (by omega) (by omega), W_id (by omega) (by omega)]; omega
    rw [ifE_neg hn, ei, getE_nat hlt]; rfl
theorem spec_l09Of_f (hl : ss.length = 2 * ms.length) {e : Int} (h : okL ms e) (hl2 : ms.length ≤ 1000) : spec_l09Of.f ss e = some (lS ss e) := by
  unfold spec_l09Of.f lS
  have hlt := si_lt hl h
  obtain ⟨h0, h1, h2⟩ := h
  rw [getD_of hlt]
  by_cases hn : e < 0
  · have ei : W (W (-2 * e) - 2) = ((si e : Nat) : Int) := by unfold si li; rw [if_pos hn, if_pos hn, W_id (n := -2 * e) (by omega) (by omega), W_id (by omega) (by omega)]; omega
    rw [ifE_neg (by omega), ei, getE_nat hlt]; rfl
  · have ei : W (W (2 * e) - 1) = ((si e : Nat) : Int) := by unfold si li; rw [if_neg hn, if_neg hn, W_id (n := 2 * e) (by omega) (by omega), W_id (by omega) (by omega)]; omega
    rw [ifE_pos (by omega), ei, getE_nat hlt]; rfl
theorem lS_ok (g : Good p ms ss) {e : Int} (h : okL ms e) : isS p (lS ss e) := by
  unfold lS; rw [getD_of (si_lt g.l h)]; exact g.S _ (List.getElem_mem _)

/-- a matrix and its reduced one move alike -/
theorem mvS_of_red {y : Siiii} {X : M2} {s : Side} (hs : isS p s) (hy : isM (toM y)) (e : red (toM y) = red X) : impl_moveSide.f p y s = some (mvS p (ofM (red X)) s) := by
  rw [mvS_eq hs hy, ← mvS_red hs hy, e]

/-! sides of words -/
def runL (p : Int) (ms : List Siiii) : List Int → Side → Side × Int
  | [], s => (s, 0)
  | e :: r, s => if (mvS p (ofM (red (mt ms e))) s).2 = true then runL p ms r (mvS p (ofM (red (mt ms e))) s).1 else (zS, 3)

theorem mvS_isS {g : M2} (hg : isM g) {s : Side} (hs : isS p s) (h : (mvS p (ofM (red g)) s).2 = true) : isS p (mvS p (ofM (red g)) s).1 ∧ MoveAt p g s (mvS p (ofM (red g)) s).1 true := by
  have h1 := mvS_at hs (red_ok hg)
  rw [h, toM_ofM, moveAt_red hs.1 hg.2] at h1
  exact ⟨(move_eqv hs hg.2 h1).1, h1⟩

theorem take_rev {w : List Int} {n : Nat} (h : n < w.length) : (w.take (n + 1)).reverse = w[n] :: (w.take n).reverse := by
  rw [List.take_add_one, List.getElem?_eq_getElem h]; simp

theorem impl_word_l (g : Good p ms ss) {w : List Int} (hw : ∀ e ∈ w, okL ms e) (hl : w.length ≤ 1000) (z0 z1 z2 : Int) (z3 : Bool) : ∀ (k n : Nat) (s : Side), n < k → n ≤ w.length → isS p s →
    impl_SideOfWord.l13 k p ms w ((n : Int) - 1) z0 z1 z2 z3 s.c0 s.c1 s.c2 s.c3 = some (runL p ms (w.take n).reverse s) := by
  have hn := g.n
  intro k
  induction k with
  | zero => intro n s h; omega
  | succ k ih =>
    intro n s h hnw hs
    simp only [impl_SideOfWord.l13, impl_SideOfWord.s13]
    cases n with
    | zero => rw [ifE_neg (by omega)]; rfl
    | succ n =>
      have hlt : n < w.length := by omega
      have hok := hw _ (List.getElem_mem hlt)
      have hm := mt_ok g.M hok
      rw [ifE_pos (by omega), show ((n + 1 : Nat) : Int) - 1 = (n : Int) from by omega, getE_nat hlt, Option.bind_some, impl_letterMatrix_f g.M hok (by omega), Option.bind_some, show (⟨s.c0, s.c1, s.c2, s.c3⟩ : Side) = s from rfl, mvS_eq hs (red_ok hm), Option.bind_some, take_rev hlt, W_id (n := (n : Int) - 1) (by omega) (by omega)]
      simp only [runL]
      cases h2 : (mvS p (ofM (red (mt ms w[n]))) s).2
      · rw [if_neg (by simp)]; rfl
      · rw [if_pos rfl, Bool.not_true, ifE_f]
        exact ih n _ (by omega) (by omega) (mvS_isS hm hs h2).1
theorem spec_word_l (g : Good p ms ss) {w : List Int} (hw : ∀ e ∈ w, okL ms e) (hl : w.length ≤ 1000) (z0 z1 z2 : Int) (z3 : Bool) : ∀ (k n : Nat) (s : Side), n < k → n ≤ w.length → isS p s →
    spec_SideOfWord.l13 k p ms w ((n : Int) - 1) z0 z1 z2 z3 s.c0 s.c1 s.c2 s.c3 = some (runL p ms (w.take n).reverse s) := by
  have hn := g.n
  intro k
  induction k with
  | zero => intro n s h; omega
  | succ k ih =>
    intro n s h hnw hs
    simp only [spec_SideOfWord.l13, spec_SideOfWord.s13]
    cases n with
    | zero => rw [ifE_neg (by omega)]; rfl
    | succ n =>
      have hlt : n < w.length := by omega
      have hok := hw _ (List.getElem_mem hlt)
      have hm := mt_ok g.M hok
      obtain ⟨y, ey, hy, hr⟩ := spec_l09Letter_f g.M hok (by omega)
      rw [ifE_pos (by omega), show ((n + 1 : Nat) : Int) - 1 = (n : Int) from by omega, getE_nat hlt, Option.bind_some, ey, Option.bind_some, show (⟨s.c0, s.c1, s.c2, s.c3⟩ : Side) = s from rfl, move_eq hs hy, mvS_of_red hs hy hr, Option.bind_some, take_rev hlt, W_id (n := (n : Int) - 1) (by omega) (by omega)]
      simp only [runL]
      cases h2 : (mvS p (ofM (red (mt ms w[n]))) s).2
      · rw [if_neg (by simp)]; rfl
      · rw [if_pos rfl, Bool.not_true, ifE_f]
        exact ih n _ (by omega) (by omega) (mvS_isS hm hs h2).1
end

noncomputable def sideE (p : Int) (ms : List Siiii) (ss : List Side) (w : List Int) : Side × Int :=
  if listE p ms ss ≠ 0 then (zS, listE p ms ss) else if ¬ isWd ms.length w then (zS, 2) else if readyE p ms ss ≠ 0 then (zS, readyE p ms ss) else
  if ¬ isSh w then (zS, 5) else if w = [] then (zS, 5) else runL p ms (w.take (w.length - 1)).reverse (lS ss (w.getD (w.length - 1) 0))

theorem isWd_ok {ms : List Siiii} {w : List Int} (h : isWd ms.length w) : ∀ e ∈ w, okL ms e := h.2

theorem impl_SideOfWord_f {p : Int} {ms : List Siiii} {ss : List Side} {w : List Int} (h1 : ms.length ≤ 1000000) (h2 : ss.length ≤ 1000000) (hl : w.length ≤ 1000) : impl_SideOfWord.f p ms ss w = some (sideE p ms ss w) := by
  unfold impl_SideOfWord.f sideE
  rw [impl_freeCode_f h1 h2, Option.bind_some]
  unfold freeE
  rcases listE_cases p ms ss with ⟨e, g⟩ | ⟨e, h⟩ | ⟨e, h, h'⟩
  · have hn := g.n
    rw [e, if_pos rfl, if_neg (by omega), impl_isWord_f (by omega) (by omega), Option.bind_some]
    have nR : (freeR p ms ss).2 ≠ 1 ∧ (freeR p ms ss).2 ≠ 2 := by
      have : ∀ (ms : List Siiii) (ss : List Side), (mvL p ms ss).2 ≠ 1 ∧ (mvL p ms ss).2 ≠ 2 := by
        intro ms
        induction ms with
        | nil => intro ss; unfold mvL; decide
        | cons m ms ih =>
          intro ss
          match ss with
          | [] => unfold mvL; decide
          | [a] => unfold mvL; decide
          | a :: b :: ss =>
            unfold mvL
            split
            · decide
            · split
              · exact ih ss
              · decide
      unfold freeR; split
      · exact this ms ss
      · decide
    rw [beq_ne nR.1, ifE_f, beq_ne nR.2, ifE_f]
    by_cases hw : isWd ms.length w
    · rw [decide_eq_true hw, Bool.not_true, ifE_f, if_neg (by simp [hw])]
      unfold readyE
      by_cases h0 : (freeR p ms ss).2 = 0
      · rw [bne_eq h0, ifE_f, if_pos h0]
        cases hb : (freeR p ms ss).1
        · rfl
        · rw [if_pos rfl, if_neg (by omega), Bool.not_true, ifE_f, impl_isShort_f (by omega) (isWd_small (by omega) hw), Option.bind_some]
          by_cases hsh : isSh w
          · rw [decide_eq_true hsh, Bool.not_true, ifE_f, if_neg (by simp [hsh])]
            by_cases hnil : w = []
            · rw [if_pos hnil, hnil]; rfl
            · have hpos : 0 < w.length := List.length_pos_iff.2 hnil
              have hok := isWd_ok hw
              have hlast : okL ms w[w.length - 1] := hok _ (List.getElem_mem _)
              rw [if_neg hnil, beq_ne (by omega), ifE_f, W_id (n := (w.length : Int) - 1) (by omega) (by omega), W_id (n := (w.length : Int) - 1 - 1) (by omega) (by omega), show (w.length : Int) - 1 = ((w.length - 1 : Nat) : Int) from by omega, getE_nat (by omega), Option.bind_some, impl_letterSide_f g.l hlast (by omega), Option.bind_some, getD_of (by omega)]
              exact impl_word_l g hok hl _ _ _ _ fuelN (w.length - 1) _ (lt_fuel (by omega)) (by omega) (lS_ok g hlast)
          · rw [decide_eq_false hsh, if_pos hsh]; rfl
      · rw [bne_ne h0, ifE_t, if_neg h0, if_pos h0]; rfl
    · rw [decide_eq_false hw, if_pos hw]; rfl
  · rw [e, if_neg (by omega), if_pos (by omega)]; rfl
  · rw [e, if_neg (by omega), if_pos (by omega)]; rfl

theorem spec_SideOfWord_f {p : Int} {ms : List Siiii} {ss : List Side} {w : List Int} (h1 : ms.length ≤ 1000000) (h2 : ss.length ≤ 1000000) (hl : w.length ≤ 1000) : spec_SideOfWord.f p ms ss w = some (sideE p ms ss w) := by
  unfold spec_SideOfWord.f sideE
  rw [spec_l09List_f h1 h2, Option.bind_some]
  rcases listE_cases p ms ss with ⟨e, g⟩ | ⟨e, h⟩ | ⟨e, h, h'⟩
  · have hn := g.n
    rw [e, bne_eq rfl, ifE_f, if_neg (by omega), spec_l09Word_f (by omega), Option.bind_some]
    by_cases hw : isWd ms.length w
    · rw [decide_eq_true ⟨by omega, hw⟩, Bool.not_true, ifE_f, if_neg (by simp [hw]), spec_l09Ready_f g, Option.bind_some]
      by_cases h0 : readyE p ms ss = 0
      · rw [bne_eq h0, ifE_f, if_neg (by omega)]
        by_cases hnil : w = []
        · rw [hnil]
          by_cases hsh : isSh []
          · rw [if_neg (by simp [hsh]), if_pos rfl]; rfl
          · rw [if_pos hsh]; rfl
        · have hpos : 0 < w.length := List.length_pos_iff.2 hnil
          rw [beq_ne (by omega), ifE_f, spec_l09Short_f, impl_isShort_f (by omega) (isWd_small (by omega) hw), Option.bind_some]
          by_cases hsh : isSh w
          · have hok := isWd_ok hw
            have hlast : okL ms w[w.length - 1] := hok _ (List.getElem_mem _)
            rw [decide_eq_true hsh, Bool.not_true, ifE_f, if_neg (by simp [hsh]), if_neg hnil, W_id (n := (w.length : Int) - 1) (by omega) (by omega), W_id (n := (w.length : Int) - 2) (by omega) (by omega), show (w.length : Int) - 1 = ((w.length - 1 : Nat) : Int) from by omega, getE_nat (by omega), Option.bind_some, spec_l09Of_f g.l hlast (by omega), Option.bind_some, getD_of (by omega), show (w.length : Int) - 2 = ((w.length - 1 : Nat) : Int) - 1 from by omega]
            exact spec_word_l g hok hl _ _ _ _ fuelN (w.length - 1) _ (lt_fuel (by omega)) (by omega) (lS_ok g hlast)
          · rw [decide_eq_false hsh, if_pos hsh]; rfl
      · rw [bne_ne h0, ifE_t, if_pos h0]; rfl
    · rw [decide_eq_false fun h => hw h.2, if_pos hw]; rfl
  · rw [e, bne_ne (by omega), ifE_t, if_pos (by omega)]; rfl
  · rw [e, bne_ne (by omega), ifE_t, if_pos (by omega)]; rfl

end Go.Gn
end
section
set_option linter.unusedVariables false
set_option linter.unusedSimpArgs false
/-! plain: free letters; bringing out -/
namespace Go.Gn
open Go Go.Eng Pl Pl.M2

structure Free (p : Int) (ms : List Siiii) (ss : List Side) : Prop extends Good p ms ss where
  pw : PW p ss
  mv : ∀ i, (h : i < ms.length) → mvS p ms[i] (opp (ss.getD (2 * i) zS)) = (ss.getD (2 * i + 1) zS, true)

theorem mvL_all {p : Int} : ∀ (ms : List Siiii) (ss : List Side), ss.length = 2 * ms.length → (mvL p ms ss).1 = true → (mvL p ms ss).2 = 0 → ∀ i, (h : i < ms.length) → mvS p ms[i] (opp (ss.getD (2 * i) zS)) = (ss.getD (2 * i + 1) zS, true) := by
  intro ms
  induction ms with
  | nil => intro ss _ _ _ i h; simp at h
  | cons m ms ih =>
    intro ss hl h1 h2 i hi
    match ss with
    | [] => simp at hl
    | [a] => simp at hl; omega
    | a :: b :: ss =>
      unfold mvL at h1 h2
      by_cases c1 : (mvS p m (opp a)).2 = false
      · rw [if_pos c1] at h2; simp at h2
      · rw [if_neg c1] at h1 h2
        by_cases c2 : (mvS p m (opp a)).1 = b
        · rw [if_pos c2] at h1 h2
          cases i with
          | zero => exact Prod.ext c2 (by simpa using c1)
          | succ i => exact ih ss (by simp at hl; omega) h1 h2 i (by simp at hi; omega)
        · rw [if_neg c2] at h1; simp at h1

theorem free_of {p : Int} {ms : List Siiii} {ss : List Side} (g : Good p ms ss) (h1 : (freeR p ms ss).1 = true) (h2 : (freeR p ms ss).2 = 0) : Free p ms ss := by
  unfold freeR at h1 h2
  by_cases h : PW p ss
  · rw [if_pos h] at h1 h2
    exact ⟨g, h, mvL_all ms ss g.l h1 h2⟩
  · rw [if_neg h] at h1; simp at h1

theorem runL_cons {p : Int} {ms : List Siiii} {e : Int} {r : List Int} {s : Side} : runL p ms (e :: r) s = if (mvS p (ofM (red (mt ms e))) s).2 = true then runL p ms r (mvS p (ofM (red (mt ms e))) s).1 else (zS, 3) := rfl

theorem eqv_smul_left {p : Int} (hp : IsP p) {X Y : M2} {s : Int} (hs : s ≠ 0) (h : Eqv p (smul s X) Y) : Eqv p X Y := by
  have := (h.symm)
  unfold Eqv at this
  rw [mul_smul] at this
  exact Eqv.symm (this.unsmul hp hs)

section
variable {p : Int} {ms : List Siiii} {ss : List Side} (F : Free p ms ss)
include F

/-- the letter leads the side of its opposite out of its own -/
theorem letter_pair {e : Int} (h : okL ms e) : Eqv p (sM p (opp (lS ss e))) ((mt ms e).mul (sM p (lS ss (-e)))) := by
  have hi := li_lt h
  have hm := rawM_ok F.M h
  have hl := F.l
  have hp := F.P
  have h0 := h.1
  have e1 : ms.getD (li e) zM = ms[li e] := getD_of hi
  have hmv := F.mv (li e) hi
  have sa : isS p (ss.getD (2 * li e) zS) := by rw [getD_of (by omega)]; exact F.S _ (List.getElem_mem _)
  have sb : isS p (ss.getD (2 * li e + 1) zS) := by rw [getD_of (by omega)]; exact F.S _ (List.getElem_mem _)
  have hM : isM (toM ms[li e]) := F.M _ (List.getElem_mem _)
  have hat := mvS_at (isS_opp sa) hM
  rw [hmv] at hat
  unfold mt
  by_cases hn : e < 0
  · rw [if_pos hn]
    have es : lS ss e = ss.getD (2 * li e) zS := by unfold lS si; rw [if_pos hn]
    have es' : lS ss (-e) = ss.getD (2 * li e + 1) zS := by unfold lS si; rw [if_neg (by omega), li_neg h0]
    rw [es, es']
    unfold rawM
    rw [e1]
    obtain ⟨-, k⟩ := move_eqv (isS_opp sa) hM.2 hat
    have k2 := k.left hp (det_adj_ne hM.2)
    rw [← mul_assoc, adj_mul_self, smul_mul, one_mul] at k2
    exact eqv_smul_left hp hM.2 k2.symm
  · rw [if_neg hn]
    have es : lS ss e = ss.getD (2 * li e + 1) zS := by unfold lS si; rw [if_neg hn]
    have es' : lS ss (-e) = ss.getD (2 * li e) zS := by unfold lS si; rw [if_pos (by omega), li_neg h0]
    rw [es, es']
    unfold rawM
    rw [e1]
    have hat2 := moveAt_opp hat
    rw [opp_opp] at hat2
    exact (move_eqv sa hM.2 hat2).2

/-- different letters, apart sides -/
theorem letter_dis {e e' : Int} (h : okL ms e) (h' : okL ms e') (hne : e ≠ e') : Dis p (sM p (lS ss e)) (sM p (lS ss e')) := by
  have hl := F.l
  have hsi : si e ≠ si e' := by
    obtain ⟨h0, -, -⟩ := h
    obtain ⟨h0', -, -⟩ := h'
    unfold si li
    split <;> split <;> omega
  have g1 := lS_ok F.toGood h
  have g2 := lS_ok F.toGood h'
  rw [← aps_dis g1 g2]
  have i1 := si_lt hl h
  have i2 := si_lt hl h'
  unfold lS
  rw [getD_of i1, getD_of i2]
  rcases Nat.lt_or_gt_of_ne hsi with hlt | hgt
  · exact ApS.comm.1 (F.pw _ _ i2 hlt)
  · exact F.pw _ _ i1 hgt

theorem run_apart : ∀ (r : List Int) (t u : Side), (∀ e ∈ r, okL ms e) → isS p t → isS p u → Dis p (sM p t) (sM p (opp u)) → (runL p ms r t).2 = 0 → (runL p ms r u).2 = 0 →
    isS p (runL p ms r t).1 ∧ isS p (runL p ms r u).1 ∧ Dis p (sM p (runL p ms r t).1) (sM p (opp (runL p ms r u).1)) := by
  have hp := F.P
  intro r
  induction r with
  | nil => intro t u _ ht hu hd _ _; exact ⟨ht, hu, hd⟩
  | cons e r ih =>
    intro t u hr ht hu hd h1 h2
    have hm := mt_ok F.M (hr e List.mem_cons_self)
    unfold runL at h1 h2 ⊢
    by_cases c1 : (mvS p (ofM (red (mt ms e))) t).2 = true
    · by_cases c2 : (mvS p (ofM (red (mt ms e))) u).2 = true
      · rw [if_pos c1] at h1 ⊢
        rw [if_pos c2] at h2 ⊢
        obtain ⟨t1, t2⟩ := mvS_isS hm ht c1
        obtain ⟨u1, u2⟩ := mvS_isS hm hu c2
        refine ih _ _ (fun x hx => hr x (List.mem_cons_of_mem _ hx)) t1 u1 ?_ h1 h2
        have k1 := (move_eqv ht hm.2 t2).2
        have k2 := (move_eqv (isS_opp hu) hm.2 (moveAt_opp u2)).2
        refine (hd.left hp hm.2).eqv hp (det_ne_mul hm.2 (sM_ne ht)) (det_ne_mul hm.2 (sM_ne (isS_opp hu))) k1.symm k2.symm
      · rw [if_neg c2] at h2; simp at h2
    · rw [if_neg c1] at h1; simp at h1

/-- the first law: sides of words lie one in the other -/
theorem word_apart {w : List Int} (hw : ∀ e ∈ w, okL ms e) (hsh : isSh w) (h2 : 1 < w.length) :
    (runL p ms (w.take (w.length - 1)).reverse (lS ss (w.getD (w.length - 1) 0))).2 = 0 →
    (runL p ms ((w.take (w.length - 1)).take (w.length - 1 - 1)).reverse (lS ss ((w.take (w.length - 1)).getD (w.length - 1 - 1) 0))).2 = 0 →
    isS p (runL p ms (w.take (w.length - 1)).reverse (lS ss (w.getD (w.length - 1) 0))).1 ∧
    isS p (runL p ms ((w.take (w.length - 1)).take (w.length - 1 - 1)).reverse (lS ss ((w.take (w.length - 1)).getD (w.length - 1 - 1) 0))).1 ∧
    ApS p (runL p ms (w.take (w.length - 1)).reverse (lS ss (w.getD (w.length - 1) 0))).1
      (opp (runL p ms ((w.take (w.length - 1)).take (w.length - 1 - 1)).reverse (lS ss ((w.take (w.length - 1)).getD (w.length - 1 - 1) 0))).1) := by
  obtain ⟨n, hn⟩ : ∃ n, w.length = n + 2 := ⟨w.length - 2, by omega⟩
  have hp := F.P
  rw [hn, show n + 2 - 1 = n + 1 from rfl, show n + 1 - 1 = n from rfl, List.take_take, show min n (n + 1) = n from by omega, take_rev (by omega : n < w.length), getD_of (by omega : n + 1 < w.length), getD_of (by simp; omega), List.getElem_take]
  have oy := hw _ (List.getElem_mem (l := w) (n := n + 1) (by omega))
  have ox := hw _ (List.getElem_mem (l := w) (n := n) (by omega))
  have hxy := hsh n (by omega)
  generalize w[n + 1] = y at *
  generalize w[n] = x at *
  have hm := mt_ok F.M ox
  have sy := lS_ok F.toGood oy
  have sx := lS_ok F.toGood ox
  have snx := lS_ok F.toGood (okL_neg ox)
  intro h1 h3
  rw [runL_cons] at h1 ⊢
  by_cases c1 : (mvS p (ofM (red (mt ms x))) (lS ss y)).2 = true
  · rw [if_pos c1] at h1
    obtain ⟨t1, t2⟩ := mvS_isS hm sy c1
    have k1 := (move_eqv sy hm.2 t2).2
    have k2 := letter_pair F ox
    have hd : Dis p (sM p (mvS p (ofM (red (mt ms x))) (lS ss y)).1) (sM p (opp (lS ss x))) :=
      ((letter_dis F oy (okL_neg ox) hxy).left hp hm.2).eqv hp (det_ne_mul hm.2 (sM_ne sy)) (det_ne_mul hm.2 (sM_ne snx)) k1.symm k2.symm
    obtain ⟨a1, a2, a3⟩ := run_apart F (w.take n).reverse _ _ (fun e he => hw e (List.mem_of_mem_take (List.mem_reverse.1 he))) t1 sx hd h1 h3
    rw [if_pos c1]
    exact ⟨a1, a2, (aps_dis a1 (isS_opp a2)).2 a3⟩
  · rw [if_neg c1] at h1; simp at h1
end
end Go.Gn
end
section
set_option linter.unusedVariables false
set_option linter.unusedSimpArgs false
/-! plain: ends in their normal form; bringing out -/
namespace Go.Gn
open Go Go.Eng Pl Pl.M2

theorem dvd_cop {a b c : Int} (h : a ∣ b * c) (g : Int.gcd a b = 1) : a ∣ c := by
  have h1 := Int.natAbs_dvd_natAbs.2 h
  rw [Int.natAbs_mul] at h1
  exact Int.natAbs_dvd_natAbs.1 (Nat.Coprime.dvd_of_dvd_mul_left g h1)

/-- proportional -/
def Px (u1 u2 v1 v2 : Int) : Prop := ∃ k j : Int, k ≠ 0 ∧ j ≠ 0 ∧ k * u1 = j * v1 ∧ k * u2 = j * v2
theorem Px.symm {u1 u2 v1 v2 : Int} (h : Px u1 u2 v1 v2) : Px v1 v2 u1 u2 := by obtain ⟨k, j, a, b, c, d⟩ := h; exact ⟨j, k, b, a, c.symm, d.symm⟩
theorem Px.refl (u1 u2 : Int) : Px u1 u2 u1 u2 := ⟨1, 1, by decide, by decide, rfl, rfl⟩
theorem Px.trans {u1 u2 v1 v2 w1 w2 : Int} (h : Px u1 u2 v1 v2) (h' : Px v1 v2 w1 w2) : Px u1 u2 w1 w2 := by
  obtain ⟨k, j, a, b, c, d⟩ := h
  obtain ⟨k', j', a', b', c', d'⟩ := h'
  refine ⟨k' * k, j * j', Int.mul_ne_zero a' a, Int.mul_ne_zero b b', ?_, ?_⟩
  · calc k' * k * u1 = k' * (k * u1) := Int.mul_assoc _ _ _
      _ = j * (k' * v1) := by rw [c]; grind
      _ = _ := by rw [c', Int.mul_assoc]
  · calc k' * k * u2 = k' * (k * u2) := Int.mul_assoc _ _ _
      _ = j * (k' * v2) := by rw [d]; grind
      _ = _ := by rw [d', Int.mul_assoc]
theorem Px.map {u1 u2 v1 v2 : Int} (h : Px u1 u2 v1 v2) (M : M2) : Px (M.a * u1 + M.b * u2) (M.c * u1 + M.d * u2) (M.a * v1 + M.b * v2) (M.c * v1 + M.d * v2) := by
  obtain ⟨k, j, a, b, c, d⟩ := h
  refine ⟨k, j, a, b, ?_, ?_⟩
  · calc k * (M.a * u1 + M.b * u2) = M.a * (k * u1) + M.b * (k * u2) := by grind
      _ = _ := by rw [c, d]; grind
  · calc k * (M.c * u1 + M.d * u2) = M.c * (k * u1) + M.d * (k * u2) := by grind
      _ = _ := by rw [c, d]; grind
theorem Px.smul {M : M2} {s : Int} (hs : s ≠ 0) (x y : Int) : Px ((smul s M).a * x + (smul s M).b * y) ((smul s M).c * x + (smul s M).d * y) (M.a * x + M.b * y) (M.c * x + M.d * y) :=
  ⟨1, s, by decide, hs, by unfold M2.smul; simp only; grind, by unfold M2.smul; simp only; grind⟩
theorem Px.red {M : M2} (h : M.det ≠ 0) (x y : Int) : Px (M.a * x + M.b * y) (M.c * x + M.d * y) ((M2.red M).a * x + (M2.red M).b * y) ((M2.red M).c * x + (M2.red M).d * y) := by
  have := Px.smul (M := M2.red M) (kof_ne h) x y
  rwa [red_smul_kof] at this
theorem Px.has {p u1 u2 v1 v2 : Int} {X : M2} (hp : IsP p) (h : Px u1 u2 v1 v2) : Has p X u1 u2 ↔ Has p X v1 v2 := by
  obtain ⟨k, j, a, b, c, d⟩ := h
  rw [← Has.scale hp a, c, d, Has.scale hp b]

theorem isE_unique {e e' : End'} (h : isE e) (h' : isE e') (k : Px e.c0 e.c1 e'.c0 e'.c1) : e = e' := by
  obtain ⟨s, t, hs, ht, h1, h2⟩ := k
  have key : e.c0 * e'.c1 = e'.c0 * e.c1 := by
    refine Int.eq_of_mul_eq_mul_left (a := s * t) (Int.mul_ne_zero hs ht) ?_
    calc s * t * (e.c0 * e'.c1) = (s * e.c0) * (t * e'.c1) := by grind
      _ = (t * e'.c0) * (s * e.c1) := by rw [h1, h2]
      _ = _ := by grind
  have ext : ∀ a b : End', a.c0 = b.c0 → a.c1 = b.c1 → a = b := by intro a b h1 h2; cases a; cases b; simp only at h1 h2; rw [h1, h2]
  rcases h with ⟨a, b⟩ | ⟨a, b, c⟩ <;> rcases h' with ⟨a', b'⟩ | ⟨a', b', c'⟩
  · exact ext _ _ (by omega) (by omega)
  · exfalso; rw [a, b, Int.mul_zero, Int.one_mul] at key; omega
  · exfalso; rw [a', b', Int.mul_zero, Int.one_mul] at key; omega
  · have d1 : e.c1 ∣ e'.c1 := by
      have : e.c1 ∣ e.c0 * e'.c1 := by rw [key]; exact Int.dvd_mul_left _ _
      exact dvd_cop this (by rw [Int.gcd_comm]; exact c)
    have d2 : e'.c1 ∣ e.c1 := by
      have : e'.c1 ∣ e'.c0 * e.c1 := by rw [← key]; exact Int.dvd_mul_left _ _
      exact dvd_cop this (by rw [Int.gcd_comm]; exact c')
    have e1 : e.c1 = e'.c1 := Int.le_antisymm (Int.le_of_dvd (by omega) d1) (Int.le_of_dvd (by omega) d2)
    refine ext _ _ ?_ e1
    rw [e1] at key
    exact Int.eq_of_mul_eq_mul_right (by omega) key

/-! both normal forms -/
theorem endAt_iff {x y : Int} (hx : big x) (hy : big y) (h0 : x ≠ 0 ∨ y ≠ 0) : ∃ e, Px x y e.c0 e.c1 ∧ impl_endAt.f x y = some (e, decide (isE e)) ∧ spec_l01EndOf.f x y = some (e, decide (isE e)) ∧ ((∃ z, isE z ∧ Px x y z.c0 z.c1) → isE e) := by
  unfold impl_endAt.f spec_l01EndOf.f
  by_cases h : y = 0
  · have hx0 : x ≠ 0 := by rcases h0 with g | g; exact g; exact absurd h g
    have h1 : isE (⟨1, 0⟩ : Sii) := .inl ⟨rfl, rfl⟩
    rw [show (y == 0) = true from by simpa using h, ifE_t, ifE_t]
    exact ⟨⟨1, 0⟩, ⟨1, x, by decide, hx0, by simp, by simp [h]⟩, by rw [decide_eq_true h1], by rw [decide_eq_true h1], fun _ => h1⟩
  · rw [beq_ne h, ifE_f, ifE_f, impl_gcd_f hx hy, spec_gcd_f hx hy, Option.bind_some, Option.bind_some]
    have hg : (Int.gcd x y : Int) ≠ 0 := by
      intro e
      have : Int.gcd x y = 0 := by omega
      exact h (Int.gcd_eq_zero_iff.1 this).2
    have hgb : (Int.gcd x y : Int) ≤ y.natAbs := Int.le_of_dvd (by omega) (Int.dvd_natAbs.2 (Int.gcd_dvd_right (a := x) (b := y)))
    have main : ∀ k : Int, (k = Int.gcd x y ∨ k = -(Int.gcd x y : Int)) → 0 < k * y → ∃ e, Px x y e.c0 e.c1 ∧ impl_endAt.j6 x y k 0 0 = some (e, decide (isE e)) ∧ spec_l01EndOf.j6 x y k 0 0 = some (e, decide (isE e)) ∧ ((∃ z, isE z ∧ Px x y z.c0 z.c1) → isE e) := by
      intro k hkg hky
      have hk : k ≠ 0 := by omega
      have kx : k ∣ x := by rcases hkg with h | h <;> rw [h]; exact Int.gcd_dvd_left _ _; exact Int.neg_dvd.2 (Int.gcd_dvd_left _ _)
      have kyd : k ∣ y := by rcases hkg with h | h <;> rw [h]; exact Int.gcd_dvd_right _ _; exact Int.neg_dvd.2 (Int.gcd_dvd_right _ _)
      obtain ⟨u, hu⟩ := kx
      obtain ⟨v, hv⟩ := kyd
      have hgu : Int.gcd u v = 1 := by
        have h1 : Int.gcd x y = k.natAbs * Int.gcd u v := by rw [hu, hv, Int.gcd_mul_left]
        have h2 : k.natAbs = Int.gcd x y := by omega
        rw [h2] at h1
        have h3 : 0 < Int.gcd x y := by omega
        exact Nat.eq_of_mul_eq_mul_left h3 (by omega)
      have hv0 : 0 < v := by
        rw [hv] at hky
        have h2 : 0 < k * k := by
          rcases Int.lt_or_gt_of_ne hk with h | h
          · exact Int.mul_pos_of_neg_of_neg h h
          · exact Int.mul_pos h h
        rcases Int.lt_or_le 0 v with h | h
        · exact h
        · exfalso
          have : k * k * v ≤ 0 := Int.mul_nonpos_of_nonneg_of_nonpos (by omega) h
          rw [← Int.mul_assoc] at hky
          omega
      have t1 : Int.tdiv x k = u := by rw [hu]; exact Int.mul_tdiv_cancel_left _ hk
      have t2 : Int.tdiv y k = v := by rw [hv]; exact Int.mul_tdiv_cancel_left _ hk
      have bu : u.natAbs ≤ x.natAbs := by rw [hu, Int.natAbs_mul]; exact Nat.le_mul_of_pos_left _ (by omega)
      have bv : v.natAbs ≤ y.natAbs := by rw [hv, Int.natAbs_mul]; exact Nat.le_mul_of_pos_left _ (by omega)
      have hpx : Px x y u v := ⟨1, k, by decide, hk, by rw [hu, Int.one_mul], by rw [hv, Int.one_mul]⟩
      have hiff : isE (⟨u, v⟩ : Sii) ↔ v ≤ 1000000 ∧ small 1000000 u := by
        constructor
        · rintro (⟨a, -⟩ | ⟨a, b, -⟩)
          · have a : v = 0 := a
            omega
          · exact ⟨a.2, b⟩
        · rintro ⟨a, b⟩; exact .inr ⟨⟨by show 1 ≤ v; omega, a⟩, b, hgu⟩
      refine ⟨⟨u, v⟩, hpx, ?_, ?_, ?_⟩
      · unfold impl_endAt.j6
        unfold big at hx hy
        rw [guardE_pos hk, guardE_pos hk, t1, t2, W_id (n := u) (by omega) (by omega), W_id (n := v) (by omega) (by omega), impl_IsEnd_f, Option.bind_some]
      · unfold spec_l01EndOf.j6
        unfold big at hx hy
        rw [guardE_pos hk, guardE_pos hk, t1, t2, W_id (n := u) (by omega) (by omega), W_id (n := v) (by omega) (by omega), W_id (n := 0 - u) (by omega) (by omega)]
        have hd : decide (isE (⟨u, v⟩ : Sii)) = decide (v ≤ 1000000 ∧ small 1000000 u) := decide_eq_decide.2 hiff
        rw [hd]
        by_cases c : v ≤ 1000000
        · rw [ifE_pos c]
          congr 2; rw [decide_eq_decide, Int.zero_sub, imax_neg]; unfold small; omega
        · rw [ifE_neg c, decide_eq_false fun h => c h.1]
      · rintro ⟨z, hz, k2⟩
        obtain ⟨s, t, hs, ht, h1, h2⟩ := hpx.symm.trans k2
        have key : u * z.c1 = z.c0 * v := by
          refine Int.eq_of_mul_eq_mul_left (a := s * t) (Int.mul_ne_zero hs ht) ?_
          calc s * t * (u * z.c1) = (s * u) * (t * z.c1) := by grind
            _ = (t * z.c0) * (s * v) := by rw [h1, h2]
            _ = _ := by grind
        rcases hz with ⟨a, b⟩ | ⟨a, b, c⟩
        · rw [a, b, Int.mul_zero, Int.one_mul] at key; omega
        · have d1 : v ∣ z.c1 := by
            have : v ∣ u * z.c1 := by rw [key]; exact Int.dvd_mul_left _ _
            exact dvd_cop this (by rw [Int.gcd_comm]; exact hgu)
          have d2 : z.c1 ∣ v := by
            have : z.c1 ∣ z.c0 * v := by rw [← key]; exact Int.dvd_mul_left _ _
            exact dvd_cop this (by rw [Int.gcd_comm]; exact c)
          have e1 : v = z.c1 := Int.le_antisymm (Int.le_of_dvd (by omega) d1) (Int.le_of_dvd (by omega) d2)
          rw [e1] at key
          have e2 : u = z.c0 := Int.eq_of_mul_eq_mul_right (by omega) key
          rw [e1, e2]; exact .inr ⟨a, b, c⟩
    have w : W (0 - (Int.gcd x y : Int)) = -(Int.gcd x y : Int) := by unfold big at hy; rw [W_id (by omega) (by omega)]; omega
    have hgp : 0 < (Int.gcd x y : Int) := by omega
    by_cases hn : y < 0
    · rw [ifE_pos hn, ifE_pos hn, w]
      refine main _ (.inr rfl) ?_
      have := Int.mul_pos hgp (by omega : 0 < -y)
      rw [Int.neg_mul, ← Int.mul_neg]; exact this
    · rw [ifE_neg hn, ifE_neg hn]
      exact main _ (.inl rfl) (Int.mul_pos hgp (by omega))

/-- proportional ends have one normal form -/
theorem end_same {x y x' y' : Int} {e e' : End'} (h : Px x y x' y') (a : Px x y e.c0 e.c1) (a' : Px x' y' e'.c0 e'.c1) (b : (∃ z, isE z ∧ Px x y z.c0 z.c1) → isE e) (b' : (∃ z, isE z ∧ Px x' y' z.c0 z.c1) → isE e') :
    decide (isE e) = decide (isE e') ∧ (isE e → e = e') := by
  have hi : isE e ↔ isE e' := ⟨fun k => b' ⟨e, k, h.symm.trans a⟩, fun k => b ⟨e', k, h.trans a'⟩⟩
  exact ⟨decide_eq_decide.2 hi, fun k => isE_unique k (hi.1 k) (a.symm.trans (h.trans a'))⟩

/-! which side holds an end -/
def letterAt (i : Nat) : Int := if i % 2 = 0 then -((i / 2 : Nat) + 1) else ((i / 2 : Nat) + 1 : Int)
def Sits (p : Int) (ss : List Side) (e : End') (r : Int) : Prop := (r = 0 ∧ ∀ i, (h : i < ss.length) → ¬ HasS p ss[i] e) ∨ ∃ i, ∃ h : i < ss.length, HasS p ss[i] e ∧ r = letterAt i

theorem letterAt_code {i : Nat} (hi : i ≤ 1000000) : (if Int.tmod (i : Int) 2 = 0 then W (0 - (W ((W (Int.tdiv (i : Int) 2)) + 1))) else W ((W (Int.tdiv (i : Int) 2)) + 1)) = letterAt i := by
  have e1 : Int.tmod (i : Int) 2 = ((i % 2 : Nat) : Int) := by rw [Int.tmod_eq_emod_of_nonneg (by omega)]; omega
  have e2 : Int.tdiv (i : Int) 2 = ((i / 2 : Nat) : Int) := by rw [Int.tdiv_eq_ediv_of_nonneg (by omega)]; omega
  rw [e1, e2, W_id (n := ((i / 2 : Nat) : Int)) (by omega) (by omega), W_id (n := ((i / 2 : Nat) : Int) + 1) (by omega) (by omega), W_id (n := 0 - (((i / 2 : Nat) : Int) + 1)) (by omega) (by omega)]
  unfold letterAt
  by_cases h : i % 2 = 0
  · rw [if_pos h, if_pos (by omega)]; omega
  · rw [if_neg h, if_neg (by omega)]

theorem letterAt_ok {ms : List Siiii} {ss : List Side} (hl : ss.length = 2 * ms.length) {i : Nat} (hi : i < ss.length) : okL ms (letterAt i) ∧ si (letterAt i) = i := by
  unfold letterAt okL si li
  split <;> split <;> first | omega | (constructor <;> omega)

section
variable {p : Int} {ss : List Side} (hS : ∀ s ∈ ss, isS p s) (hl : ss.length ≤ 1000000) {e : End'} (he : isE e)
include hS hl he
theorem impl_sideOf_l : ∀ (k i : Nat), ss.length - i < k → (∀ j, (h : j < ss.length) → j < i → ¬ HasS p ss[j] e) → ∃ r, impl_sideOf.l2 k p ss (ss.length : Int) (i : Int) e.c0 e.c1 = some r ∧ Sits p ss e r := by
  intro k
  induction k with
  | zero => intro i h; omega
  | succ k ih =>
    intro i h hb
    simp only [impl_sideOf.l2, impl_sideOf.s2]
    by_cases hlt : i < ss.length
    · have ew : W ((i : Int) + 1) = ((i + 1 : Nat) : Int) := by rw [W_id (by omega) (by omega)]; omega
      have hc := letterAt_code (i := i) (by omega)
      rw [ifE_pos (by omega), getE_nat hlt, Option.bind_some, show (⟨e.c0, e.c1⟩ : Sii) = e from rfl, impl_sideHas_f (hS _ (List.getElem_mem hlt)) he, Option.bind_some, ew]
      by_cases hh : HasS p ss[i] e
      · rw [decide_eq_true hh, Bool.not_true, ifE_f]
        refine ⟨letterAt i, ?_, .inr ⟨i, hlt, hh, rfl⟩⟩
        by_cases c : Int.tmod (i : Int) 2 = 0
        · rw [show (Int.tmod (i : Int) 2 == 0) = true from by simpa using c, ifE_t]; rw [if_pos c] at hc; rw [hc]
        · rw [beq_ne c, ifE_f]; rw [if_neg c] at hc; rw [hc]
      · rw [decide_eq_false hh, Bool.not_false, ifE_t]
        refine ih (i + 1) (by omega) fun j hj hji => ?_
        rcases Nat.lt_succ_iff_lt_or_eq.1 hji with h1 | rfl
        · exact hb j hj h1
        · exact hh
    · rw [ifE_neg (by omega)]
      exact ⟨0, rfl, .inl ⟨rfl, fun j hj => hb j hj (by omega)⟩⟩
theorem impl_sideOf_f : ∃ r, impl_sideOf.f p ss e = some r ∧ Sits p ss e r := by
  unfold impl_sideOf.f
  exact impl_sideOf_l hS hl he fuelN 0 (lt_fuel (by omega)) fun j hj h => by omega

/-- what the reference's loop does when it has looked at all -/
def brTail (rec9 : Int → List Siiii → List Side → Int → Int → Int → Int → List Int → Option (List Int × Sii × Int)) (p : Int) (ms : List Siiii) (ss : List Side) (v13 : Int) (x y z0 z1 : Int) (w : List Int) : Option (List Int × Sii × Int) :=
  ifE (v13 == 0) (
      some (w, (⟨x, y⟩ : Sii), 0)) (
      ifE ((w.length : Int) == 12) (
        some ([], (⟨0, 0⟩ : Sii), 4)) (
        (spec_l09Letter.f ms (W (0 - v13))).bind fun r6 =>
        (spec_l04End.f r6 (⟨x, y⟩ : Sii)).bind fun r7 =>
        ifE (!r7.2) (
          some ([], (⟨0, 0⟩ : Sii), 3)) (
          guardE ((w.length + [v13].length) * 8 ≤ 140737488355328) <|
          rec9 p ms ss r7.1.c0 r7.1.c1 z0 z1 (w ++ [v13]))))

theorem spec_bring_in (ms : List Siiii) (rec9 : Int → List Siiii → List Side → Int → Int → Int → Int → List Int → Option (List Int × Sii × Int)) (z0 z1 : Int) (w : List Int) : ∀ (k i : Nat) (v : Int), ss.length - i < k → ((v = 0 ∧ ∀ j, (h : j < ss.length) → j < i → ¬ HasS p ss[j] e) ∨ ∃ j, ∃ h : j < ss.length, HasS p ss[j] e ∧ v = letterAt j) →
    ∃ r, spec_BringOut.l11 rec9 k p ms ss v (i : Int) e.c0 e.c1 z0 z1 w = brTail rec9 p ms ss r e.c0 e.c1 z0 z1 w ∧ Sits p ss e r := by
  intro k
  induction k with
  | zero => intro i v h; omega
  | succ k ih =>
    intro i v h hb
    have hk : i < ss.length → ss.length - (i + 1) < k := by clear hb; omega
    simp only [spec_BringOut.l11, spec_BringOut.s11]
    by_cases hlt : i < ss.length
    · have ew : W ((i : Int) + 1) = ((i + 1 : Nat) : Int) := by rw [W_id (by omega) (by omega)]; omega
      have hc := letterAt_code (i := i) (by omega)
      rw [ifE_pos (by omega), getE_nat hlt, Option.bind_some, show (⟨e.c0, e.c1⟩ : Sii) = e from rfl, spec_l09Has_f (hS _ (List.getElem_mem hlt)) he, Option.bind_some, ew]
      by_cases hh : HasS p ss[i] e
      · rw [decide_eq_true hh, ifE_t]
        have go := ih (i + 1) (letterAt i) (hk hlt) (.inr ⟨i, hlt, hh, rfl⟩)
        by_cases c : Int.tmod (i : Int) 2 = 0
        · rw [show (Int.tmod (i : Int) 2 == 0) = true from by simpa using c, ifE_t]; rw [if_pos c] at hc; rw [hc]; exact go
        · rw [beq_ne c, ifE_f]; rw [if_neg c] at hc; rw [hc]; exact go
      · rw [decide_eq_false hh, ifE_f]
        refine ih (i + 1) v (hk hlt) ?_
        rcases hb with ⟨h0, h1⟩ | h1
        · refine .inl ⟨h0, fun j hj hji => ?_⟩
          rcases Nat.lt_succ_iff_lt_or_eq.1 hji with h2 | rfl
          · exact h1 j hj h2
          · exact hh
        · exact .inr h1
    · rw [ifE_neg (by omega)]
      refine ⟨v, rfl, ?_⟩
      rcases hb with ⟨h0, h1⟩ | ⟨j, h1, h2, h3⟩
      · exact .inl ⟨h0, fun j hj => h1 j hj (by omega)⟩
      · exact .inr ⟨j, h1, h2, h3⟩
end

theorem sits_unique {p : Int} {ms : List Siiii} {ss : List Side} (F : Free p ms ss) {e : End'} {r r' : Int} (h : Sits p ss e r) (h' : Sits p ss e r') : r = r' := by
  have one : ∀ i j (hi : i < ss.length) (hj : j < ss.length), HasS p ss[i] e → HasS p ss[j] e → i = j := by
    intro i j hi hj h1 h2
    rcases Nat.lt_trichotomy i j with h | h | h
    · exfalso
      have k := (aps_dis (F.S _ (List.getElem_mem hj)) (F.S _ (List.getElem_mem hi))).1 (F.pw j i hj h)
      exact k.has F.P (sM_ne (F.S _ (List.getElem_mem hj))) (sM_ne (F.S _ (List.getElem_mem hi))) h2 h1
    · exact h
    · exfalso
      have k := (aps_dis (F.S _ (List.getElem_mem hi)) (F.S _ (List.getElem_mem hj))).1 (F.pw i j hi h)
      exact k.has F.P (sM_ne (F.S _ (List.getElem_mem hi))) (sM_ne (F.S _ (List.getElem_mem hj))) h1 h2
  rcases h with ⟨a, b⟩ | ⟨i, hi, a, b⟩ <;> rcases h' with ⟨a', b'⟩ | ⟨j, hj, a', b'⟩
  · omega
  · exact absurd a' (b j hj)
  · exact absurd a (b' i hi)
  · rw [b, b', one i j hi hj a a']

end Go.Gn
end
section
set_option linter.unusedVariables false
set_option linter.unusedSimpArgs false
/-! plain: bringing out, word matrices -/
namespace Go.Gn
open Go Go.Eng Pl Pl.M2

/-- an end brought out -/
inductive Br (p : Int) (ms : List Siiii) (ss : List Side) : End' → List Int → End' → Prop
  | nil (e : End') : Br p ms ss e [] e
  | cons (e : End') (x : Int) (e1 : End') (u : List Int) (e2 : End') (hx : okL ms x) (hh : HasS p (lS ss x) e)
      (hp : Px ((mt ms x).a * e1.c0 + (mt ms x).b * e1.c1) ((mt ms x).c * e1.c0 + (mt ms x).d * e1.c1) e.c0 e.c1) (he : isE e1) (r : Br p ms ss e1 u e2) : Br p ms ss e (x :: u) e2

section
variable {p : Int} {ms : List Siiii} {ss : List Side}

theorem br_ok {e e2 : End'} {u : List Int} (h : Br p ms ss e u e2) : (∀ x ∈ u, okL ms x) := by
  induction h with
  | nil e => intro x hx; simp at hx
  | cons e x e1 u e2 hx hh hp he r ih =>
    intro y hy
    rcases List.mem_cons.1 hy with rfl | hy
    · exact hx
    · exact ih y hy
theorem br_end {e e2 : End'} {u : List Int} (h : Br p ms ss e u e2) (he : isE e) : isE e2 := by
  induction h with
  | nil e => exact he
  | cons e x e1 u e2 hx hh hp he1 r ih => exact ih he1
theorem br_short (F : Free p ms ss) {e e2 : End'} {u : List Int} (h : Br p ms ss e u e2) (he : isE e) : isSh u := by
  induction h with
  | nil e => intro i hi; simp at hi
  | cons e x e1 u e2 hx hh hp he1 r ih =>
    have ih := ih he1
    intro i hi
    cases i with
    | succ i => exact ih i (by simp at hi; omega)
    | zero =>
      cases r with
      | nil => simp at hi
      | cons _ x' e3 u _ hx' hh' hp' he3 r =>
        show x' ≠ -x
        intro heq
        subst heq
        have P := F.P
        have hm := mt_ok F.M hx
        have sx := lS_ok F.toGood hx
        have snx := lS_ok F.toGood hx'
        have k := letter_pair F hx
        have h1 : Has p ((mt ms x).mul (sM p (lS ss (-x)))) ((mt ms x).a * e1.c0 + (mt ms x).b * e1.c1) ((mt ms x).c * e1.c0 + (mt ms x).d * e1.c1) := (Has.move P hm.2).2 hh'
        have h2 := (Px.has P hp).1 h1
        have h3 : Has p (sM p (opp (lS ss x))) e.c0 e.c1 := h2.eqv P (det_ne_mul hm.2 (sM_ne snx)) (Eqv.symm k)
        have o1 : decide (HasS p (opp (lS ss x)) e) = true := decide_eq_true h3
        have o2 : decide (HasS p (lS ss x) e) = true := decide_eq_true hh
        rw [has_sM (isS_opp sx) he] at o1
        rw [has_sM sx he] at o2
        have e3 : (opp (lS ss x)).c3 = !(lS ss x).c3 := rfl
        have e4 : bl (opp (lS ss x)) = bl (lS ss x) := rfl
        rw [e3, e4] at o1
        revert o1 o2
        cases decide (Has p (bM p (bl (lS ss x))) e.c0 e.c1) <;> cases (lS ss x).c3 <;> simp

theorem isM_adjx {X : M2} (h : isM X) : isM X.adj := ⟨adj_fit h.1, det_adj_ne h.2⟩
/-- one step of both -/
theorem bring_step (F : Free p ms ss) {x : Int} (hx : okL ms x) {e : End'} (he : isE e) : ∃ e1 ok, ((impl_letterMatrix.f ms x).bind fun r4 => (impl_inverted.f r4).bind fun r5 => impl_moveEnd.f r5 e) = some (e1, ok) ∧
    ((spec_l09Letter.f ms (W (0 - x))).bind fun r6 => spec_l04End.f r6 e) = some (if ok then e1 else e1, ok) ∧ (ok = true → isE e1 ∧ Px ((mt ms x).a * e1.c0 + (mt ms x).b * e1.c1) ((mt ms x).c * e1.c0 + (mt ms x).d * e1.c1) e.c0 e.c1) ∨
    ((impl_letterMatrix.f ms x).bind fun r4 => (impl_inverted.f r4).bind fun r5 => impl_moveEnd.f r5 e) = some (e1, false) ∧ ∃ e2, ((spec_l09Letter.f ms (W (0 - x))).bind fun r6 => spec_l04End.f r6 e) = some (e2, false) := by
  have hn := F.n
  have P := F.P
  have hm := mt_ok F.M hx
  have hred := red_ok hm
  have hinv : isM (red (mt ms x)).adj := isM_adjx hred
  have hir : isM (red (red (mt ms x)).adj) := red_ok hinv
  have w : W (0 - x) = -x := by obtain ⟨a, b, c⟩ := hx; rw [W_id (by omega) (by omega)]; omega
  obtain ⟨y, ey, hy, hyr⟩ := spec_l09Letter_f F.M (okL_neg hx) (by omega)
  have hb := isE_small he
  have hi := impl_inverted_f (g := ofM (red (mt ms x))) hred.2 (isM_fit hred)
  rw [impl_letterMatrix_f F.M hx (by omega), Option.bind_some, hi, Option.bind_some, w, ey, Option.bind_some]
  have e1 : red (toM (ofM (red (mt ms x)))).adj = red (mt ms x).adj := by rw [toM_ofM, red_adj hm.2]
  rw [e1]
  have er : red (toM y) = red (mt ms x).adj := by rw [hyr, mt_neg hx.1]
  have hA : isM (mt ms x).adj := isM_adjx hm
  have hAr := red_ok hA
  -- both ends
  unfold impl_moveEnd.f spec_l04End.f
  obtain ⟨w1, b1⟩ := lin_W2 hAr.1.1 hAr.1.2.1 hb.1 (q := e.c1) (by unfold small; omega)
  obtain ⟨w2, b2⟩ := lin_W2 hAr.1.2.2.1 hAr.1.2.2.2 hb.1 (q := e.c1) (by unfold small; omega)
  obtain ⟨v1, c1⟩ := lin_W2 hy.1.1 hy.1.2.1 hb.1 (q := e.c1) (by unfold small; omega)
  obtain ⟨v2, c2⟩ := lin_W2 hy.1.2.2.1 hy.1.2.2.2 hb.1 (q := e.c1) (by unfold small; omega)
  rw [show W (W ((ofM (red (mt ms x).adj)).c0 * e.c0) + W ((ofM (red (mt ms x).adj)).c1 * e.c1)) = _ from w1, show W (W ((ofM (red (mt ms x).adj)).c2 * e.c0) + W ((ofM (red (mt ms x).adj)).c3 * e.c1)) = _ from w2,
    show W (W (y.c0 * e.c0) + W (y.c1 * e.c1)) = _ from v1, show W (W (y.c2 * e.c0) + W (y.c3 * e.c1)) = _ from v2]
  obtain ⟨z, za, zb, -, zd⟩ := endAt_iff b1 b2 (app_ne hAr.2 (isE_ne he))
  obtain ⟨z', za', -, zc', zd'⟩ := endAt_iff c1 c2 (app_ne hy.2 (isE_ne he))
  have hpx : Px ((toM (ofM (red (mt ms x).adj))).a * e.c0 + (toM (ofM (red (mt ms x).adj))).b * e.c1) ((toM (ofM (red (mt ms x).adj))).c * e.c0 + (toM (ofM (red (mt ms x).adj))).d * e.c1) ((toM y).a * e.c0 + (toM y).b * e.c1) ((toM y).c * e.c0 + (toM y).d * e.c1) := by
    have := Px.red hy.2 e.c0 e.c1
    rw [er] at this
    exact this.symm
  obtain ⟨s1, s2⟩ := end_same hpx za za' zd zd'
  rw [zb, zc', Option.bind_some, Option.bind_some, ← s1]
  by_cases hz : isE z
  · have hzz := s2 hz
    subst hzz
    refine ⟨z, true, .inl ⟨by rw [decide_eq_true hz], by rw [decide_eq_true hz]; rfl, fun _ => ⟨hz, ?_⟩⟩⟩
    have k1 := (za.symm).map (mt ms x)
    refine k1.trans ?_
    have k2 := (Px.red hA.2 e.c0 e.c1).map (mt ms x)
    refine (k2.symm).trans ?_
    have k3 := Px.smul (M := M2.one) (s := (mt ms x).det) hm.2 e.c0 e.c1
    rw [← mul_adj] at k3
    have k4 : M2.one.a * e.c0 + M2.one.b * e.c1 = e.c0 ∧ M2.one.c * e.c0 + M2.one.d * e.c1 = e.c1 := by unfold M2.one; constructor <;> simp
    rw [k4.1, k4.2] at k3
    have k5 : ((mt ms x).mul (mt ms x).adj).a * e.c0 + ((mt ms x).mul (mt ms x).adj).b * e.c1 = (mt ms x).a * ((mt ms x).adj.a * e.c0 + (mt ms x).adj.b * e.c1) + (mt ms x).b * ((mt ms x).adj.c * e.c0 + (mt ms x).adj.d * e.c1) := by unfold mul; simp only; grind
    have k6 : ((mt ms x).mul (mt ms x).adj).c * e.c0 + ((mt ms x).mul (mt ms x).adj).d * e.c1 = (mt ms x).c * ((mt ms x).adj.a * e.c0 + (mt ms x).adj.b * e.c1) + (mt ms x).d * ((mt ms x).adj.c * e.c0 + (mt ms x).adj.d * e.c1) := by unfold mul; simp only; grind
    rw [k5, k6] at k3
    exact k3
  · exact ⟨z, false, .inr ⟨by rw [decide_eq_false hz], z', by rw [decide_eq_false hz]⟩⟩

theorem bringOut_l (F : Free p ms ss) (z0 z1 : Int) : ∀ (k : Nat) (w : List Int) (e : End'), isE e → w.length ≤ 12 → 12 - w.length < k →
    ∃ w' e' c, impl_BringOut.l9 k p ms ss e.c0 e.c1 z0 z1 w = some (w', e', c) ∧ spec_BringOut.l9 k p ms ss e.c0 e.c1 z0 z1 w = some (w', e', c) ∧ w'.length ≤ 12 ∧ (c = 0 → ∃ u, w' = w ++ u ∧ Br p ms ss e u e') := by
  have hn := F.n
  have hl := F.l
  intro k
  induction k with
  | zero => intro w e he hw h; omega
  | succ k ih =>
    intro w e he hw hk
    simp only [impl_BringOut.l9, impl_BringOut.s9, spec_BringOut.l9, spec_BringOut.s9]
    obtain ⟨r, e1, s1⟩ := impl_sideOf_f F.S (by omega) he
    obtain ⟨r', e2, s2⟩ := spec_bring_in F.S (by omega) he ms (spec_BringOut.l9 k) z0 z1 w fuelN 0 0 (lt_fuel (by omega)) (.inl ⟨rfl, fun j hj h => by omega⟩)
    have hrr := sits_unique F s1 s2
    subst hrr
    rw [show (⟨e.c0, e.c1⟩ : Sii) = e from rfl, e1, Option.bind_some]
    have e2 : spec_BringOut.l11 (spec_BringOut.l9 k) fuelN p ms ss 0 0 e.c0 e.c1 z0 z1 w = _ := e2
    rw [e2]
    unfold brTail
    rcases s1 with ⟨h0, -⟩ | ⟨i, hi, hh, hr⟩
    · rw [show (r == 0) = true from by simpa using h0, ifE_t, ifE_t]
      exact ⟨w, e, 0, rfl, rfl, hw, fun _ => ⟨[], by simp, Br.nil e⟩⟩
    · obtain ⟨hok, hsi⟩ := letterAt_ok hl hi
      rw [← hr] at hok hsi
      have hh' : HasS p (lS ss r) e := by unfold lS; rw [hsi, getD_of hi]; exact hh
      rw [beq_ne hok.1, ifE_f, ifE_f]
      by_cases h12 : (w.length : Int) = 12
      · rw [show ((w.length : Int) == 12) = true from by simpa using h12, ifE_t, ifE_t]
        exact ⟨[], _, 4, rfl, rfl, by simp, fun h => absurd h (by decide)⟩
      · rw [beq_ne h12, ifE_f, ifE_f]
        have hg : (w.length + [r].length) * 8 ≤ 140737488355328 := by simp only [List.length_cons, List.length_nil]; omega
        rw [guardE_pos hg]
        obtain ⟨f1, ok, hstep⟩ := bring_step F hok he
        have reassoc1 : ((impl_letterMatrix.f ms r).bind fun r4 => (impl_inverted.f r4).bind fun r5 => (impl_moveEnd.f r5 e).bind fun r6 => ifE (!r6.2) (some (([] : List Int), (⟨0, 0⟩ : Sii), (3 : Int))) (impl_BringOut.l9 k p ms ss r6.1.c0 r6.1.c1 z0 z1 (w ++ [r]))) =
            (((impl_letterMatrix.f ms r).bind fun r4 => (impl_inverted.f r4).bind fun r5 => impl_moveEnd.f r5 e).bind fun r6 => ifE (!r6.2) (some (([] : List Int), (⟨0, 0⟩ : Sii), (3 : Int))) (impl_BringOut.l9 k p ms ss r6.1.c0 r6.1.c1 z0 z1 (w ++ [r]))) := by
          cases impl_letterMatrix.f ms r with
          | none => rfl
          | some q => simp only [Option.bind_some]; cases impl_inverted.f q with
            | none => rfl
            | some q2 => rfl
        have reassoc2 : ((spec_l09Letter.f ms (W (0 - r))).bind fun r6 => (spec_l04End.f r6 e).bind fun r7 => ifE (!r7.2) (some (([] : List Int), (⟨0, 0⟩ : Sii), (3 : Int))) (guardE ((w.length + [r].length) * 8 ≤ 140737488355328) <| spec_BringOut.l9 k p ms ss r7.1.c0 r7.1.c1 z0 z1 (w ++ [r]))) =
            (((spec_l09Letter.f ms (W (0 - r))).bind fun r6 => spec_l04End.f r6 e).bind fun r7 => ifE (!r7.2) (some (([] : List Int), (⟨0, 0⟩ : Sii), (3 : Int))) (guardE ((w.length + [r].length) * 8 ≤ 140737488355328) <| spec_BringOut.l9 k p ms ss r7.1.c0 r7.1.c1 z0 z1 (w ++ [r]))) := by
          cases spec_l09Letter.f ms (W (0 - r)) with
          | none => rfl
          | some q => rfl
        rw [reassoc1, reassoc2]
        have bad : ∃ w' e' c, some (([] : List Int), (⟨0, 0⟩ : Sii), (3 : Int)) = some (w', e', c) ∧ some (([] : List Int), (⟨0, 0⟩ : Sii), (3 : Int)) = some (w', e', c) ∧ w'.length ≤ 12 ∧ (c = 0 → ∃ u, w' = w ++ u ∧ Br p ms ss e u e') :=
          ⟨[], _, 3, rfl, rfl, by simp, fun h => absurd h (by decide)⟩
        rcases hstep with ⟨g1, g2, g3⟩ | ⟨g1, f2, g2⟩
        · rw [g1, g2, Option.bind_some, Option.bind_some]
          cases ok
          · exact bad
          · obtain ⟨g4, g5⟩ := g3 rfl
            obtain ⟨w', e', c, i1, i2, i3, i4⟩ := ih (w ++ [r]) f1 g4 (by simp only [List.length_append, List.length_cons, List.length_nil]; omega) (by simp only [List.length_append, List.length_cons, List.length_nil]; omega)
            rw [Bool.not_true, ifE_f, ifE_f, guardE_pos hg]
            refine ⟨w', e', c, i1, i2, i3, fun hc => ?_⟩
            obtain ⟨u, hu, hbr⟩ := i4 hc
            exact ⟨r :: u, by rw [hu]; simp, Br.cons e r f1 u e' hok hh' g5 g4 hbr⟩
        · rw [g1, g2, Option.bind_some, Option.bind_some]
          exact bad
end
end Go.Gn
end
section
set_option linter.unusedVariables false
set_option linter.unusedSimpArgs false
/-! plain: the law FnFreeWords -/
namespace Go.Gn
open Go Go.Eng Pl Pl.M2

/-- both bring out alike -/
theorem BringOut_f {p : Int} {ms : List Siiii} {ss : List Side} {e : End'} (h1 : ms.length ≤ 1000000) (h2 : ss.length ≤ 1000000) : ∃ w e' c, impl_BringOut.f p ms ss e = some (w, e', c) ∧ spec_BringOut.f p ms ss e = some (w, e', c) ∧ w.length ≤ 12 ∧
    (c = 0 → Free p ms ss ∧ isE e ∧ Br p ms ss e w e') := by
  unfold impl_BringOut.f spec_BringOut.f
  have bad : ∀ c : Int, c ≠ 0 → ∃ w e' c', some (([] : List Int), (⟨0, 0⟩ : Sii), c) = some (w, e', c') ∧ some (([] : List Int), (⟨0, 0⟩ : Sii), c) = some (w, e', c') ∧ w.length ≤ 12 ∧ (c' = 0 → Free p ms ss ∧ isE e ∧ Br p ms ss e w e') :=
    fun c hc => ⟨_, _, _, rfl, rfl, by simp, fun h => absurd h hc⟩
  rw [impl_IsEnd_f, Option.bind_some, spec_l09List_f h1 h2, Option.bind_some, spec_l01End_f, impl_freeCode_f h1 h2]
  by_cases he : isE e
  case neg =>
    rw [decide_eq_false he, Bool.not_false, ifE_t]
    by_cases hl : listE p ms ss = 1
    · rw [show (listE p ms ss == 1) = true from by simpa using hl, ifE_t]; exact bad 1 (by decide)
    · rw [beq_ne hl, ifE_f, Option.bind_some, Bool.not_false, ifE_t]; exact bad 1 (by decide)
  rw [decide_eq_true he, Bool.not_true, ifE_f, Option.bind_some, Option.bind_some, Bool.not_true, ifE_f]
  unfold freeE
  rcases listE_cases p ms ss with ⟨ec, g⟩ | ⟨ec, -⟩ | ⟨ec, -, -⟩
  · have hn := g.n
    rw [ec, if_pos rfl, beq_ne (by omega), ifE_f, show ((0 : Int) == 0) = true from rfl, ifE_t, spec_l09Ready_f g, Option.bind_some]
    unfold spec_BringOut.j6 readyE
    by_cases h0 : (freeR p ms ss).2 = 0
    · rw [bne_eq h0, ifE_f, if_pos h0]
      cases hb : (freeR p ms ss).1
      · exact bad 5 (by decide)
      · have F := free_of g hb h0
        rw [if_pos rfl, bne_eq rfl, ifE_f, Bool.not_true, ifE_f]
        obtain ⟨w, e', c, a1, a2, a3, a4⟩ := bringOut_l F 0 0 fuelN [] e he (by simp) (lt_fuel (by simp))
        exact ⟨w, e', c, a1, a2, a3, fun hc => by
          obtain ⟨u, hu, hbr⟩ := a4 hc
          rw [List.nil_append] at hu
          rw [hu]; exact ⟨F, he, hbr⟩⟩
    · rw [bne_ne h0, ifE_t, if_neg h0, bne_ne h0, ifE_t]; exact bad _ h0
  · rw [ec, if_neg (by omega), show ((1 : Int) == 1) = true from rfl, ifE_t, bne_ne (by decide), ifE_t]; exact bad 1 (by decide)
  · rw [ec, if_neg (by omega), show ((2 : Int) == 1) = false from rfl, ifE_f, show ((2 : Int) == 0) = false from rfl, ifE_f, bne_ne (by decide), ifE_t]
    unfold spec_BringOut.j6
    rw [bne_ne (by decide), ifE_t]; exact bad 2 (by decide)

/-! word matrices -/
def wmR (ms : List Siiii) : List Int → M2 → Siiii × Int
  | [], A => (ofM A, 0)
  | x :: r, A => if fitM 1000 (red (A.mul (mt ms x))) then wmR ms r (red (A.mul (mt ms x))) else (zM, 3)

section
variable {ms : List Siiii} (hM : ∀ m ∈ ms, isM (toM m)) (hl : ms.length ≤ 1000) {w : List Int} (hw : ∀ e ∈ w, okL ms e) (hwl : w.length ≤ 1000)
include hM hl hw hwl
theorem impl_wm_l (z0 z1 z2 z3 : Int) : ∀ (k i : Nat) (A : M2), w.length - i < k → i ≤ w.length → fitM 1000 A → A.det ≠ 0 → impl_WordMatrix.l7 k ms w (w.length : Int) (i : Int) z0 z1 z2 z3 A.a A.b A.c A.d = some (wmR ms (w.drop i) A) := by
  intro k
  induction k with
  | zero => intro i A h; omega
  | succ k ih =>
    intro i A h hi hA hd
    simp only [impl_WordMatrix.l7, impl_WordMatrix.s7]
    by_cases hlt : i < w.length
    · have ew : W ((i : Int) + 1) = ((i + 1 : Nat) : Int) := by rw [W_id (by omega) (by omega)]; omega
      have ok := hw _ (List.getElem_mem hlt)
      have hm := mt_ok hM ok
      have hr := red_ok hm
      rw [ifE_pos (by omega), getE_nat hlt, Option.bind_some, impl_letterMatrix_f hM ok hl, Option.bind_some, List.drop_eq_getElem_cons hlt, ew]
      have hp := impl_product_f (g := ofM A) (h := ofM (red (mt ms w[i]))) (fitM_mono hA (by omega)) (isM_fit hr) hd hr.2
      rw [show (⟨A.a, A.b, A.c, A.d⟩ : Siiii) = ofM A from rfl, hp, Option.bind_some, toM_ofM, toM_ofM, red_mul_right hd hm.2]
      simp only [wmR]
      by_cases hf : fitM 1000 (red (A.mul (mt ms w[i])))
      · rw [decide_eq_true hf, if_pos hf, Bool.not_true, ifE_f]
        exact ih (i + 1) _ (by omega) (by omega) hf (det_red_ne (det_ne_mul hd hm.2))
      · rw [decide_eq_false hf, if_neg hf]; rfl
    · rw [ifE_neg (by omega), List.drop_eq_nil_of_le (by omega)]; rfl
theorem spec_wm_l (z0 z1 z2 z3 : Int) : ∀ (k i : Nat) (A : M2), w.length - i < k → i ≤ w.length → fitM 1000 A → A.det ≠ 0 → spec_WordMatrix.l10 k ms w (i : Int) z0 z1 z2 z3 A.a A.b A.c A.d = some (wmR ms (w.drop i) A) := by
  intro k
  induction k with
  | zero => intro i A h; omega
  | succ k ih =>
    intro i A h hi hA hd
    simp only [spec_WordMatrix.l10, spec_WordMatrix.s10]
    by_cases hlt : i < w.length
    · have ew : W ((i : Int) + 1) = ((i + 1 : Nat) : Int) := by rw [W_id (by omega) (by omega)]; omega
      have ok := hw _ (List.getElem_mem hlt)
      have hm := mt_ok hM ok
      obtain ⟨y, ey, hy, hyr⟩ := spec_l09Letter_f hM ok hl
      rw [ifE_pos (by omega), getE_nat hlt, Option.bind_some, ey, Option.bind_some, List.drop_eq_getElem_cons hlt, ew]
      have hp := spec_l04Times_f (g := ofM A) (h := y) (fitM_mono hA (by omega)) (isM_fit hy) hd hy.2
      rw [show (⟨A.a, A.b, A.c, A.d⟩ : Siiii) = ofM A from rfl, hp, Option.bind_some, toM_ofM, ← red_mul_right hd hy.2, hyr, red_mul_right hd hm.2]
      simp only [wmR]
      by_cases hf : fitM 1000 (red (A.mul (mt ms w[i])))
      · rw [decide_eq_true hf, if_pos hf, Bool.not_true, ifE_f]
        exact ih (i + 1) _ (by omega) (by omega) hf (det_red_ne (det_ne_mul hd hm.2))
      · rw [decide_eq_false hf, if_neg hf]; rfl
    · rw [ifE_neg (by omega), List.drop_eq_nil_of_le (by omega)]; rfl
end

noncomputable def wmE (ms : List Siiii) (w : List Int) : Siiii × Int := open Classical in
  if ¬ (∀ m ∈ ms, isM (toM m)) then (zM, 1) else if ¬ ((1 ≤ ms.length ∧ ms.length ≤ 4) ∧ isWd ms.length w) then (zM, 2) else wmR ms w M2.one

theorem impl_isMovers_f (v : Int) : impl_isMovers.f v = some (decide (1 ≤ v ∧ v ≤ 4)) := by
  unfold impl_isMovers.f
  by_cases h : v ≥ 1
  · rw [ifE_pos h]; congr 1; rw [decide_eq_decide]; omega
  · rw [ifE_neg h, decide_eq_false (by omega)]

theorem impl_WordMatrix_f {ms : List Siiii} {w : List Int} (h1 : ms.length ≤ 1000000) (h2 : w.length ≤ 1000) : impl_WordMatrix.f ms w = some (wmE ms w) := by
  unfold impl_WordMatrix.f wmE
  rw [impl_areMatrices_f (by omega), Option.bind_some]
  by_cases hM : ∀ m ∈ ms, isM (toM m)
  · rw [all_iff.2 hM, Bool.not_true, ifE_f, impl_isMovers_f, Option.bind_some, if_neg (by simpa using hM)]
    by_cases hn : 1 ≤ (ms.length : Int) ∧ (ms.length : Int) ≤ 4
    · rw [decide_eq_true hn, Bool.not_true, ifE_f, impl_isWord_f (by omega) (by omega), Option.bind_some]
      by_cases hw : isWd ms.length w
      · rw [decide_eq_true hw, Bool.not_true, ifE_f, if_neg (fun h => h ⟨by omega, hw⟩)]
        have := impl_wm_l hM (by omega) (isWd_ok hw) h2 0 0 0 0 fuelN 0 M2.one (lt_fuel (by omega)) (by omega) isM_one (by decide)
        rw [List.drop_zero] at this
        exact this
      · rw [decide_eq_false hw, if_pos fun h => hw h.2]; rfl
    · rw [decide_eq_false hn, if_pos fun h => hn (by omega)]; rfl
  · rw [if_pos hM, Bool.eq_false_iff.2 fun h => hM (all_iff.1 h)]; rfl

theorem spec_wm2_l {ms : List Siiii} {w : List Int} (h1 : ms.length ≤ 1000000) (h2 : w.length ≤ 1000) (z0 z1 z2 z3 : Int) : ∀ (k i : Nat), ms.length - i < k → i ≤ ms.length → (∀ j, (h : j < ms.length) → j < i → isM (toM ms[j])) → spec_WordMatrix.l2 k ms w (i : Int) z0 z1 z2 z3 = some (wmE ms w) := by
  intro k
  induction k with
  | zero => intro i h; omega
  | succ k ih =>
    intro i h hi hb
    simp only [spec_WordMatrix.l2, spec_WordMatrix.s2]
    by_cases hlt : i < ms.length
    · have ew : W ((i : Int) + 1) = ((i + 1 : Nat) : Int) := by rw [W_id (by omega) (by omega)]; omega
      rw [ifE_pos (by omega), getE_nat hlt, Option.bind_some, spec_l04Is_f, Option.bind_some, ew]
      by_cases hm : isM (toM ms[i])
      · rw [decide_eq_true hm, Bool.not_true, ifE_f]
        refine ih (i + 1) (by omega) (by omega) fun j hj hji => ?_
        rcases Nat.lt_succ_iff_lt_or_eq.1 hji with h1 | rfl
        · exact hb j hj h1
        · exact hm
      · rw [decide_eq_false hm, Bool.not_false, ifE_t]
        unfold wmE; rw [if_pos fun h => hm (h _ (List.getElem_mem hlt))]; rfl
    · have hM : ∀ m ∈ ms, isM (toM m) := by
        intro m hm
        obtain ⟨j, hj, rfl⟩ := List.mem_iff_getElem.1 hm
        exact hb j hj (by omega)
      rw [ifE_neg (by omega), spec_l09Word_f (by omega), Option.bind_some]
      unfold wmE
      rw [if_neg (by simpa using hM)]
      by_cases hw : (1 ≤ (ms.length : Int) ∧ (ms.length : Int) ≤ 4) ∧ isWd ms.length w
      · rw [decide_eq_true hw, Bool.not_true, ifE_f, if_neg (fun h => h ⟨by omega, hw.2⟩)]
        have := spec_wm_l hM (by omega) (isWd_ok hw.2) h2 z0 z1 z2 z3 fuelN 0 M2.one (lt_fuel (by omega)) (by omega) isM_one (by decide)
        rw [List.drop_zero] at this
        exact this
      · rw [decide_eq_false hw, if_pos fun h => hw ⟨by omega, h.2⟩]; rfl
theorem spec_WordMatrix_f {ms : List Siiii} {w : List Int} (h1 : ms.length ≤ 1000000) (h2 : w.length ≤ 1000) : spec_WordMatrix.f ms w = some (wmE ms w) := by
  unfold spec_WordMatrix.f
  exact spec_wm2_l h1 h2 0 0 0 0 fuelN 0 (lt_fuel (by omega)) (by omega) fun j hj h => by omega

/-- a word's matrix leads the end back -/
theorem wm_back {p : Int} {ms : List Siiii} {ss : List Side} (F : Free p ms ss) {e e2 : End'} {u : List Int} (h : Br p ms ss e u e2) : ∀ (A : M2), fitM 1000 A → A.det ≠ 0 → (wmR ms u A).2 = 0 →
    isM (toM (wmR ms u A).1) ∧ Px ((toM (wmR ms u A).1).a * e2.c0 + (toM (wmR ms u A).1).b * e2.c1) ((toM (wmR ms u A).1).c * e2.c0 + (toM (wmR ms u A).1).d * e2.c1) (A.a * e.c0 + A.b * e.c1) (A.c * e.c0 + A.d * e.c1) := by
  induction h with
  | nil e => intro A hA hd _; exact ⟨⟨hA, hd⟩, Px.refl _ _⟩
  | cons e x e1 u e2 hx hh hp he1 r ih =>
    intro A hA hd hc
    have hm := mt_ok F.M hx
    unfold wmR at hc ⊢
    by_cases hf : fitM 1000 (red (A.mul (mt ms x)))
    · rw [if_pos hf] at hc ⊢
      have hAm := det_ne_mul hd hm.2
      obtain ⟨i1, i2⟩ := ih _ hf (det_red_ne hAm) hc
      refine ⟨i1, i2.trans ?_⟩
      refine (Px.red hAm e1.c0 e1.c1).symm.trans ?_
      have k := hp.map A
      have k5 : (A.mul (mt ms x)).a * e1.c0 + (A.mul (mt ms x)).b * e1.c1 = A.a * ((mt ms x).a * e1.c0 + (mt ms x).b * e1.c1) + A.b * ((mt ms x).c * e1.c0 + (mt ms x).d * e1.c1) := by unfold mul; simp only; grind
      have k6 : (A.mul (mt ms x)).c * e1.c0 + (A.mul (mt ms x)).d * e1.c1 = A.c * ((mt ms x).a * e1.c0 + (mt ms x).b * e1.c1) + A.d * ((mt ms x).c * e1.c0 + (mt ms x).d * e1.c1) := by unfold mul; simp only; grind
      rw [k5, k6]; exact k
    · rw [if_neg hf] at hc; simp at hc

noncomputable def shE (v : Int) (w : List Int) : Bool × Int := if (1 ≤ v ∧ v ≤ 4) ∧ isWd v w then (decide (isSh w), 0) else (false, 2)
theorem impl_IsShortWord_f {v : Int} {w : List Int} (h2 : w.length ≤ 1000) : impl_IsShortWord.f v w = some (shE v w) := by
  unfold impl_IsShortWord.f shE
  rw [impl_isMovers_f, Option.bind_some]
  by_cases hv : 1 ≤ v ∧ v ≤ 4
  · rw [decide_eq_true hv, Bool.not_true, ifE_f, impl_isWord_f (by omega) (by omega), Option.bind_some]
    by_cases hw : isWd v w
    · rw [decide_eq_true hw, Bool.not_true, ifE_f, if_pos ⟨hv, hw⟩, impl_isShort_f (by omega) (isWd_small (by omega) hw)]; rfl
    · rw [decide_eq_false hw, if_neg fun h => hw h.2]; rfl
  · rw [decide_eq_false hv, if_neg fun h => hv h.1]; rfl
theorem spec_IsShortWord_f {v : Int} {w : List Int} (h2 : w.length ≤ 1000) : spec_IsShortWord.f v w = some (shE v w) := by
  unfold spec_IsShortWord.f shE
  rw [spec_l09Word_f (by omega), Option.bind_some]
  by_cases hv : (1 ≤ v ∧ v ≤ 4) ∧ isWd v w
  · rw [decide_eq_true hv, Bool.not_true, ifE_f, if_pos hv, spec_l09Short_f, impl_isShort_f (by omega) (isWd_small (by omega) hv.2)]; rfl
  · rw [decide_eq_false hv, if_neg hv]; rfl

theorem impl_IsFree_f {p : Int} {ms : List Siiii} {ss : List Side} (h1 : ms.length ≤ 1000000) (h2 : ss.length ≤ 1000000) : impl_IsFree.f p ms ss = some (freeE p ms ss) := by
  unfold impl_IsFree.f; rw [impl_freeCode_f h1 h2]; rfl
theorem spec_IsFree_f {p : Int} {ms : List Siiii} {ss : List Side} (h1 : ms.length ≤ 1000000) (h2 : ss.length ≤ 1000000) : spec_IsFree.f p ms ss = some (freeE p ms ss) := by
  unfold spec_IsFree.f freeE
  rw [spec_l09List_f h1 h2, Option.bind_some]
  rcases listE_cases p ms ss with ⟨ec, g⟩ | ⟨ec, -⟩ | ⟨ec, -, -⟩
  · rw [ec, bne_eq rfl, ifE_f, if_pos rfl, spec_l09Free_f g.S g.M g.l (by have := g.n; omega)]; rfl
  · rw [ec, bne_ne (by decide), ifE_t, if_neg (by decide)]
  · rw [ec, bne_ne (by decide), ifE_t, if_neg (by decide)]

/-! how many short words -/
def pw (b : Int) : Nat → Int → Int
  | 0, x => x
  | n + 1, x => pw b n (W (x * b))
theorem pw_impl (b : Int) : ∀ (n k i : Nat) (x : Int), n < k → i + n ≤ 100 → impl_power.l3 k b x ((i + n : Nat) : Int) (i : Int) = some (pw b n x) := by
  intro n
  induction n with
  | zero =>
    intro k i x hk h
    obtain ⟨k, rfl⟩ : ∃ m, k = m + 1 := ⟨k - 1, by omega⟩
    simp only [impl_power.l3, impl_power.s3]
    rw [ifE_neg (by omega)]; rfl
  | succ n ih =>
    intro k i x hk h
    obtain ⟨k, rfl⟩ : ∃ m, k = m + 1 := ⟨k - 1, by omega⟩
    simp only [impl_power.l3, impl_power.s3]
    rw [ifE_pos (by omega), W_id (n := (i : Int) + 1) (by omega) (by omega)]
    have := ih k (i + 1) (W (x * b)) (by omega) (by omega)
    rw [show i + 1 + n = i + (n + 1) from by omega] at this
    exact this
theorem pw_spec (b : Int) : ∀ (n k : Nat) (x : Int), n < k → n ≤ 100 → spec_l01Power.l2 k b (n : Int) x = some (pw b n x) := by
  intro n
  induction n with
  | zero =>
    intro k x hk h
    obtain ⟨k, rfl⟩ : ∃ m, k = m + 1 := ⟨k - 1, by omega⟩
    simp only [spec_l01Power.l2, spec_l01Power.s2]
    rw [ifE_neg (by omega)]; rfl
  | succ n ih =>
    intro k x hk h
    obtain ⟨k, rfl⟩ : ∃ m, k = m + 1 := ⟨k - 1, by omega⟩
    simp only [spec_l01Power.l2, spec_l01Power.s2]
    rw [ifE_pos (by omega), W_id (n := ((n + 1 : Nat) : Int) - 1) (by omega) (by omega), show ((n + 1 : Nat) : Int) - 1 = (n : Int) from by omega]
    exact ih k _ (by omega) (by omega)
theorem power_same {b k : Int} (h0 : 0 ≤ k) (h : k ≤ 100) : impl_power.f b k = some (pw b k.toNat 1) ∧ spec_l01Power.f b k = some (pw b k.toNat 1) := by
  unfold impl_power.f spec_l01Power.f
  have h1 := pw_impl b k.toNat fuelN 0 1 (lt_fuel (by omega)) (by omega)
  have h2 := pw_spec b k.toNat fuelN 1 (lt_fuel (by omega)) (by omega)
  rw [Nat.zero_add, show ((k.toNat : Nat) : Int) = k from by omega] at h1
  rw [show ((k.toNat : Nat) : Int) = k from by omega] at h2
  exact ⟨h1, h2⟩
theorem CountShortWords_f (v n : Int) : ∃ r, impl_CountShortWords.f v n = some r ∧ spec_CountShortWords.f v n = some r := by
  unfold impl_CountShortWords.f spec_CountShortWords.f
  rw [impl_isMovers_f, Option.bind_some, spec_l01In_f, Option.bind_some]
  by_cases hv : 1 ≤ v ∧ v ≤ 4
  · rw [decide_eq_true hv, Bool.not_true, ifE_f, ifE_f, spec_l01In_f, Option.bind_some]
    by_cases hn : 0 ≤ n ∧ n ≤ 12
    · rw [ifE_neg (by omega), ifE_neg (by omega), decide_eq_true hn, Bool.not_true, ifE_f]
      by_cases h0 : n = 0
      · rw [show (n == 0) = true from by simpa using h0, ifE_t, ifE_t]; exact ⟨_, rfl, rfl⟩
      · obtain ⟨a, b⟩ := power_same (b := W (W (2 * v) - 1)) (k := W (n - 1)) (by rw [W_id (by omega) (by omega)]; omega) (by rw [W_id (by omega) (by omega)]; omega)
        rw [beq_ne h0, ifE_f, ifE_f, a, b]; exact ⟨_, rfl, rfl⟩
    · rw [decide_eq_false hn, Bool.not_false, ifE_t]
      by_cases hneg : n < 0
      · rw [ifE_pos hneg]; exact ⟨_, rfl, rfl⟩
      · rw [ifE_neg hneg, ifE_pos (by omega)]; exact ⟨_, rfl, rfl⟩
  · rw [decide_eq_false hv]; exact ⟨_, rfl, rfl⟩

section
variable {code : List Int} (hb : ∀ x ∈ code, 0 ≤ x ∧ x < 256) (hl : code.length ≤ 4500)
include hb hl
theorem words_j29 : laws_FnFreeWords.j29 code = some true := by
  unfold laws_FnFreeWords.j29
  obtain ⟨⟨p, ms, ss⟩, d1, h1⟩ := ex_DrawIsFree hb hl
  obtain ⟨⟨v, n⟩, d2, -⟩ := ex_DrawCountShortWords hb hl
  obtain ⟨⟨v', w'⟩, d3, h3⟩ := ex_DrawIsShortWord hb hl
  obtain ⟨⟨ms', w⟩, d4, h4⟩ := ex_DrawWordMatrix hb hl
  simp only at h1 h3 h4
  obtain ⟨r, c1, c2⟩ := CountShortWords_f v n
  rw [d1, Option.bind_some, impl_IsFree_f (by show ms.length ≤ 1000000; omega) (by show ss.length ≤ 1000000; omega), Option.bind_some, spec_IsFree_f (by show ms.length ≤ 1000000; omega) (by show ss.length ≤ 1000000; omega), Option.bind_some, d2, Option.bind_some, c1, Option.bind_some, c2, Option.bind_some, d3, Option.bind_some,
    impl_IsShortWord_f (by show w'.length ≤ 1000; omega), Option.bind_some, spec_IsShortWord_f (by show w'.length ≤ 1000; omega), Option.bind_some, d4, Option.bind_some, impl_WordMatrix_f (by show ms'.length ≤ 1000000; omega) (by show w.length ≤ 1000; omega), Option.bind_some, spec_WordMatrix_f (by show ms'.length ≤ 1000000; omega) (by show w.length ≤ 1000; omega), Option.bind_some]
  simp only [beq_self_eq_true, ifE_t, Bool.and_true]

theorem words_j15 : laws_FnFreeWords.j15 code = some true := by
  unfold laws_FnFreeWords.j15
  obtain ⟨⟨p, ms, ss, e⟩, d1, h1⟩ := ex_DrawBringOut hb hl
  simp only at h1
  obtain ⟨w, e', c, b1, b2, b3, b4⟩ := BringOut_f (p := p) (ms := ms) (ss := ss) (e := e) (by omega) (by omega)
  rw [d1, Option.bind_some]
  simp only
  rw [b1, Option.bind_some, b2, Option.bind_some, bne_eq rfl, ifE_f, likeInts_f (by show w.length ≤ 1000000; omega), Option.bind_some, decide_eq_true rfl, Bool.not_true, ifE_f, show (!((e'.c0 == e'.c0) && ((e'.c1 == e'.c1) && true))) = false from by simp, ifE_f, words_j29 hb hl]
  by_cases hc : c = 0
  · obtain ⟨F, he, hbr⟩ := b4 hc
    have hok := br_ok hbr
    have hn := F.n
    have hwd : isWd (ms.length : Int) w := ⟨b3, hok⟩
    have hs : shE (ms.length : Int) w = (true, 0) := by
      unfold shE; rw [if_pos ⟨by omega, hwd⟩, decide_eq_true (br_short F hbr he)]
    rw [show (c == 0) = true from by simpa using hc, ifE_t, impl_IsShortWord_f (by show w.length ≤ 1000; omega), Option.bind_some, hs, impl_WordMatrix_f (by omega) (by show w.length ≤ 1000; omega), Option.bind_some]
    simp only [bne_eq rfl, ifE_f, Bool.not_true]
    have hwm : wmE ms w = wmR ms w M2.one := by
      unfold wmE; rw [if_neg (fun h => h F.M), if_neg (fun h => h ⟨hn, hwd⟩)]
    rw [hwm]
    by_cases h0 : (wmR ms w M2.one).2 = 0
    · rw [show ((wmR ms w M2.one).2 == 0) = true from by simpa using h0, ifE_t]
      obtain ⟨i1, i2⟩ := wm_back F hbr M2.one isM_one (by decide) h0
      have he' := br_end hbr he
      obtain ⟨e2, code', m1, m2⟩ := impl_MoveEnd_f (g := (wmR ms w M2.one).1) i1 he'
      rw [m1, Option.bind_some]
      by_cases hcc : code' = 0
      · obtain ⟨g1, k, k0, k1, k2⟩ := m2 hcc
        rw [show (code' == 0) = true from by simpa using hcc, ifE_t]
        have hE : e2 = e := by
          refine isE_unique g1 he ?_
          have a1 : Px e2.c0 e2.c1 ((toM (wmR ms w M2.one).1).a * e'.c0 + (toM (wmR ms w M2.one).1).b * e'.c1) ((toM (wmR ms w M2.one).1).c * e'.c0 + (toM (wmR ms w M2.one).1).d * e'.c1) := ⟨k, 1, k0, by decide, by rw [Int.one_mul]; exact k1.symm, by rw [Int.one_mul]; exact k2.symm⟩
          have k4 : M2.one.a * e.c0 + M2.one.b * e.c1 = e.c0 ∧ M2.one.c * e.c0 + M2.one.d * e.c1 = e.c1 := by unfold M2.one; constructor <;> simp
          rw [k4.1, k4.2] at i2
          exact a1.trans i2
        rw [hE, show (!((e.c0 == e.c0) && ((e.c1 == e.c1) && true))) = false from by simp, ifE_f]
      · rw [beq_ne hcc, ifE_f]
    · rw [beq_ne h0, ifE_f]
  · rw [beq_ne hc, ifE_f]
end

theorem FnFreeWords {code : List Int} (hb : ∀ x ∈ code, 0 ≤ x ∧ x < 256) : laws_FnFreeWords.f code = some true := by
  unfold laws_FnFreeWords.f laws_big.f
  rw [Option.bind_some]
  by_cases hbig : (code.length : Int) > 4096
  · rw [decide_eq_true hbig, ifE_t]
  have hl : code.length ≤ 4500 := by omega
  rw [decide_eq_false hbig, ifE_f]
  obtain ⟨⟨p, ms, ss, w⟩, d1, h1⟩ := ex_DrawSideOfWord hb hl
  simp only at h1
  rw [d1, Option.bind_some]
  simp only
  rw [impl_SideOfWord_f (by omega) (by omega) (by omega), Option.bind_some, spec_SideOfWord_f (by omega) (by omega) (by omega), Option.bind_some, bne_eq rfl, ifE_f, eqS4, decide_eq_true rfl, Bool.not_true, ifE_f, words_j15 hb hl]
  by_cases h0 : (sideE p ms ss w).2 = 0
  · rw [show ((sideE p ms ss w).2 == 0) = true from by simpa using h0, ifE_t]
    by_cases h2 : (w.length : Int) > 1
    · rw [ifE_pos h2, W_id (n := (w.length : Int) - 1) (by omega) (by omega)]
      have hg : getS w 0 ((w.length : Int) - 1) = some (w.take (w.length - 1)) := by
        unfold getS; rw [if_pos ⟨by omega, by omega, by omega⟩, show ((w.length : Int) - 1).toNat = w.length - 1 from by omega]; simp
      rw [hg, Option.bind_some, impl_SideOfWord_f (by omega) (by omega) (by simp; omega), Option.bind_some]
      by_cases h3 : (sideE p ms ss (w.take (w.length - 1))).2 = 0
      · rw [show ((sideE p ms ss (w.take (w.length - 1))).2 == 0) = true from by simpa using h3, ifE_t, impl_AreApartSides_f, Option.bind_some]
        -- what both say
        have key : apE p (sideE p ms ss w).1 (opp (sideE p ms ss (w.take (w.length - 1))).1) = (true, 0) := by
          unfold sideE at h0 h3 ⊢
          by_cases c1 : listE p ms ss ≠ 0
          · rw [if_pos c1] at h0; exact absurd h0 c1
          rw [if_neg c1] at h0 h3; rw [if_neg c1, if_neg c1]
          by_cases c2 : ¬ isWd ms.length w
          · rw [if_pos c2] at h0; exact absurd h0 (by decide)
          rw [if_neg c2] at h0; rw [if_neg c2]
          by_cases c3 : ¬ isWd ms.length (w.take (w.length - 1))
          · rw [if_pos c3] at h3; exact absurd h3 (by decide)
          rw [if_neg c3] at h3; rw [if_neg c3]
          by_cases c4 : readyE p ms ss ≠ 0
          · rw [if_pos c4] at h0; exact absurd h0 c4
          rw [if_neg c4] at h0 h3; rw [if_neg c4, if_neg c4]
          by_cases c5 : ¬ isSh w
          · rw [if_pos c5] at h0; exact absurd h0 (by decide)
          rw [if_neg c5] at h0; rw [if_neg c5]
          by_cases c6 : ¬ isSh (w.take (w.length - 1))
          · rw [if_pos c6] at h3; exact absurd h3 (by decide)
          rw [if_neg c6] at h3; rw [if_neg c6]
          have n1 : w ≠ [] := by intro h; rw [h] at h2; simp at h2
          have n2 : w.take (w.length - 1) ≠ [] := by intro h; have := congrArg List.length h; simp at this; omega
          rw [if_neg n1] at h0; rw [if_neg n2] at h3; rw [if_neg n1, if_neg n2]
          rcases listE_cases p ms ss with ⟨ec, g⟩ | ⟨ec, -⟩ | ⟨ec, -, -⟩
          · have F : Free p ms ss := by
              unfold readyE at c4
              have c4 := Classical.not_not.1 c4
              by_cases d : (freeR p ms ss).2 = 0
              · rw [if_pos d] at c4
                by_cases d2 : (freeR p ms ss).1 = true
                · exact free_of g d2 d
                · rw [if_neg d2] at c4; omega
              · rw [if_neg d] at c4; exact absurd c4 d
            have hlen : (w.take (w.length - 1)).length = w.length - 1 := by simp
            rw [hlen] at h3 ⊢
            obtain ⟨a1, a2, a3⟩ := word_apart F (isWd_ok (Classical.not_not.1 c2)) (Classical.not_not.1 c5) (by omega) h0 h3
            unfold apE
            rw [if_pos ⟨a1, isS_opp a2⟩, decide_eq_true a3]
          · exact absurd ec (by omega)
          · exact absurd ec (by omega)
        have key2 : apE p (sideE p ms ss w).1 (⟨(sideE p ms ss (w.take (w.length - 1))).1.c0, (sideE p ms ss (w.take (w.length - 1))).1.c1, (sideE p ms ss (w.take (w.length - 1))).1.c2, !(sideE p ms ss (w.take (w.length - 1))).1.c3⟩ : Side) = (true, 0) := key
        rw [key2]; rfl
      · rw [beq_ne h3, ifE_f]
    · rw [ifE_neg h2]
  · rw [beq_ne h0, ifE_f]

end Go.Gn
end
