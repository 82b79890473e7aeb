import Derived.Test.YtdfepbmcglnhcaaG0
import Derived.Test.YtdfepbmcglnhcaaFM
set_option linter.unusedVariables false
set_option linter.unusedSimpArgs false
/-! plain: what is drawn is there -/
namespace Go.GenTry
open Go Go.Eng Pl

abbrev Src := SLu8eiu64
/-- a source at work: bytes, its place not below 0 -/
def SrcOk (s : Src) : Prop := (∀ x ∈ s.c0, 0 ≤ x ∧ x < 256) ∧ 0 ≤ s.c1 ∧ s.c0.length ≤ 4096 ∧ s.c1 ≤ 4096

theorem and_small (n : Nat) (x : BitVec 64) (y : BitVec 64) (h : y.toNat ≤ n) : ((x &&& y).toNat : Int) ≤ n := by
  have := Nat.and_le_right (n := x.toNat) (m := y.toNat)
  rw [BitVec.toNat_and]; omega

theorem wrap_u64 {n : Int} (h0 : 0 ≤ n) (h1 : n < 18446744073709551616) : IntKind.wrap .u64 n = n := by
  simp [IntKind.wrap, IntKind.bits, IntKind.signed]; omega

theorem next_some {s : Src} (hs : SrcOk s) {n : Int} (hn : 1 ≤ n) : ∃ r s', spec_l01Next.f s n = some (r, s') ∧ 0 ≤ r ∧ r < n ∧ SrcOk s' := by
  obtain ⟨h1, h2, h3, h4⟩ := hs
  unfold spec_l01Next.f
  rw [ifE_neg (by omega)]
  generalize hx : (BitVec.ofInt 64 (Int.fdiv (IntKind.wrap .u64 ((IntKind.wrap .u64 (s.c2 * 6364136223846793005)) + 1442695040888963407)) (2 ^ 23))) = x
  have ha := and_small 17179869183 x (BitVec.ofInt 64 17179869183) (by decide)
  generalize hz : (((x &&& (BitVec.ofInt 64 17179869183)).toNat : Nat) : Int) = z at *
  have hz0 : 0 ≤ z := by omega
  rw [wrap_u64 hz0 (by omega), W_id (n := z) (by omega) (by omega)]
  by_cases hlt : s.c1 < (s.c0.length : Int)
  · rw [ifE_pos hlt]
    obtain ⟨e, he, -, hm⟩ := getE_some h2 hlt
    have hb := h1 e hm
    rw [he, Option.bind_some, guardE_pos (by omega), W_id (n := e) (by omega) (by omega), W_id (n := z + e) (by omega) (by omega), W_id (n := s.c1 + 1) (by omega) (by omega)]
    refine ⟨_, _, rfl, Int.tmod_nonneg _ (by omega), ?_, h1, by simp only; omega, h3, by simp only; omega⟩
    exact Int.tmod_lt_of_pos _ (by omega)
  · rw [ifE_neg hlt, guardE_pos (by omega)]
    exact ⟨_, _, rfl, Int.tmod_nonneg _ (by omega), Int.tmod_lt_of_pos _ (by omega), h1, h2, h3, h4⟩

theorem pick_some {s : Src} (hs : SrcOk s) {l : List Int} (hl : l ≠ []) : ∃ r s', spec_l01Pick.f s l = some (r, s') ∧ r ∈ l ∧ SrcOk s' := by
  have hn : 1 ≤ (l.length : Int) := by have := List.length_pos_iff.2 hl; omega
  obtain ⟨i, s', h1, h2, h3, h4⟩ := next_some hs hn
  obtain ⟨e, h5, -, h6⟩ := getE_some h2 h3
  unfold spec_l01Pick.f
  rw [h1, Option.bind_some]
  simp only
  rw [h5, Option.bind_some]
  exact ⟨e, s', rfl, h6, h4⟩

theorem from_l (v0 : List Int) (hb : ∀ x ∈ v0, 0 ≤ x ∧ x < 256) (hl : v0.length ≤ 4096) (c1 : Int) (hc : 0 ≤ c1 ∧ c1 ≤ 4096) : ∀ (k i : Nat) (h : Int), v0.length - i < k → ∃ s, spec_l01From.l3 k v0 (i : Int) v0 c1 h = some s ∧ SrcOk s := by
  intro k
  induction k with
  | zero => intro i h hk; omega
  | succ k ih =>
    intro i h hk
    simp only [spec_l01From.l3, spec_l01From.s3]
    by_cases h1 : (i : Int) < (v0.length : Int)
    · rw [ifE_pos h1, ifE_pos (by omega), getE_nat (by omega), Option.bind_some]
      have e : W ((i : Int) + 1) = ((i + 1 : Nat) : Int) := by rw [W_id (by omega) (by omega)]; omega
      rw [e]
      exact ih (i + 1) _ (by omega)
    · rw [ifE_neg h1]
      exact ⟨_, rfl, hb, hc.1, hl, hc.2⟩

theorem from_some {code : List Int} (hb : ∀ x ∈ code, 0 ≤ x ∧ x < 256) (hl : code.length ≤ 4096) : ∃ s, spec_l01From.f code = some s ∧ SrcOk s := by
  unfold spec_l01From.f
  exact from_l code hb hl 0 (by omega) fuelN 0 _ (lt_fuel (by omega))


/-- there is an answer, and it is as told -/
def Ex {α : Type} (P : α → Prop) (o : Option α) : Prop := ∃ x, o = some x ∧ P x
section
variable {α β : Type} {P : α → Prop} {Q : β → Prop}
theorem Ex.ret {x : α} (h : P x) : Ex P (some x) := ⟨x, rfl, h⟩
theorem Ex.ite {c : Bool} {a b : Option α} (ha : c = true → Ex P a) (hb : c = false → Ex P b) : Ex P (ifE c a b) := by
  cases c
  · exact hb rfl
  · exact ha rfl
theorem Ex.bind {o : Option β} {f : β → Option α} (h : Ex Q o) (k : ∀ x, Q x → Ex P (f x)) : Ex P (o.bind f) := by
  obtain ⟨x, rfl, hx⟩ := h; exact k x hx
theorem Ex.mono {R : α → Prop} {o : Option α} (h : Ex P o) (k : ∀ x, P x → R x) : Ex R o := by
  obtain ⟨x, e, hx⟩ := h; exact ⟨x, e, k x hx⟩
theorem Ex.guard {p : Prop} [Decidable p] {a : Option α} (hp : p) (h : Ex P a) : Ex P (guardE p a) := by rw [guardE_pos hp]; exact h
end
theorem ex_next {s : Src} (hs : SrcOk s) {n : Int} (hn : 1 ≤ n) : Ex (fun r : Int × Src => (0 ≤ r.1 ∧ r.1 < n) ∧ SrcOk r.2) (spec_l01Next.f s n) := by
  obtain ⟨r, s', h1, h2, h3, h4⟩ := next_some hs hn; exact ⟨_, h1, ⟨h2, h3⟩, h4⟩
theorem ex_pick {s : Src} (hs : SrcOk s) {l : List Int} (hl : l ≠ []) : Ex (fun r : Int × Src => r.1 ∈ l ∧ SrcOk r.2) (spec_l01Pick.f s l) := by
  obtain ⟨r, s', h1, h2, h3⟩ := pick_some hs hl; exact ⟨_, h1, h2, h3⟩
theorem ex_from {code : List Int} (hb : ∀ x ∈ code, 0 ≤ x ∧ x < 256) (hl : code.length ≤ 4096) : Ex SrcOk (spec_l01From.f code) := by
  obtain ⟨s, h1, h2⟩ := from_some hb hl; exact ⟨_, h1, h2⟩

abbrev GS := fun r : Siiii × Src => SrcOk r.2
theorem l04Draw_tail {s : Src} (hs : SrcOk s) (o3_0 o3_1 o3_2 o3_3 : Int) : Ex GS (
    (spec_l01Next.f s 9).bind fun r1 =>
    ifE (r1.1 == 0) (
      (spec_l01Pick.f r1.2 [2, 3, 4, 5, 9]).bind fun r2 =>
      (spec_l01Next.f r2.2 5).bind fun r3 =>
      (spec_l01Next.f r3.2 40).bind fun r4 =>
      ifE (r4.1 == 0) (
        some ((⟨1001, W (r3.1 - 2), 0, 1⟩ : Siiii), r4.2)) (
        ifE (r4.1 == 1) (
          some ((⟨r2.1, W (r3.1 - 2), r2.1, W (r3.1 - 2)⟩ : Siiii), r4.2)) (
          some ((⟨r2.1, W (r3.1 - 2), 0, 1⟩ : Siiii), r4.2)))) (
      ifE (r1.1 == 1) (
        (spec_l01Pick.f r1.2 [2, 3, 4, 7, 1]).bind fun r5 =>
        (spec_l01Next.f r5.2 40).bind fun r6 =>
        ifE (r6.1 == 0) (
          some ((⟨1001, 0, 0, r5.1⟩ : Siiii), r6.2)) (
          ifE (r6.1 == 1) (
            some ((⟨1, 0, 1, 0⟩ : Siiii), r6.2)) (
            some ((⟨1, 0, 0, r5.1⟩ : Siiii), r6.2)))) (
        ifE (r1.1 == 2) (
          (spec_l01Pick.f r1.2 [1, (-1), 2, 3]).bind fun r7 =>
          (spec_l01Next.f r7.2 40).bind fun r8 =>
          ifE (r8.1 == 0) (
            some ((⟨1001, r7.1, 1, 0⟩ : Siiii), r8.2)) (
            ifE (r8.1 == 1) (
              some ((⟨0, r7.1, 0, r7.1⟩ : Siiii), r8.2)) (
              some ((⟨0, r7.1, 1, 0⟩ : Siiii), r8.2)))) (
          ifE (r1.1 == 3) (
            (spec_l01Next.f r1.2 2001).bind fun r9 =>
            (spec_l01Next.f r9.2 9).bind fun r10 =>
            (spec_l01Next.f r10.2 9).bind fun r11 =>
            (spec_l01Next.f r11.2 2001).bind fun r12 =>
            (spec_l01Next.f r12.2 40).bind fun r13 =>
            ifE (r13.1 == 0) (
              some ((⟨1001, r10.1, r11.1, W (r12.1 - 1000)⟩ : Siiii), r13.2)) (
              ifE (r13.1 == 1) (
                some ((⟨W (r9.1 - 1000), r10.1, W (r9.1 - 1000), r10.1⟩ : Siiii), r13.2)) (
                some ((⟨W (r9.1 - 1000), r10.1, r11.1, W (r12.1 - 1000)⟩ : Siiii), r13.2)))) (
            ifE (r1.1 == 4) (
              (spec_l01Next.f r1.2 7).bind fun r14 =>
              (spec_l01Next.f r14.2 40).bind fun r15 =>
              ifE (r15.1 == 0) (
                some ((⟨1001, W (r14.1 - 3), 0, 1⟩ : Siiii), r15.2)) (
                ifE (r15.1 == 1) (
                  some ((⟨1, W (r14.1 - 3), 1, W (r14.1 - 3)⟩ : Siiii), r15.2)) (
                  some ((⟨1, W (r14.1 - 3), 0, 1⟩ : Siiii), r15.2)))) (
              (spec_l01Next.f r1.2 40).bind fun r16 =>
              ifE (r16.1 == 0) (
                some ((⟨1001, o3_1, o3_2, o3_3⟩ : Siiii), r16.2)) (
                ifE (r16.1 == 1) (
                  some ((⟨o3_0, o3_1, o3_0, o3_1⟩ : Siiii), r16.2)) (
                  some ((⟨o3_0, o3_1, o3_2, o3_3⟩ : Siiii), r16.2))))))))) := by
  repeat' first
    | exact Ex.ret (by assumption)
    | (refine Ex.ite (fun _ => ?_) (fun _ => ?_))
    | (refine Ex.bind (ex_next (by assumption) (by omega)) fun r h => ?_; obtain ⟨h1, h2⟩ := h)
    | (refine Ex.bind (ex_pick (by assumption) (by simp)) fun r h => ?_; obtain ⟨h1, h2⟩ := h)

theorem l04Draw_l6 {rec3 : Int → (List Int) → Int → Int → Int → Int → Int → Int → Int → Int → Int → Int → Option (Siiii × SLu8eiu64)} {v4 : Int}
    (hrec : ∀ (s : Src) (a b c d e f g h : Int), SrcOk s → Ex GS (rec3 (W (v4 + 1)) s.c0 s.c1 s.c2 a b c d e f g h)) : ∀ (k : Nat) (i : Int) (s : Src) (a b c d e f g h : Int), 0 ≤ i → i ≤ 4 → (4 - i).toNat < k → SrcOk s →
    Ex GS (spec_l04Draw.l6 rec3 k v4 i s.c0 s.c1 s.c2 a b c d e f g h) := by
  intro k
  induction k with
  | zero => intro i s a b c d e f g h h0 h1 hk; omega
  | succ k ih =>
    intro i s a b c d e f g h h0 h1 hk hs
    simp only [spec_l04Draw.l6, spec_l04Draw.s6]
    refine Ex.ite (fun hlt => ?_) (fun hge => ?_)
    · have hlt : i < 4 := by simpa using hlt
      refine Ex.bind (ex_next (s := ⟨s.c0, s.c1, s.c2⟩) hs (by omega)) fun r hr => ?_
      obtain ⟨-, hr⟩ := hr
      have ew : W (i + 1) = i + 1 := W_id (by omega) (by omega)
      rw [ew]
      have hgo : ∀ a b c d e f g h, Ex GS (spec_l04Draw.l6 rec3 k v4 (i + 1) r.2.c0 r.2.c1 r.2.c2 a b c d e f g h) := fun a b c d e f g h => ih (i + 1) r.2 a b c d e f g h (by omega) (by omega) (by omega) hr
      have hi : i = 0 ∨ i = 1 ∨ i = 2 ∨ i = 3 := by omega
      rcases hi with rfl | rfl | rfl | rfl
      · exact hgo ..
      · exact hgo ..
      · exact hgo ..
      · exact hgo ..
    · refine Ex.bind (Q := fun _ => True) (Ex.ret trivial) fun r _ => ?_
      refine Ex.ite (fun _ => ?_) (fun _ => ?_)
      · exact l04Draw_tail (s := ⟨s.c0, s.c1, s.c2⟩) hs _ _ _ _
      · exact hrec s _ _ _ _ _ _ _ _ hs

theorem l04Draw_l3 : ∀ (k : Nat) (i : Int) (s : Src) (a b c d e f g h : Int), 0 ≤ i → i ≤ 5 → (5 - i).toNat < k → SrcOk s →
    Ex GS (spec_l04Draw.l3 k i s.c0 s.c1 s.c2 a b c d e f g h) := by
  intro k
  induction k with
  | zero => intro i s a b c d e f g h h0 h1 hk; omega
  | succ k ih =>
    intro i s a b c d e f g h h0 h1 hk hs
    simp only [spec_l04Draw.l3, spec_l04Draw.s3]
    refine Ex.ite (fun hlt => ?_) (fun hge => ?_)
    · have hlt : i < 5 := by simpa using hlt
      have ew : W (i + 1) = i + 1 := W_id (by omega) (by omega)
      exact l04Draw_l6 (fun s a b c d e f g h hs => by rw [ew]; exact ih (i + 1) s a b c d e f g h (by omega) (by omega) (by omega) hs) fuelN 0 s _ _ _ _ _ _ _ _ (by omega) (by omega) (lt_fuel (by omega)) hs
    · exact l04Draw_tail (s := ⟨s.c0, s.c1, s.c2⟩) hs _ _ _ _

theorem ex_l04Draw {s : Src} (hs : SrcOk s) : Ex GS (spec_l04Draw.f s) := by
  unfold spec_l04Draw.f
  exact l04Draw_l3 fuelN 0 s _ _ _ _ _ _ _ _ (by omega) (by omega) (lt_fuel (by omega)) hs

end Go.GenTry
