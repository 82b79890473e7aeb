import Derived.Test.YtdfepbmcglnhcaaEngV
import Derived.Test.YtdfepbmcglnhcaaV6
import Derived.Laws.BitsLemmas
set_option linter.unusedVariables false
set_option linter.unusedSimpArgs false
/-! plain: parts for the printed functions -/
namespace Pl
open Go Go.Eng

theorem W_id {n : Int} (h : -9223372036854775808 ≤ n) (h' : n ≤ 9223372036854775807) : W n = n := by
  show IntKind.i64.wrap n = n
  rw [IntKind.wrap_i64]; omega
theorem ifE_t {α : Type} (a b : Option α) : ifE true a b = a := rfl
theorem ifE_f {α : Type} (a b : Option α) : ifE false a b = b := rfl
theorem ifE_pos {α : Type} {p : Prop} [Decidable p] (h : p) (a b : Option α) : ifE (decide p) a b = a := by rw [decide_eq_true h]; rfl
theorem ifE_neg {α : Type} {p : Prop} [Decidable p] (h : ¬ p) (a b : Option α) : ifE (decide p) a b = b := by rw [decide_eq_false h]; rfl
theorem guardE_pos {α : Type} {p : Prop} [Decidable p] (h : p) (a : Option α) : guardE p a = a := if_pos h
theorem fuel_succ (n : Nat) (h : n ≤ 1000) : ∃ k, fuelN = k + n := ⟨fuelN - n, by unfold fuelN; omega⟩
theorem lt_fuel {n : Nat} (h : n < 18446744073709551616) : n < fuelN := by unfold fuelN; omega

theorem bne_ne {a b : Int} (h : a ≠ b) : (a != b) = true := by simp [h]
theorem bne_eq {a b : Int} (h : a = b) : (a != b) = false := by simp [h]
theorem beq_ne {a b : Int} (h : a ≠ b) : (a == b) = false := by simp [h]

theorem getE_some {α : Type} {l : List α} {i : Int} (h0 : 0 ≤ i) (h1 : i < l.length) : ∃ x, getE l i = some x ∧ l[i.toNat]? = some x ∧ x ∈ l := by
  have hlt : i.toNat < l.length := by omega
  refine ⟨l[i.toNat], ?_, by simp [hlt], by simp⟩
  unfold getE; rw [if_pos h0]; simp [hlt]
theorem getE_nat {α : Type} {l : List α} {i : Nat} (h1 : i < l.length) : getE l (i : Int) = some l[i] := by
  unfold getE; rw [if_pos (by omega)]; simp [h1]

theorem imax_neg {a : Int} : imax a (-a) = (a.natAbs : Int) := by unfold imax; split <;> omega

/-- the greatest common divisor, as both programs find it -/
theorem gcd_step (a b : Int) (hb : b ≠ 0) : Int.gcd b (Int.tmod a b) = Int.gcd a b := by
  unfold Int.gcd
  rw [Int.natAbs_tmod, Nat.gcd_comm b.natAbs, ← Nat.gcd_rec, Nat.gcd_comm]
  
theorem tmod_lt (a b : Int) (hb : b ≠ 0) : (Int.tmod a b).natAbs < b.natAbs := by
  rw [Int.natAbs_tmod]; exact Nat.mod_lt _ (by omega)
theorem tmod_le (a b : Int) : (Int.tmod a b).natAbs ≤ a.natAbs := by
  rw [Int.natAbs_tmod]; exact Nat.mod_le _ _

end Pl
