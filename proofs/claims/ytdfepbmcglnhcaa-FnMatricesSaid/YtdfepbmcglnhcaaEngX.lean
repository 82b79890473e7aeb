import Derived.Test.YtdfepbmcglnhcaaEngV
import Derived.Below
import Derived.Laws.Rows
import GoSem.Claim
set_option linter.unusedVariables false
/-! From a contract to the walk that a row asks. -/
namespace Go.Eng
open Go
variable {P : Program}

def IsRow' (k : IntKind) (w : World) (a : Option Addr) (len cap : Nat) (zs : List Int) : Prop :=
  (a = none ∧ len = 0 ∧ cap = 0 ∧ zs = []) ∨
  ∃ x, a = some x ∧ len ≤ cap ∧ cap ≤ maxLen ∧ zs.length = cap ∧ (∀ i, i < zs.length → w.cell? (x.add i) = some (.int k (zs.getD i 0))) ∧ ∀ n ∈ zs, (Lit.int k n).wf = true

theorem rp_ints {k : IntKind} {w : World} {a : Option Addr} {len cap : Nat} {zs : List Int} (h : IsRow' k w a len cap zs) : RP w (fun b => b < w.heap.size) (R true 1 (cK k) (zs.take len)) (.slice a len cap) := by
  rcases h with ⟨rfl, rfl, rfl, rfl⟩ | ⟨x, rfl, h1, h2, h3, h4, -⟩
  · exact nil_rp true 1
  · have hlen : (zs.take len).length = len := by rw [List.length_take]; omega
    unfold R
    rw [hlen]
    refine .ro true 1 len _ _ cap x (fun i _ => .int k (zs.getD i 0)) (by rw [List.length_map, hlen]) h1 h2 ?_ (fun l hl => ?_) (fun _ l hl d hd => ?_) (fun i j hi hj => ?_) (fun i j hi hj => rfl) (fun i j hi hj => ?_)
    · by_cases h0 : len = 0
      · exact .inl h0
      · refine .inr ⟨rfl, ?_⟩
        have := block_lt_of_cell (h4 0 (by omega))
        rwa [add_block] at this
    · obtain ⟨n, -, rfl⟩ := List.mem_map.1 hl; rfl
    · obtain ⟨n, -, rfl⟩ := List.mem_map.1 hl
      simp only [cK, List.mem_singleton] at hd
      subst hd; rfl
    · have : j = 0 := by omega
      subst this
      rw [Nat.mul_one, Nat.add_zero]
      exact h4 i (by omega)
    · have : j = 0 := by omega
      subst this
      have hi2 : i < zs.length := by omega
      have e : ((List.map (cK k) (zs.take len)).getD i []).getD 0 .un = K k (zs.getD i 0) := by
        simp [List.getD_eq_getElem?_getD, hi, hi2, cK]
      rw [e]
      exact .v _

/-- a law of bytes alone -/
theorem walk_bytes {f : Nat} {w : World} {a : Option Addr} {len cap : Nat} {zs : List Int} (hF : Fn P f [R true 1 (cK .u8) (zs.take len)] [] [] (B true)) (h : IsRow' .u8 w a len cap zs) :
    Calls P f #[.slice a len cap] w fun e w' => e = .returned (.bool true) ∧ RowKit.Below w.heap.size w w' := by
  have := hF w (fun _ => none) (fun _ => undef') (fun b => b < w.heap.size) [.slice a len cap] rfl (fun j hj => ?_) (fun p hp => by cases hp) (fun p hp => by cases hp) (fun p hp => by cases hp) (fun b hb => hb)
  · refine calls_mono this fun e w' hh => ?_
    obtain ⟨x, bo', σ', he, hk, hr, -⟩ := hh
    have hx : x = .bool true := hr
    subst hx
    refine ⟨he, hk.os, hk.tape, hk.output, hk.size, fun k hlt => hk.block k hlt ?_⟩
    rintro ⟨p, hp, -⟩
    cases hp
  · have : j = 0 := by simp at hj; omega
    subst this
    exact rp_ints h

theorem u8_wf {n : Int} (h : (Lit.int .u8 n).wf = true) : 0 ≤ n ∧ n < 256 := by
  simp [Lit.wf] at h
  simp [IntKind.min, IntKind.max, IntKind.signed, IntKind.bits] at h
  omega
end Go.Eng
