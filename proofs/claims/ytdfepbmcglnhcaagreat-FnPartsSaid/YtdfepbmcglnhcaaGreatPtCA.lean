import Derived.Test.YtdfepbmcglnhcaaGreatPtF
import Derived.Test.YtdfepbmcglnhcaaGreatProg
section
set_option linter.unusedVariables false
set_option maxRecDepth 100000
open Go Go.Eng
namespace Go.CTryz
open Go.Gn
theorem mix : Go.Proofs.Tryz.prog.follows .mixedOrders = true := by kernel_rfl
theorem laws_big.calls {a0 : (List Int)} {r : Bool} (h : laws_big.f a0 = some r) : Eng.Fn Go.Proofs.Tryz.prog 8 [R true 1 (cK .u8) a0] [] [] (B r) :=
  fn_fin Go.Proofs.Tryz.func8 (c := bodyOf Go.Proofs.Tryz.f8) (by kernel_rfl) (by kernel_rfl) <|
    leaf h fun e => by subst e; exact fin_ret Go.Proofs.Tryz.func8 mix 1000 [] (by kernel_rfl)

theorem impl_within.l2_ok (k : Nat) : ∀ (v0 : Int) (v7 : (List Int)) (v8 : Int) (v9 : Int) (r : Bool), (impl_within.l2 k) v0 v7 v8 v9 = some r → Eng.Fin Go.Proofs.Tryz.prog 223 [] [] (B r) (itsL 2 (bodyOf Go.Proofs.Tryz.f223)) (mkS 23 [(0, I v0), (7, R true 1 cI v7), (8, I v8), (9, I v9)] []) := by
  induction k with
  | zero => intro v0 v7 v8 v9 r h; exact nomatch h
  | succ k ih =>
    exact fun v0 v7 v8 v9 r h =>
      ifE_cases h
        (fun h1 h =>
          bind_cases h fun e1 h2 h =>
          ifE_cases h
            (fun h3 h =>
              leaf h fun e => by subst e; exact fin_ret Go.Proofs.Tryz.func223 mix 1000 [.unroll, .br h1, .el (getE_el cI h2), .br h3] (by kernel_rfl))
            (fun h3 h =>
              ifE_cases h
                (fun h4 h =>
                  leaf h fun e => by subst e; exact fin_ret Go.Proofs.Tryz.func223 mix 1000 [.unroll, .br h1, .el (getE_el cI h2), .br h3, .br h4] (by kernel_rfl))
                (fun h4 h =>
                  fin_fin Go.Proofs.Tryz.func223 mix 1000 [.unroll, .br h1, .el (getE_el cI h2), .br h3, .br h4, .fin 100000 [0, 7, 8, 9] [] (ih v0 v7 v8 (W (v9 + 1)) r h)] (by kernel_rfl))))
        (fun h1 h =>
          leaf h fun e => by subst e; exact fin_ret Go.Proofs.Tryz.func223 mix 1000 [.unroll, .br h1] (by kernel_rfl))

theorem impl_within.calls {a0 : Int} {a1 : (List Int)} {r : Bool} (h : impl_within.f a0 a1 = some r) : Eng.Fn Go.Proofs.Tryz.prog 223 [I a0, R true 1 cI a1] [] [] (B r) :=
  fn_fin Go.Proofs.Tryz.func223 (c := bodyOf Go.Proofs.Tryz.f223) (by kernel_rfl) (by kernel_rfl) <|
    fin_fin Go.Proofs.Tryz.func223 mix 1000 [.fin 100000 [0, 7, 8, 9] [] (impl_within.l2_ok fuelN a0 a1 (a1.length : Int) 0 r h)] (by kernel_rfl)

theorem impl_determinant.calls {a0 : Siiii} {r : Int} (h : impl_determinant.f a0 = some r) : Eng.Fn Go.Proofs.Tryz.prog 119 [.ag (Siiii.cells a0)] [] [] (I r) :=
  fn_fin Go.Proofs.Tryz.func119 (c := bodyOf Go.Proofs.Tryz.f119) (by kernel_rfl) (by kernel_rfl) <|
    leaf h fun e => by subst e; exact fin_ret Go.Proofs.Tryz.func119 mix 1000 [] (by kernel_rfl)

theorem impl_IsMatrix.calls {a0 : Siiii} {r : Bool} (h : impl_IsMatrix.f a0 = some r) : Eng.Fn Go.Proofs.Tryz.prog 128 [.ag (Siiii.cells a0)] [] [] (B r) :=
  fn_fin Go.Proofs.Tryz.func128 (c := bodyOf Go.Proofs.Tryz.f128) (by kernel_rfl) (by kernel_rfl) <|
    bind_cases h fun r1 h1 h =>
    ifE_cases h
      (fun h2 h =>
        bind_cases h fun r2 h3 h =>
        leaf h fun e => by subst e; exact fin_ret Go.Proofs.Tryz.func128 mix 1000 [.call [] (impl_within.calls h1), .br h2, .call [] (impl_determinant.calls h3)] (by kernel_rfl))
      (fun h2 h =>
        leaf h fun e => by subst e; exact fin_ret Go.Proofs.Tryz.func128 mix 1000 [.call [] (impl_within.calls h1), .br h2] (by kernel_rfl))

theorem impl_areMatrices.l2_ok (k : Nat) : ∀ (v5 : (List Siiii)) (v6 : Int) (v7 : Int) (r : Bool), (impl_areMatrices.l2 k) v5 v6 v7 = some r → Eng.Fin Go.Proofs.Tryz.prog 132 [] [] (B r) (itsL 2 (bodyOf Go.Proofs.Tryz.f132)) (mkS 15 [(5, R true 4 Siiii.cells v5), (6, I v6), (7, I v7)] []) := by
  induction k with
  | zero => intro v5 v6 v7 r h; exact nomatch h
  | succ k ih =>
    exact fun v5 v6 v7 r h =>
      ifE_cases h
        (fun h1 h =>
          bind_cases h fun e1 h2 h =>
          bind_cases h fun r2 h3 h =>
          ifE_cases h
            (fun h4 h =>
              leaf h fun e => by subst e; exact fin_ret Go.Proofs.Tryz.func132 mix 1000 [.unroll, .br h1, .el (getE_el Siiii.cells h2), .call [] (impl_IsMatrix.calls h3), .br h4] (by kernel_rfl))
            (fun h4 h =>
              fin_fin Go.Proofs.Tryz.func132 mix 1000 [.unroll, .br h1, .el (getE_el Siiii.cells h2), .call [] (impl_IsMatrix.calls h3), .br h4, .fin 100000 [5, 6, 7] [] (ih v5 v6 (W (v7 + 1)) r h)] (by kernel_rfl)))
        (fun h1 h =>
          leaf h fun e => by subst e; exact fin_ret Go.Proofs.Tryz.func132 mix 1000 [.unroll, .br h1] (by kernel_rfl))

theorem impl_areMatrices.calls {a0 : (List Siiii)} {r : Bool} (h : impl_areMatrices.f a0 = some r) : Eng.Fn Go.Proofs.Tryz.prog 132 [R true 4 Siiii.cells a0] [] [] (B r) :=
  fn_fin Go.Proofs.Tryz.func132 (c := bodyOf Go.Proofs.Tryz.f132) (by kernel_rfl) (by kernel_rfl) <|
    fin_fin Go.Proofs.Tryz.func132 mix 1000 [.fin 100000 [5, 6, 7] [] (impl_areMatrices.l2_ok fuelN a0 (a0.length : Int) 0 r h)] (by kernel_rfl)

theorem impl_fittedMatrix.calls {a0 : Siiii} {a1 : Bool} {r : (Siiii × Int)} (h : impl_fittedMatrix.f a0 a1 = some r) : Eng.Fn Go.Proofs.Tryz.prog 113 [.ag (Siiii.cells a0), B a1] [] [] (.tu [.ag (Siiii.cells r.1), I r.2]) :=
  fn_fin Go.Proofs.Tryz.func113 (c := bodyOf Go.Proofs.Tryz.f113) (by kernel_rfl) (by kernel_rfl) <|
    ifE_cases h
      (fun h1 h =>
        leaf h fun e => by subst e; exact fin_ret Go.Proofs.Tryz.func113 mix 1000 [.br h1] (by kernel_rfl))
      (fun h1 h =>
        leaf h fun e => by subst e; exact fin_ret Go.Proofs.Tryz.func113 mix 1000 [.br h1] (by kernel_rfl))

theorem impl_gcd.l1_ok (k : Nat) : ∀ (v0 : Int) (v1 : Int) (r : Int), (impl_gcd.l1 k) v0 v1 = some r → Eng.Fin Go.Proofs.Tryz.prog 256 [] [] (I r) (itsL 1 (bodyOf Go.Proofs.Tryz.f256)) (mkS 15 [(0, I v0), (1, I v1)] []) := by
  induction k with
  | zero => intro v0 v1 r h; exact nomatch h
  | succ k ih =>
    exact fun v0 v1 r h =>
      ifE_cases h
        (fun h1 h =>
          guardE_cases h fun h2 h =>
          fin_fin Go.Proofs.Tryz.func256 mix 1000 [.unroll, .br h1, .nz h2, .fin 100000 [0, 1] [] (ih v1 (Int.tmod v0 v1) r h)] (by kernel_rfl))
        (fun h1 h =>
          leaf h fun e => by subst e; exact fin_ret Go.Proofs.Tryz.func256 mix 1000 [.unroll, .br h1] (by kernel_rfl))

theorem impl_gcd.calls {a0 : Int} {a1 : Int} {r : Int} (h : impl_gcd.f a0 a1 = some r) : Eng.Fn Go.Proofs.Tryz.prog 256 [I a0, I a1] [] [] (I r) :=
  fn_fin Go.Proofs.Tryz.func256 (c := bodyOf Go.Proofs.Tryz.f256) (by kernel_rfl) (by kernel_rfl) <|
    fin_fin Go.Proofs.Tryz.func256 mix 1000 [.fin 100000 [0, 1] [] (impl_gcd.l1_ok fuelN a0 a1 r h)] (by kernel_rfl)

theorem impl_reduced.calls {a0 : Siiii} {r : (Siiii × Bool)} (h : impl_reduced.f a0 = some r) : Eng.Fn Go.Proofs.Tryz.prog 226 [.ag (Siiii.cells a0)] [] [] (.tu [.ag (Siiii.cells r.1), B r.2]) :=
  fn_fin Go.Proofs.Tryz.func226 (c := bodyOf Go.Proofs.Tryz.f226) (by kernel_rfl) (by kernel_rfl) <|
    bind_cases h fun r1 h1 h =>
    bind_cases h fun r2 h2 h =>
    bind_cases h fun r3 h3 h =>
    ifE_cases h
      (fun h4 h =>
        guardE_cases h fun h5 h =>
        guardE_cases h fun h6 h =>
        guardE_cases h fun h7 h =>
        guardE_cases h fun h8 h =>
        bind_cases h fun r4 h9 h =>
        leaf h fun e => by subst e; exact fin_ret Go.Proofs.Tryz.func226 mix 1000 [.call [] (impl_gcd.calls h1), .call [] (impl_gcd.calls h2), .call [] (impl_gcd.calls h3), .br h4, .tidy 100000 [1, 2, 4, 40] [(1, 1), (2, 2)], .unroll, .br (c := decide ((0 : Int) < 2)) (b := true) rfl, .tidy 100000 [1, 2, 4, 5, 40, 43] [(1, 1), (2, 2)], .unroll, .br (c := decide ((0 : Int) < 2)) (b := true) rfl, .num (m := 0) rfl, .num (m := 0) rfl, .nz h5, .num (m := 0) rfl, .num (m := 0) rfl, .tidy 100000 [1, 2, 4, 5, 40, 43] [(1, 1), (2, 2)], .unroll, .br (c := decide ((1 : Int) < 2)) (b := true) rfl, .num (m := 0) rfl, .num (m := 1) rfl, .nz h6, .num (m := 0) rfl, .num (m := 1) rfl, .tidy 100000 [1, 2, 4, 5, 40, 43] [(1, 1), (2, 2)], .unroll, .br (c := decide ((2 : Int) < 2)) (b := false) rfl, .tidy 100000 [1, 2, 4, 40] [(1, 1), (2, 2)], .unroll, .br (c := decide ((1 : Int) < 2)) (b := true) rfl, .tidy 100000 [1, 2, 4, 5, 40, 43] [(1, 1), (2, 2)], .unroll, .br (c := decide ((0 : Int) < 2)) (b := true) rfl, .num (m := 1) rfl, .num (m := 0) rfl, .nz h7, .num (m := 1) rfl, .num (m := 0) rfl, .tidy 100000 [1, 2, 4, 5, 40, 43] [(1, 1), (2, 2)], .unroll, .br (c := decide ((1 : Int) < 2)) (b := true) rfl, .num (m := 1) rfl, .num (m := 1) rfl, .nz h8, .num (m := 1) rfl, .num (m := 1) rfl, .tidy 100000 [1, 2, 4, 5, 40, 43] [(1, 1), (2, 2)], .unroll, .br (c := decide ((2 : Int) < 2)) (b := false) rfl, .tidy 100000 [1, 2, 4, 40] [(1, 1), (2, 2)], .unroll, .br (c := decide ((2 : Int) < 2)) (b := false) rfl, .call [] (impl_IsMatrix.calls h9)] (by kernel_rfl))
      (fun h4 h =>
        ifE_cases h
          (fun h10 h =>
            ifE_cases h
              (fun h11 h =>
                guardE_cases h fun h12 h =>
                guardE_cases h fun h13 h =>
                guardE_cases h fun h14 h =>
                guardE_cases h fun h15 h =>
                bind_cases h fun r5 h16 h =>
                leaf h fun e => by subst e; exact fin_ret Go.Proofs.Tryz.func226 mix 1000 [.call [] (impl_gcd.calls h1), .call [] (impl_gcd.calls h2), .call [] (impl_gcd.calls h3), .br h4, .br h10, .br h11, .tidy 100000 [1, 2, 4, 40] [(1, 1), (2, 2)], .unroll, .br (c := decide ((0 : Int) < 2)) (b := true) rfl, .tidy 100000 [1, 2, 4, 5, 40, 43] [(1, 1), (2, 2)], .unroll, .br (c := decide ((0 : Int) < 2)) (b := true) rfl, .num (m := 0) rfl, .num (m := 0) rfl, .nz h12, .num (m := 0) rfl, .num (m := 0) rfl, .tidy 100000 [1, 2, 4, 5, 40, 43] [(1, 1), (2, 2)], .unroll, .br (c := decide ((1 : Int) < 2)) (b := true) rfl, .num (m := 0) rfl, .num (m := 1) rfl, .nz h13, .num (m := 0) rfl, .num (m := 1) rfl, .tidy 100000 [1, 2, 4, 5, 40, 43] [(1, 1), (2, 2)], .unroll, .br (c := decide ((2 : Int) < 2)) (b := false) rfl, .tidy 100000 [1, 2, 4, 40] [(1, 1), (2, 2)], .unroll, .br (c := decide ((1 : Int) < 2)) (b := true) rfl, .tidy 100000 [1, 2, 4, 5, 40, 43] [(1, 1), (2, 2)], .unroll, .br (c := decide ((0 : Int) < 2)) (b := true) rfl, .num (m := 1) rfl, .num (m := 0) rfl, .nz h14, .num (m := 1) rfl, .num (m := 0) rfl, .tidy 100000 [1, 2, 4, 5, 40, 43] [(1, 1), (2, 2)], .unroll, .br (c := decide ((1 : Int) < 2)) (b := true) rfl, .num (m := 1) rfl, .num (m := 1) rfl, .nz h15, .num (m := 1) rfl, .num (m := 1) rfl, .tidy 100000 [1, 2, 4, 5, 40, 43] [(1, 1), (2, 2)], .unroll, .br (c := decide ((2 : Int) < 2)) (b := false) rfl, .tidy 100000 [1, 2, 4, 40] [(1, 1), (2, 2)], .unroll, .br (c := decide ((2 : Int) < 2)) (b := false) rfl, .call [] (impl_IsMatrix.calls h16)] (by kernel_rfl))
              (fun h11 h =>
                guardE_cases h fun h17 h =>
                guardE_cases h fun h18 h =>
                guardE_cases h fun h19 h =>
                guardE_cases h fun h20 h =>
                bind_cases h fun r6 h21 h =>
                leaf h fun e => by subst e; exact fin_ret Go.Proofs.Tryz.func226 mix 1000 [.call [] (impl_gcd.calls h1), .call [] (impl_gcd.calls h2), .call [] (impl_gcd.calls h3), .br h4, .br h10, .br h11, .tidy 100000 [1, 2, 4, 40] [(1, 1), (2, 2)], .unroll, .br (c := decide ((0 : Int) < 2)) (b := true) rfl, .tidy 100000 [1, 2, 4, 5, 40, 43] [(1, 1), (2, 2)], .unroll, .br (c := decide ((0 : Int) < 2)) (b := true) rfl, .num (m := 0) rfl, .num (m := 0) rfl, .nz h17, .num (m := 0) rfl, .num (m := 0) rfl, .tidy 100000 [1, 2, 4, 5, 40, 43] [(1, 1), (2, 2)], .unroll, .br (c := decide ((1 : Int) < 2)) (b := true) rfl, .num (m := 0) rfl, .num (m := 1) rfl, .nz h18, .num (m := 0) rfl, .num (m := 1) rfl, .tidy 100000 [1, 2, 4, 5, 40, 43] [(1, 1), (2, 2)], .unroll, .br (c := decide ((2 : Int) < 2)) (b := false) rfl, .tidy 100000 [1, 2, 4, 40] [(1, 1), (2, 2)], .unroll, .br (c := decide ((1 : Int) < 2)) (b := true) rfl, .tidy 100000 [1, 2, 4, 5, 40, 43] [(1, 1), (2, 2)], .unroll, .br (c := decide ((0 : Int) < 2)) (b := true) rfl, .num (m := 1) rfl, .num (m := 0) rfl, .nz h19, .num (m := 1) rfl, .num (m := 0) rfl, .tidy 100000 [1, 2, 4, 5, 40, 43] [(1, 1), (2, 2)], .unroll, .br (c := decide ((1 : Int) < 2)) (b := true) rfl, .num (m := 1) rfl, .num (m := 1) rfl, .nz h20, .num (m := 1) rfl, .num (m := 1) rfl, .tidy 100000 [1, 2, 4, 5, 40, 43] [(1, 1), (2, 2)], .unroll, .br (c := decide ((2 : Int) < 2)) (b := false) rfl, .tidy 100000 [1, 2, 4, 40] [(1, 1), (2, 2)], .unroll, .br (c := decide ((2 : Int) < 2)) (b := false) rfl, .call [] (impl_IsMatrix.calls h21)] (by kernel_rfl)))
          (fun h10 h =>
            guardE_cases h fun h22 h =>
            guardE_cases h fun h23 h =>
            guardE_cases h fun h24 h =>
            guardE_cases h fun h25 h =>
            bind_cases h fun r7 h26 h =>
            leaf h fun e => by subst e; exact fin_ret Go.Proofs.Tryz.func226 mix 1000 [.call [] (impl_gcd.calls h1), .call [] (impl_gcd.calls h2), .call [] (impl_gcd.calls h3), .br h4, .br h10, .tidy 100000 [1, 2, 4, 40] [(1, 1), (2, 2)], .unroll, .br (c := decide ((0 : Int) < 2)) (b := true) rfl, .tidy 100000 [1, 2, 4, 5, 40, 43] [(1, 1), (2, 2)], .unroll, .br (c := decide ((0 : Int) < 2)) (b := true) rfl, .num (m := 0) rfl, .num (m := 0) rfl, .nz h22, .num (m := 0) rfl, .num (m := 0) rfl, .tidy 100000 [1, 2, 4, 5, 40, 43] [(1, 1), (2, 2)], .unroll, .br (c := decide ((1 : Int) < 2)) (b := true) rfl, .num (m := 0) rfl, .num (m := 1) rfl, .nz h23, .num (m := 0) rfl, .num (m := 1) rfl, .tidy 100000 [1, 2, 4, 5, 40, 43] [(1, 1), (2, 2)], .unroll, .br (c := decide ((2 : Int) < 2)) (b := false) rfl, .tidy 100000 [1, 2, 4, 40] [(1, 1), (2, 2)], .unroll, .br (c := decide ((1 : Int) < 2)) (b := true) rfl, .tidy 100000 [1, 2, 4, 5, 40, 43] [(1, 1), (2, 2)], .unroll, .br (c := decide ((0 : Int) < 2)) (b := true) rfl, .num (m := 1) rfl, .num (m := 0) rfl, .nz h24, .num (m := 1) rfl, .num (m := 0) rfl, .tidy 100000 [1, 2, 4, 5, 40, 43] [(1, 1), (2, 2)], .unroll, .br (c := decide ((1 : Int) < 2)) (b := true) rfl, .num (m := 1) rfl, .num (m := 1) rfl, .nz h25, .num (m := 1) rfl, .num (m := 1) rfl, .tidy 100000 [1, 2, 4, 5, 40, 43] [(1, 1), (2, 2)], .unroll, .br (c := decide ((2 : Int) < 2)) (b := false) rfl, .tidy 100000 [1, 2, 4, 40] [(1, 1), (2, 2)], .unroll, .br (c := decide ((2 : Int) < 2)) (b := false) rfl, .call [] (impl_IsMatrix.calls h26)] (by kernel_rfl)))

theorem impl_product.calls {a0 : Siiii} {a1 : Siiii} {r : (Siiii × Bool)} (h : impl_product.f a0 a1 = some r) : Eng.Fn Go.Proofs.Tryz.prog 108 [.ag (Siiii.cells a0), .ag (Siiii.cells a1)] [] [] (.tu [.ag (Siiii.cells r.1), B r.2]) :=
  fn_fin Go.Proofs.Tryz.func108 (c := bodyOf Go.Proofs.Tryz.f108) (by kernel_rfl) (by kernel_rfl) <|
    bind_cases h fun r1 h1 h =>
    leaf h fun e => by subst e; exact fin_ret Go.Proofs.Tryz.func108 mix 1000 [.tidy 100000 [2, 3, 4, 6, 10] [(2, 2), (3, 3), (4, 4), (6, 6)], .unroll, .br (c := decide ((0 : Int) < 2)) (b := true) rfl, .tidy 100000 [2, 3, 4, 6, 7, 10, 13] [(2, 2), (3, 3), (4, 4), (6, 6)], .unroll, .br (c := decide ((0 : Int) < 2)) (b := true) rfl, .num (m := 0) rfl, .num (m := 0) rfl, .num (m := 0) rfl, .num (m := 0) rfl, .num (m := 0) rfl, .num (m := 0) rfl, .tidy 100000 [2, 3, 4, 6, 7, 10, 13] [(2, 2), (3, 3), (4, 4), (6, 6)], .unroll, .br (c := decide ((1 : Int) < 2)) (b := true) rfl, .num (m := 0) rfl, .num (m := 1) rfl, .num (m := 0) rfl, .num (m := 1) rfl, .num (m := 0) rfl, .num (m := 1) rfl, .tidy 100000 [2, 3, 4, 6, 7, 10, 13] [(2, 2), (3, 3), (4, 4), (6, 6)], .unroll, .br (c := decide ((2 : Int) < 2)) (b := false) rfl, .tidy 100000 [2, 3, 4, 6, 10] [(2, 2), (3, 3), (4, 4), (6, 6)], .unroll, .br (c := decide ((1 : Int) < 2)) (b := true) rfl, .tidy 100000 [2, 3, 4, 6, 7, 10, 13] [(2, 2), (3, 3), (4, 4), (6, 6)], .unroll, .br (c := decide ((0 : Int) < 2)) (b := true) rfl, .num (m := 1) rfl, .num (m := 0) rfl, .num (m := 1) rfl, .num (m := 0) rfl, .num (m := 1) rfl, .num (m := 0) rfl, .tidy 100000 [2, 3, 4, 6, 7, 10, 13] [(2, 2), (3, 3), (4, 4), (6, 6)], .unroll, .br (c := decide ((1 : Int) < 2)) (b := true) rfl, .num (m := 1) rfl, .num (m := 1) rfl, .num (m := 1) rfl, .num (m := 1) rfl, .num (m := 1) rfl, .num (m := 1) rfl, .tidy 100000 [2, 3, 4, 6, 7, 10, 13] [(2, 2), (3, 3), (4, 4), (6, 6)], .unroll, .br (c := decide ((2 : Int) < 2)) (b := false) rfl, .tidy 100000 [2, 3, 4, 6, 10] [(2, 2), (3, 3), (4, 4), (6, 6)], .unroll, .br (c := decide ((2 : Int) < 2)) (b := false) rfl, .call [] (impl_reduced.calls h1)] (by kernel_rfl)

theorem impl_MultiplyMatrices.calls {a0 : Siiii} {a1 : Siiii} {r : (Siiii × Int)} (h : impl_MultiplyMatrices.f a0 a1 = some r) : Eng.Fn Go.Proofs.Tryz.prog 27 [.ag (Siiii.cells a0), .ag (Siiii.cells a1)] [] [] (.tu [.ag (Siiii.cells r.1), I r.2]) :=
  fn_fin Go.Proofs.Tryz.func27 (c := bodyOf Go.Proofs.Tryz.f27) (by kernel_rfl) (by kernel_rfl) <|
    bind_cases h fun r1 h1 h =>
    ifE_cases h
      (fun h2 h =>
        leaf h fun e => by subst e; exact fin_ret Go.Proofs.Tryz.func27 mix 1000 [.call [] (impl_areMatrices.calls h1), .br h2] (by kernel_rfl))
      (fun h2 h =>
        bind_cases h fun r2 h3 h =>
        bind_cases h fun r3 h4 h =>
        leaf h fun e => by subst e; exact fin_ret Go.Proofs.Tryz.func27 mix 1000 [.call [] (impl_areMatrices.calls h1), .br h2, .call [] (impl_product.calls h3), .call [] (impl_fittedMatrix.calls h4)] (by kernel_rfl))

theorem spec_l01In.calls {a0 : Int} {a1 : Int} {a2 : Int} {r : Bool} (h : spec_l01In.f a0 a1 a2 = some r) : Eng.Fn Go.Proofs.Tryz.prog 183 [I a0, I a1, I a2] [] [] (B r) :=
  fn_fin Go.Proofs.Tryz.func183 (c := bodyOf Go.Proofs.Tryz.f183) (by kernel_rfl) (by kernel_rfl) <|
    ifE_cases h
      (fun h1 h =>
        leaf h fun e => by subst e; exact fin_ret Go.Proofs.Tryz.func183 mix 1000 [.br h1] (by kernel_rfl))
      (fun h1 h =>
        leaf h fun e => by subst e; exact fin_ret Go.Proofs.Tryz.func183 mix 1000 [.br h1] (by kernel_rfl))

theorem spec_l04Det.calls {a0 : Siiii} {r : Int} (h : spec_l04Det.f a0 = some r) : Eng.Fn Go.Proofs.Tryz.prog 230 [.ag (Siiii.cells a0)] [] [] (I r) :=
  fn_fin Go.Proofs.Tryz.func230 (c := bodyOf Go.Proofs.Tryz.f230) (by kernel_rfl) (by kernel_rfl) <|
    leaf h fun e => by subst e; exact fin_ret Go.Proofs.Tryz.func230 mix 1000 [] (by kernel_rfl)

theorem spec_l04Is.l5_ok (rec2 : Int → Int → Int → Int → Int → Option Bool) (rec2H : ∀ (v3 : Int) (o1_0 : Int) (o1_1 : Int) (o1_2 : Int) (o1_3 : Int) (r : Bool), rec2 v3 o1_0 o1_1 o1_2 o1_3 = some r → Eng.Fin Go.Proofs.Tryz.prog 145 [] [] (B r) (itsL 2 (bodyOf Go.Proofs.Tryz.f145)) (mkS 23 [(1, .bx 1 0), (3, I v3)] [(1, .box [I o1_0, I o1_1, I o1_2, I o1_3])])) (k : Nat) : ∀ (v3 : Int) (v4 : Int) (o1_0 : Int) (o1_1 : Int) (o1_2 : Int) (o1_3 : Int) (r : Bool), (spec_l04Is.l5 rec2 k) v3 v4 o1_0 o1_1 o1_2 o1_3 = some r → Eng.Fin Go.Proofs.Tryz.prog 145 [] [] (B r) (itsL 5 (bodyOf Go.Proofs.Tryz.f145)) (mkS 23 [(1, .bx 1 0), (3, I v3), (4, I v4)] [(1, .box [I o1_0, I o1_1, I o1_2, I o1_3])]) := by
  induction k with
  | zero => intro v3 v4 o1_0 o1_1 o1_2 o1_3 r h; exact nomatch h
  | succ k ih =>
    exact fun v3 v4 o1_0 o1_1 o1_2 o1_3 r h =>
      ifE_cases h
        (fun h1 h =>
          ifE_cases h
            (fun h2 h =>
              ifE_cases h
                (fun h3 h =>
                  bind_cases h fun r2 h4 h =>
                  ifE_cases h
                    (fun h5 h =>
                      leaf h fun e => by subst e; exact fin_ret Go.Proofs.Tryz.func145 mix 1000 [.unroll, .br h1, .num (eq_of h2), .num (eq_of h3), .call [] (spec_l01In.calls h4), .br h5] (by kernel_rfl))
                    (fun h5 h =>
                      fin_fin Go.Proofs.Tryz.func145 mix 1000 [.unroll, .br h1, .num (eq_of h2), .num (eq_of h3), .call [] (spec_l01In.calls h4), .br h5, .fin 100000 [1, 3, 4] [(1, 1)] (ih v3 (W (v4 + 1)) o1_0 o1_1 o1_2 o1_3 r h)] (by kernel_rfl)))
                (fun h3 h =>
                  ifE_cases h
                    (fun h6 h =>
                      bind_cases h fun r3 h7 h =>
                      ifE_cases h
                        (fun h8 h =>
                          leaf h fun e => by subst e; exact fin_ret Go.Proofs.Tryz.func145 mix 1000 [.unroll, .br h1, .num (eq_of h2), .num (eq_of h6), .call [] (spec_l01In.calls h7), .br h8] (by kernel_rfl))
                        (fun h8 h =>
                          fin_fin Go.Proofs.Tryz.func145 mix 1000 [.unroll, .br h1, .num (eq_of h2), .num (eq_of h6), .call [] (spec_l01In.calls h7), .br h8, .fin 100000 [1, 3, 4] [(1, 1)] (ih v3 (W (v4 + 1)) o1_0 o1_1 o1_2 o1_3 r h)] (by kernel_rfl)))
                    (fun h6 h =>
                      nomatch h)))
            (fun h2 h =>
              ifE_cases h
                (fun h9 h =>
                  ifE_cases h
                    (fun h10 h =>
                      bind_cases h fun r4 h11 h =>
                      ifE_cases h
                        (fun h12 h =>
                          leaf h fun e => by subst e; exact fin_ret Go.Proofs.Tryz.func145 mix 1000 [.unroll, .br h1, .num (eq_of h9), .num (eq_of h10), .call [] (spec_l01In.calls h11), .br h12] (by kernel_rfl))
                        (fun h12 h =>
                          fin_fin Go.Proofs.Tryz.func145 mix 1000 [.unroll, .br h1, .num (eq_of h9), .num (eq_of h10), .call [] (spec_l01In.calls h11), .br h12, .fin 100000 [1, 3, 4] [(1, 1)] (ih v3 (W (v4 + 1)) o1_0 o1_1 o1_2 o1_3 r h)] (by kernel_rfl)))
                    (fun h10 h =>
                      ifE_cases h
                        (fun h13 h =>
                          bind_cases h fun r5 h14 h =>
                          ifE_cases h
                            (fun h15 h =>
                              leaf h fun e => by subst e; exact fin_ret Go.Proofs.Tryz.func145 mix 1000 [.unroll, .br h1, .num (eq_of h9), .num (eq_of h13), .call [] (spec_l01In.calls h14), .br h15] (by kernel_rfl))
                            (fun h15 h =>
                              fin_fin Go.Proofs.Tryz.func145 mix 1000 [.unroll, .br h1, .num (eq_of h9), .num (eq_of h13), .call [] (spec_l01In.calls h14), .br h15, .fin 100000 [1, 3, 4] [(1, 1)] (ih v3 (W (v4 + 1)) o1_0 o1_1 o1_2 o1_3 r h)] (by kernel_rfl)))
                        (fun h13 h =>
                          nomatch h)))
                (fun h9 h =>
                  nomatch h)))
        (fun h1 h =>
          fin_fin Go.Proofs.Tryz.func145 mix 1000 [.unroll, .br h1, .fin 100000 [1, 3] [(1, 1)] (rec2H (W (v3 + 1)) o1_0 o1_1 o1_2 o1_3 r h)] (by kernel_rfl))

theorem spec_l04Is.l2_ok (k : Nat) : ∀ (v3 : Int) (o1_0 : Int) (o1_1 : Int) (o1_2 : Int) (o1_3 : Int) (r : Bool), (spec_l04Is.l2 k) v3 o1_0 o1_1 o1_2 o1_3 = some r → Eng.Fin Go.Proofs.Tryz.prog 145 [] [] (B r) (itsL 2 (bodyOf Go.Proofs.Tryz.f145)) (mkS 23 [(1, .bx 1 0), (3, I v3)] [(1, .box [I o1_0, I o1_1, I o1_2, I o1_3])]) := by
  induction k with
  | zero => intro v3 o1_0 o1_1 o1_2 o1_3 r h; exact nomatch h
  | succ k ih =>
    exact fun v3 o1_0 o1_1 o1_2 o1_3 r h =>
      ifE_cases h
        (fun h1 h =>
          fin_fin Go.Proofs.Tryz.func145 mix 1000 [.unroll, .br h1, .fin 100000 [1, 3, 4] [(1, 1)] (spec_l04Is.l5_ok (spec_l04Is.l2 k) ih fuelN v3 0 o1_0 o1_1 o1_2 o1_3 r h)] (by kernel_rfl))
        (fun h1 h =>
          bind_cases h fun r1 h2 h =>
          leaf h fun e => by subst e; exact fin_ret Go.Proofs.Tryz.func145 mix 1000 [.unroll, .br h1, .call [] (spec_l04Det.calls h2)] (by kernel_rfl))

theorem spec_l04Is.calls {a0 : Siiii} {r : Bool} (h : spec_l04Is.f a0 = some r) : Eng.Fn Go.Proofs.Tryz.prog 145 [.ag (Siiii.cells a0)] [] [] (B r) :=
  fn_fin Go.Proofs.Tryz.func145 (c := bodyOf Go.Proofs.Tryz.f145) (by kernel_rfl) (by kernel_rfl) <|
    fin_fin Go.Proofs.Tryz.func145 mix 1000 [.fin 100000 [1, 3] [(1, 1)] (spec_l04Is.l2_ok fuelN 0 a0.c0 a0.c1 a0.c2 a0.c3 r h)] (by kernel_rfl)

theorem spec_l01Gcd.l1_ok (k : Nat) : ∀ (v0 : Int) (v1 : Int) (r : Int), (spec_l01Gcd.l1 k) v0 v1 = some r → Eng.Fin Go.Proofs.Tryz.prog 242 [] [] (I r) (itsL 1 (bodyOf Go.Proofs.Tryz.f242)) (mkS 17 [(0, I v0), (1, I v1)] []) := by
  induction k with
  | zero => intro v0 v1 r h; exact nomatch h
  | succ k ih =>
    exact fun v0 v1 r h =>
      ifE_cases h
        (fun h1 h =>
          guardE_cases h fun h2 h =>
          fin_fin Go.Proofs.Tryz.func242 mix 1000 [.unroll, .br h1, .nz h2, .fin 100000 [0, 1] [] (ih v1 (Int.tmod v0 v1) r h)] (by kernel_rfl))
        (fun h1 h =>
          leaf h fun e => by subst e; exact fin_ret Go.Proofs.Tryz.func242 mix 1000 [.unroll, .br h1] (by kernel_rfl))

theorem spec_l01Gcd.calls {a0 : Int} {a1 : Int} {r : Int} (h : spec_l01Gcd.f a0 a1 = some r) : Eng.Fn Go.Proofs.Tryz.prog 242 [I a0, I a1] [] [] (I r) :=
  fn_fin Go.Proofs.Tryz.func242 (c := bodyOf Go.Proofs.Tryz.f242) (by kernel_rfl) (by kernel_rfl) <|
    fin_fin Go.Proofs.Tryz.func242 mix 1000 [.fin 100000 [0, 1] [] (spec_l01Gcd.l1_ok fuelN a0 a1 r h)] (by kernel_rfl)

theorem spec_l04Reduce.l12_ok (k : Nat) : ∀ (v5 : Int) (v6 : Int) (v8 : Bool) (v9 : Int) (o2_0 : Int) (o2_1 : Int) (o2_2 : Int) (o2_3 : Int) (o1004 : (List Int)) (r : (Siiii × Bool)), (spec_l04Reduce.l12 k) v5 v6 v8 v9 o2_0 o2_1 o2_2 o2_3 o1004 = some r → Eng.Fin Go.Proofs.Tryz.prog 140 [] [] (.tu [.ag (Siiii.cells r.1), B r.2]) (itsL 12 (bodyOf Go.Proofs.Tryz.f140)) (mkS 106 [(2, .bx 2 0), (4, .ow 1004), (5, I v5), (6, I v6), (8, B v8), (9, I v9)] [(2, .box [I o2_0, I o2_1, I o2_2, I o2_3]), (1004, Row true 2 1 cI o1004)]) := by
  induction k with
  | zero => intro v5 v6 v8 v9 o2_0 o2_1 o2_2 o2_3 o1004 r h; exact nomatch h
  | succ k ih =>
    exact fun v5 v6 v8 v9 o2_0 o2_1 o2_2 o2_3 o1004 r h =>
      ifE_cases h
        (fun h1 h =>
          bind_cases h fun e8 h2 h =>
          guardE_cases h fun h3 h =>
          bind_cases h fun e9 h4 h =>
          ifE_cases h
            (fun h5 h =>
              bind_cases h fun e10 h6 h =>
              bind_cases h fun r11 h7 h =>
              fin_fin Go.Proofs.Tryz.func140 mix 1000 [.unroll, .br h1, .ib (getE_ib h2), .el (getE_pw cI h2), .nz h3, .ib (getE_ib h4), .el (getE_pw cI h4), .upd (set_of cI o1004 (Int.toNat v9) (W ((W (Int.tdiv e8 v5)) * v6))), .br h5, .ib (getE_ib h6), .el (getE_pw cI h6), .call [] (spec_l01In.calls h7), .fin 100000 [2, 4, 5, 6, 8, 9] [(2, 2), (1004, 1004)] (ih v5 v6 r11 (W (v9 + 1)) o2_0 o2_1 o2_2 o2_3 (o1004.set (Int.toNat v9) (W ((W (Int.tdiv e8 v5)) * v6))) r h)] (by kernel_rfl))
            (fun h5 h =>
              fin_fin Go.Proofs.Tryz.func140 mix 1000 [.unroll, .br h1, .ib (getE_ib h2), .el (getE_pw cI h2), .nz h3, .ib (getE_ib h4), .el (getE_pw cI h4), .upd (set_of cI o1004 (Int.toNat v9) (W ((W (Int.tdiv e8 v5)) * v6))), .br h5, .fin 100000 [2, 4, 5, 6, 8, 9] [(2, 2), (1004, 1004)] (ih v5 v6 false (W (v9 + 1)) o2_0 o2_1 o2_2 o2_3 (o1004.set (Int.toNat v9) (W ((W (Int.tdiv e8 v5)) * v6))) r h)] (by kernel_rfl)))
        (fun h1 h =>
          bind_cases h fun e12 h8 h =>
          bind_cases h fun e13 h9 h =>
          bind_cases h fun e14 h10 h =>
          bind_cases h fun e15 h11 h =>
          leaf h fun e => by subst e; exact fin_ret Go.Proofs.Tryz.func140 mix 1000 [.unroll, .br h1, .ib (getE_ib h8), .el (getE_pw cI h8), .ib (getE_ib h9), .el (getE_pw cI h9), .ib (getE_ib h10), .el (getE_pw cI h10), .ib (getE_ib h11), .el (getE_pw cI h11)] (by kernel_rfl))

theorem spec_l04Reduce.l4_ok (k : Nat) : ∀ (v5 : Int) (v6 : Int) (v7 : Int) (o2_0 : Int) (o2_1 : Int) (o2_2 : Int) (o2_3 : Int) (o1004 : (List Int)) (r : (Siiii × Bool)), (spec_l04Reduce.l4 k) v5 v6 v7 o2_0 o2_1 o2_2 o2_3 o1004 = some r → Eng.Fin Go.Proofs.Tryz.prog 140 [] [] (.tu [.ag (Siiii.cells r.1), B r.2]) (itsL 4 (bodyOf Go.Proofs.Tryz.f140)) (mkS 106 [(2, .bx 2 0), (4, .ow 1004), (5, I v5), (6, I v6), (7, I v7)] [(2, .box [I o2_0, I o2_1, I o2_2, I o2_3]), (1004, Row true 2 1 cI o1004)]) := by
  induction k with
  | zero => intro v5 v6 v7 o2_0 o2_1 o2_2 o2_3 o1004 r h; exact nomatch h
  | succ k ih =>
    exact fun v5 v6 v7 o2_0 o2_1 o2_2 o2_3 o1004 r h =>
      ifE_cases h
        (fun h1 h =>
          bind_cases h fun e1 h2 h =>
          bind_cases h fun e2 h3 h =>
          bind_cases h fun r3 h4 h =>
          ifE_cases h
            (fun h5 h =>
              bind_cases h fun e4 h6 h =>
              ifE_cases h
                (fun h7 h =>
                  bind_cases h fun e5 h8 h =>
                  bind_cases h fun e6 h9 h =>
                  bind_cases h fun e7 h10 h =>
                  guardE_cases h fun h11 h =>
                  fin_fin Go.Proofs.Tryz.func140 mix 1000 [.unroll, .br h1, .ib (getE_ib h2), .el (getE_pw cI h2), .ib (getE_ib h3), .el (getE_pw cI h3), .call [] (spec_l01Gcd.calls h4), .br h5, .ib (getE_ib h6), .el (getE_pw cI h6), .br h7, .ib (getE_ib h8), .el (getE_pw cI h8), .ib (getE_ib h9), .el (getE_pw cI h9), .ib (getE_ib h10), .el (getE_pw cI h10), .nz h11, .fin 100000 [2, 4, 5, 6, 7] [(2, 2), (1004, 1004)] (ih r3 (W (Int.tdiv e5 (imax e6 (W (0 - e7))))) (W (v7 + 1)) o2_0 o2_1 o2_2 o2_3 o1004 r h)] (by kernel_rfl))
                (fun h7 h =>
                  fin_fin Go.Proofs.Tryz.func140 mix 1000 [.unroll, .br h1, .ib (getE_ib h2), .el (getE_pw cI h2), .ib (getE_ib h3), .el (getE_pw cI h3), .call [] (spec_l01Gcd.calls h4), .br h5, .ib (getE_ib h6), .el (getE_pw cI h6), .br h7, .fin 100000 [2, 4, 5, 6, 7] [(2, 2), (1004, 1004)] (ih r3 v6 (W (v7 + 1)) o2_0 o2_1 o2_2 o2_3 o1004 r h)] (by kernel_rfl)))
            (fun h5 h =>
              fin_fin Go.Proofs.Tryz.func140 mix 1000 [.unroll, .br h1, .ib (getE_ib h2), .el (getE_pw cI h2), .ib (getE_ib h3), .el (getE_pw cI h3), .call [] (spec_l01Gcd.calls h4), .br h5, .fin 100000 [2, 4, 5, 6, 7] [(2, 2), (1004, 1004)] (ih r3 v6 (W (v7 + 1)) o2_0 o2_1 o2_2 o2_3 o1004 r h)] (by kernel_rfl)))
        (fun h1 h =>
          fin_fin Go.Proofs.Tryz.func140 mix 1000 [.unroll, .br h1, .fin 100000 [2, 4, 5, 6, 8, 9] [(2, 2), (1004, 1004)] (spec_l04Reduce.l12_ok fuelN (imax v5 (W (0 - v5))) v6 true 0 o2_0 o2_1 o2_2 o2_3 o1004 r h)] (by kernel_rfl))

theorem spec_l04Reduce.calls {a0 : Siiii} {r : (Siiii × Bool)} (h : spec_l04Reduce.f a0 = some r) : Eng.Fn Go.Proofs.Tryz.prog 140 [.ag (Siiii.cells a0)] [] [] (.tu [.ag (Siiii.cells r.1), B r.2]) :=
  fn_fin Go.Proofs.Tryz.func140 (c := bodyOf Go.Proofs.Tryz.f140) (by kernel_rfl) (by kernel_rfl) <|
    fin_fin Go.Proofs.Tryz.func140 mix 1000 [.fin 100000 [2, 4, 5, 6, 7] [(2, 2), (22, 1004)] (spec_l04Reduce.l4_ok fuelN 0 0 0 0 0 0 0 [a0.c0, a0.c1, a0.c2, a0.c3] r h)] (by kernel_rfl)

theorem spec_l04Times.l6_ok (rec3 : Int → Int → Int → Int → Int → Int → Int → Int → Int → Int → Int → Int → Int → Int → Int → Int → Int → Option (Siiii × Bool)) (rec3H : ∀ (v7 : Int) (o2_0 : Int) (o2_1 : Int) (o2_2 : Int) (o2_3 : Int) (o3_0 : Int) (o3_1 : Int) (o3_2 : Int) (o3_3 : Int) (o4_0 : Int) (o4_1 : Int) (o4_2 : Int) (o4_3 : Int) (o6_0 : Int) (o6_1 : Int) (o6_2 : Int) (o6_3 : Int) (r : (Siiii × Bool)), rec3 v7 o2_0 o2_1 o2_2 o2_3 o3_0 o3_1 o3_2 o3_3 o4_0 o4_1 o4_2 o4_3 o6_0 o6_1 o6_2 o6_3 = some r → Eng.Fin Go.Proofs.Tryz.prog 110 [] [] (.tu [.ag (Siiii.cells r.1), B r.2]) (itsL 3 (bodyOf Go.Proofs.Tryz.f110)) (mkS 50 [(2, .bx 2 0), (3, .bx 3 0), (4, .bx 4 0), (6, .bx 6 0), (7, I v7)] [(2, .box [I o2_0, I o2_1, I o2_2, I o2_3]), (3, .box [I o3_0, I o3_1, I o3_2, I o3_3]), (4, .box [I o4_0, I o4_1, I o4_2, I o4_3]), (6, .box [I o6_0, I o6_1, I o6_2, I o6_3])])) (k : Nat) : ∀ (v7 : Int) (v8 : Int) (o2_0 : Int) (o2_1 : Int) (o2_2 : Int) (o2_3 : Int) (o3_0 : Int) (o3_1 : Int) (o3_2 : Int) (o3_3 : Int) (o4_0 : Int) (o4_1 : Int) (o4_2 : Int) (o4_3 : Int) (o6_0 : Int) (o6_1 : Int) (o6_2 : Int) (o6_3 : Int) (r : (Siiii × Bool)), (spec_l04Times.l6 rec3 k) v7 v8 o2_0 o2_1 o2_2 o2_3 o3_0 o3_1 o3_2 o3_3 o4_0 o4_1 o4_2 o4_3 o6_0 o6_1 o6_2 o6_3 = some r → Eng.Fin Go.Proofs.Tryz.prog 110 [] [] (.tu [.ag (Siiii.cells r.1), B r.2]) (itsL 6 (bodyOf Go.Proofs.Tryz.f110)) (mkS 50 [(2, .bx 2 0), (3, .bx 3 0), (4, .bx 4 0), (6, .bx 6 0), (7, I v7), (8, I v8)] [(2, .box [I o2_0, I o2_1, I o2_2, I o2_3]), (3, .box [I o3_0, I o3_1, I o3_2, I o3_3]), (4, .box [I o4_0, I o4_1, I o4_2, I o4_3]), (6, .box [I o6_0, I o6_1, I o6_2, I o6_3])]) := by
  induction k with
  | zero => intro v7 v8 o2_0 o2_1 o2_2 o2_3 o3_0 o3_1 o3_2 o3_3 o4_0 o4_1 o4_2 o4_3 o6_0 o6_1 o6_2 o6_3 r h; exact nomatch h
  | succ k ih =>
    exact fun v7 v8 o2_0 o2_1 o2_2 o2_3 o3_0 o3_1 o3_2 o3_3 o4_0 o4_1 o4_2 o4_3 o6_0 o6_1 o6_2 o6_3 r h =>
      ifE_cases h
        (fun h1 h =>
          ifE_cases h
            (fun h2 h =>
              ifE_cases h
                (fun h3 h =>
                  fin_fin Go.Proofs.Tryz.func110 mix 1000 [.unroll, .br h1, .num (eq_of h2), .num (eq_of h3), .num (eq_of h2), .num (eq_of h3), .num (eq_of h2), .num (eq_of h3), .fin 100000 [2, 3, 4, 6, 7, 8] [(2, 2), (3, 3), (4, 4), (6, 6)] (ih v7 (W (v8 + 1)) o2_0 o2_1 o2_2 o2_3 o3_0 o3_1 o3_2 o3_3 o4_0 o4_1 o4_2 o4_3 (W ((W (o2_0 * o3_0)) + (W (o2_1 * o3_2)))) o6_1 o6_2 o6_3 r h)] (by kernel_rfl))
                (fun h3 h =>
                  ifE_cases h
                    (fun h4 h =>
                      fin_fin Go.Proofs.Tryz.func110 mix 1000 [.unroll, .br h1, .num (eq_of h2), .num (eq_of h4), .num (eq_of h2), .num (eq_of h4), .num (eq_of h2), .num (eq_of h4), .fin 100000 [2, 3, 4, 6, 7, 8] [(2, 2), (3, 3), (4, 4), (6, 6)] (ih v7 (W (v8 + 1)) o2_0 o2_1 o2_2 o2_3 o3_0 o3_1 o3_2 o3_3 o4_0 o4_1 o4_2 o4_3 o6_0 (W ((W (o2_0 * o3_1)) + (W (o2_1 * o3_3)))) o6_2 o6_3 r h)] (by kernel_rfl))
                    (fun h4 h =>
                      nomatch h)))
            (fun h2 h =>
              ifE_cases h
                (fun h5 h =>
                  ifE_cases h
                    (fun h6 h =>
                      fin_fin Go.Proofs.Tryz.func110 mix 1000 [.unroll, .br h1, .num (eq_of h5), .num (eq_of h6), .num (eq_of h5), .num (eq_of h6), .num (eq_of h5), .num (eq_of h6), .fin 100000 [2, 3, 4, 6, 7, 8] [(2, 2), (3, 3), (4, 4), (6, 6)] (ih v7 (W (v8 + 1)) o2_0 o2_1 o2_2 o2_3 o3_0 o3_1 o3_2 o3_3 o4_0 o4_1 o4_2 o4_3 o6_0 o6_1 (W ((W (o2_2 * o3_0)) + (W (o2_3 * o3_2)))) o6_3 r h)] (by kernel_rfl))
                    (fun h6 h =>
                      ifE_cases h
                        (fun h7 h =>
                          fin_fin Go.Proofs.Tryz.func110 mix 1000 [.unroll, .br h1, .num (eq_of h5), .num (eq_of h7), .num (eq_of h5), .num (eq_of h7), .num (eq_of h5), .num (eq_of h7), .fin 100000 [2, 3, 4, 6, 7, 8] [(2, 2), (3, 3), (4, 4), (6, 6)] (ih v7 (W (v8 + 1)) o2_0 o2_1 o2_2 o2_3 o3_0 o3_1 o3_2 o3_3 o4_0 o4_1 o4_2 o4_3 o6_0 o6_1 o6_2 (W ((W (o2_2 * o3_1)) + (W (o2_3 * o3_3)))) r h)] (by kernel_rfl))
                        (fun h7 h =>
                          nomatch h)))
                (fun h5 h =>
                  nomatch h)))
        (fun h1 h =>
          fin_fin Go.Proofs.Tryz.func110 mix 1000 [.unroll, .br h1, .fin 100000 [2, 3, 4, 6, 7] [(2, 2), (3, 3), (4, 4), (6, 6)] (rec3H (W (v7 + 1)) o2_0 o2_1 o2_2 o2_3 o3_0 o3_1 o3_2 o3_3 o4_0 o4_1 o4_2 o4_3 o6_0 o6_1 o6_2 o6_3 r h)] (by kernel_rfl))

theorem spec_l04Times.l3_ok (k : Nat) : ∀ (v7 : Int) (o2_0 : Int) (o2_1 : Int) (o2_2 : Int) (o2_3 : Int) (o3_0 : Int) (o3_1 : Int) (o3_2 : Int) (o3_3 : Int) (o4_0 : Int) (o4_1 : Int) (o4_2 : Int) (o4_3 : Int) (o6_0 : Int) (o6_1 : Int) (o6_2 : Int) (o6_3 : Int) (r : (Siiii × Bool)), (spec_l04Times.l3 k) v7 o2_0 o2_1 o2_2 o2_3 o3_0 o3_1 o3_2 o3_3 o4_0 o4_1 o4_2 o4_3 o6_0 o6_1 o6_2 o6_3 = some r → Eng.Fin Go.Proofs.Tryz.prog 110 [] [] (.tu [.ag (Siiii.cells r.1), B r.2]) (itsL 3 (bodyOf Go.Proofs.Tryz.f110)) (mkS 50 [(2, .bx 2 0), (3, .bx 3 0), (4, .bx 4 0), (6, .bx 6 0), (7, I v7)] [(2, .box [I o2_0, I o2_1, I o2_2, I o2_3]), (3, .box [I o3_0, I o3_1, I o3_2, I o3_3]), (4, .box [I o4_0, I o4_1, I o4_2, I o4_3]), (6, .box [I o6_0, I o6_1, I o6_2, I o6_3])]) := by
  induction k with
  | zero => intro v7 o2_0 o2_1 o2_2 o2_3 o3_0 o3_1 o3_2 o3_3 o4_0 o4_1 o4_2 o4_3 o6_0 o6_1 o6_2 o6_3 r h; exact nomatch h
  | succ k ih =>
    exact fun v7 o2_0 o2_1 o2_2 o2_3 o3_0 o3_1 o3_2 o3_3 o4_0 o4_1 o4_2 o4_3 o6_0 o6_1 o6_2 o6_3 r h =>
      ifE_cases h
        (fun h1 h =>
          fin_fin Go.Proofs.Tryz.func110 mix 1000 [.unroll, .br h1, .fin 100000 [2, 3, 4, 6, 7, 8] [(2, 2), (3, 3), (4, 4), (6, 6)] (spec_l04Times.l6_ok (spec_l04Times.l3 k) ih fuelN v7 0 o2_0 o2_1 o2_2 o2_3 o3_0 o3_1 o3_2 o3_3 o4_0 o4_1 o4_2 o4_3 o6_0 o6_1 o6_2 o6_3 r h)] (by kernel_rfl))
        (fun h1 h =>
          bind_cases h fun r1 h2 h =>
          leaf h fun e => by subst e; exact fin_ret Go.Proofs.Tryz.func110 mix 1000 [.unroll, .br h1, .call [] (spec_l04Reduce.calls h2)] (by kernel_rfl))

theorem spec_l04Times.calls {a0 : Siiii} {a1 : Siiii} {r : (Siiii × Bool)} (h : spec_l04Times.f a0 a1 = some r) : Eng.Fn Go.Proofs.Tryz.prog 110 [.ag (Siiii.cells a0), .ag (Siiii.cells a1)] [] [] (.tu [.ag (Siiii.cells r.1), B r.2]) :=
  fn_fin Go.Proofs.Tryz.func110 (c := bodyOf Go.Proofs.Tryz.f110) (by kernel_rfl) (by kernel_rfl) <|
    fin_fin Go.Proofs.Tryz.func110 mix 1000 [.fin 100000 [2, 3, 4, 6, 7] [(2, 2), (3, 3), (4, 4), (6, 6)] (spec_l04Times.l3_ok fuelN 0 a0.c0 a0.c1 a0.c2 a0.c3 a1.c0 a1.c1 a1.c2 a1.c3 0 0 0 0 0 0 0 0 r h)] (by kernel_rfl)

theorem impl_reduce.calls {a0 : Siiii} {r : Siiii} (h : impl_reduce.f a0 = some r) : Eng.Fn Go.Proofs.Tryz.prog 120 [.ag (Siiii.cells a0)] [] [] (.ag (Siiii.cells r)) :=
  fn_fin Go.Proofs.Tryz.func120 (c := bodyOf Go.Proofs.Tryz.f120) (by kernel_rfl) (by kernel_rfl) <|
    bind_cases h fun r1 h1 h =>
    leaf h fun e => by subst e; exact fin_ret Go.Proofs.Tryz.func120 mix 1000 [.call [] (impl_reduced.calls h1)] (by kernel_rfl)

theorem impl_ReduceMatrix.calls {a0 : Siiii} {r : (Siiii × Int)} (h : impl_ReduceMatrix.f a0 = some r) : Eng.Fn Go.Proofs.Tryz.prog 28 [.ag (Siiii.cells a0)] [] [] (.tu [.ag (Siiii.cells r.1), I r.2]) :=
  fn_fin Go.Proofs.Tryz.func28 (c := bodyOf Go.Proofs.Tryz.f28) (by kernel_rfl) (by kernel_rfl) <|
    bind_cases h fun r1 h1 h =>
    ifE_cases h
      (fun h2 h =>
        leaf h fun e => by subst e; exact fin_ret Go.Proofs.Tryz.func28 mix 1000 [.call [] (impl_IsMatrix.calls h1), .br h2] (by kernel_rfl))
      (fun h2 h =>
        bind_cases h fun r2 h3 h =>
        leaf h fun e => by subst e; exact fin_ret Go.Proofs.Tryz.func28 mix 1000 [.call [] (impl_IsMatrix.calls h1), .br h2, .call [] (impl_reduce.calls h3)] (by kernel_rfl))

theorem impl_inverted.calls {a0 : Siiii} {r : Siiii} (h : impl_inverted.f a0 = some r) : Eng.Fn Go.Proofs.Tryz.prog 117 [.ag (Siiii.cells a0)] [] [] (.ag (Siiii.cells r)) :=
  fn_fin Go.Proofs.Tryz.func117 (c := bodyOf Go.Proofs.Tryz.f117) (by kernel_rfl) (by kernel_rfl) <|
    bind_cases h fun r1 h1 h =>
    leaf h fun e => by subst e; exact fin_ret Go.Proofs.Tryz.func117 mix 1000 [.call [] (impl_reduce.calls h1)] (by kernel_rfl)

theorem spec_l04Inverse.calls {a0 : Siiii} {r : Siiii} (h : spec_l04Inverse.f a0 = some r) : Eng.Fn Go.Proofs.Tryz.prog 118 [.ag (Siiii.cells a0)] [] [] (.ag (Siiii.cells r)) :=
  fn_fin Go.Proofs.Tryz.func118 (c := bodyOf Go.Proofs.Tryz.f118) (by kernel_rfl) (by kernel_rfl) <|
    bind_cases h fun r1 h1 h =>
    leaf h fun e => by subst e; exact fin_ret Go.Proofs.Tryz.func118 mix 1000 [.call [] (spec_l04Reduce.calls h1)] (by kernel_rfl)

theorem impl_one.calls  {r : Siiii} (h : impl_one.f  = some r) : Eng.Fn Go.Proofs.Tryz.prog 107 [] [] [] (.ag (Siiii.cells r)) :=
  fn_fin Go.Proofs.Tryz.func107 (c := bodyOf Go.Proofs.Tryz.f107) (by kernel_rfl) (by kernel_rfl) <|
    leaf h fun e => by subst e; exact fin_ret Go.Proofs.Tryz.func107 mix 1000 [] (by kernel_rfl)

theorem impl_PowerMatrix.l10_ok (k : Nat) : ∀ (v31 : Int) (v32 : Int) (o2_0 : Int) (o2_1 : Int) (o2_2 : Int) (o2_3 : Int) (o4_0 : Int) (o4_1 : Int) (o4_2 : Int) (o4_3 : Int) (o6_0 : Int) (o6_1 : Int) (o6_2 : Int) (o6_3 : Int) (r : (Siiii × Int)), (impl_PowerMatrix.l10 k) v31 v32 o2_0 o2_1 o2_2 o2_3 o4_0 o4_1 o4_2 o4_3 o6_0 o6_1 o6_2 o6_3 = some r → Eng.Fin Go.Proofs.Tryz.prog 48 [] [] (.tu [.ag (Siiii.cells r.1), I r.2]) (itsL 10 (bodyOf Go.Proofs.Tryz.f48)) (mkS 46 [(2, .bx 2 0), (4, .bx 4 0), (6, .bx 6 0), (31, I v31), (32, I v32)] [(2, .box [I o2_0, I o2_1, I o2_2, I o2_3]), (4, .box [I o4_0, I o4_1, I o4_2, I o4_3]), (6, .box [I o6_0, I o6_1, I o6_2, I o6_3])]) := by
  induction k with
  | zero => intro v31 v32 o2_0 o2_1 o2_2 o2_3 o4_0 o4_1 o4_2 o4_3 o6_0 o6_1 o6_2 o6_3 r h; exact nomatch h
  | succ k ih =>
    exact fun v31 v32 o2_0 o2_1 o2_2 o2_3 o4_0 o4_1 o4_2 o4_3 o6_0 o6_1 o6_2 o6_3 r h =>
      ifE_cases h
        (fun h1 h =>
          bind_cases h fun r6 h2 h =>
          ifE_cases h
            (fun h3 h =>
              leaf h fun e => by subst e; exact fin_ret Go.Proofs.Tryz.func48 mix 1000 [.unroll, .br h1, .call [] (impl_product.calls h2), .br h3] (by kernel_rfl))
            (fun h3 h =>
              fin_fin Go.Proofs.Tryz.func48 mix 1000 [.unroll, .br h1, .call [] (impl_product.calls h2), .br h3, .fin 100000 [2, 4, 6, 31, 32] [(2, 2), (4, 4), (6, 6)] (ih v31 (W (v32 + 1)) o2_0 o2_1 o2_2 o2_3 o4_0 o4_1 o4_2 o4_3 r6.1.c0 r6.1.c1 r6.1.c2 r6.1.c3 r h)] (by kernel_rfl)))
        (fun h1 h =>
          leaf h fun e => by subst e; exact fin_ret Go.Proofs.Tryz.func48 mix 1000 [.unroll, .br h1] (by kernel_rfl))

theorem impl_PowerMatrix.calls {a0 : Siiii} {a1 : Int} {r : (Siiii × Int)} (h : impl_PowerMatrix.f a0 a1 = some r) : Eng.Fn Go.Proofs.Tryz.prog 48 [.ag (Siiii.cells a0), I a1] [] [] (.tu [.ag (Siiii.cells r.1), I r.2]) :=
  fn_fin Go.Proofs.Tryz.func48 (c := bodyOf Go.Proofs.Tryz.f48) (by kernel_rfl) (by kernel_rfl) <|
    bind_cases h fun r1 h1 h =>
    ifE_cases h
      (fun h2 h =>
        leaf h fun e => by subst e; exact fin_ret Go.Proofs.Tryz.func48 mix 1000 [.call [] (impl_IsMatrix.calls h1), .br h2] (by kernel_rfl))
      (fun h2 h =>
        ifE_cases h
          (fun h3 h =>
            leaf h fun e => by subst e; exact fin_ret Go.Proofs.Tryz.func48 mix 1000 [.call [] (impl_IsMatrix.calls h1), .br h2, .br h3] (by kernel_rfl))
          (fun h3 h =>
            ifE_cases h
              (fun h4 h =>
                leaf h fun e => by subst e; exact fin_ret Go.Proofs.Tryz.func48 mix 1000 [.call [] (impl_IsMatrix.calls h1), .br h2, .br h3, .br h4] (by kernel_rfl))
              (fun h4 h =>
                bind_cases h fun r2 h5 h =>
                ifE_cases h
                  (fun h6 h =>
                    bind_cases h fun r3 h7 h =>
                    bind_cases h fun r4 h8 h =>
                    fin_fin Go.Proofs.Tryz.func48 mix 1000 [.call [] (impl_IsMatrix.calls h1), .br h2, .br h3, .br h4, .call [] (impl_reduce.calls h5), .br h6, .call [] (impl_inverted.calls h7), .call [] (impl_one.calls h8), .fin 100000 [2, 4, 6, 31, 32] [(2, 2), (4, 4), (6, 6)] (impl_PowerMatrix.l10_ok fuelN (W (0 - a1)) 0 r3.c0 r3.c1 r3.c2 r3.c3 0 0 0 0 r4.c0 r4.c1 r4.c2 r4.c3 r h)] (by kernel_rfl))
                  (fun h6 h =>
                    bind_cases h fun r5 h9 h =>
                    fin_fin Go.Proofs.Tryz.func48 mix 1000 [.call [] (impl_IsMatrix.calls h1), .br h2, .br h3, .br h4, .call [] (impl_reduce.calls h5), .br h6, .call [] (impl_one.calls h9), .fin 100000 [2, 4, 6, 31, 32] [(2, 2), (4, 4), (6, 6)] (impl_PowerMatrix.l10_ok fuelN a1 0 r2.c0 r2.c1 r2.c2 r2.c3 0 0 0 0 r5.c0 r5.c1 r5.c2 r5.c3 r h)] (by kernel_rfl)))))

theorem spec_l01From.l3_ok (k : Nat) : ∀ (v0 : (List Int)) (v4 : Int) (o11_0 : (List Int)) (o11_1 : Int) (o11_2 : Int) (r : SLu8eiu64), (spec_l01From.l3 k) v0 v4 o11_0 o11_1 o11_2 = some r → Eng.Fin Go.Proofs.Tryz.prog 134 [] [(11, .box (SLu8eiu64.cells r))] (.bx 11 0) (itsL 3 (bodyOf Go.Proofs.Tryz.f134)) (mkS 38 [(0, R true 1 (cK .u8) v0), (3, .bx 11 0), (4, I v4)] [(11, .box [R true 1 (cK .u8) o11_0, I o11_1, K .u64 o11_2])]) := by
  induction k with
  | zero => intro v0 v4 o11_0 o11_1 o11_2 r h; exact nomatch h
  | succ k ih =>
    exact fun v0 v4 o11_0 o11_1 o11_2 r h =>
      ifE_cases h
        (fun h1 h =>
          ifE_cases h
            (fun h2 h =>
              bind_cases h fun e1 h3 h =>
              fin_fin Go.Proofs.Tryz.func134 mix 1000 [.unroll, .br h1, .br h2, .el (getE_el (cK .u8) h3), .fin 100000 [0, 3, 4] [(11, 11)] (ih v0 (W (v4 + 1)) o11_0 o11_1 (IntKind.wrap .u64 ((IntKind.wrap .u64 ((IntKind.wrap .u64 (o11_2 * 1099511628211)) + (IntKind.wrap .u64 (e1)))) + 71)) r h)] (by kernel_rfl))
            (fun h2 h =>
              leaf h fun e => by subst e; exact fin_ret Go.Proofs.Tryz.func134 mix 1000 [.unroll, .br h1, .br h2] (by kernel_rfl)))
        (fun h1 h =>
          leaf h fun e => by subst e; exact fin_ret Go.Proofs.Tryz.func134 mix 1000 [.unroll, .br h1] (by kernel_rfl))

theorem spec_l01From.calls {a0 : (List Int)} {r : SLu8eiu64} (h : spec_l01From.f a0 = some r) : Eng.Fn Go.Proofs.Tryz.prog 134 [R true 1 (cK .u8) a0] [] [(11, .box (SLu8eiu64.cells r))] (.bx 11 0) :=
  fn_fin Go.Proofs.Tryz.func134 (c := bodyOf Go.Proofs.Tryz.f134) (by kernel_rfl) (by kernel_rfl) <|
    fin_fin Go.Proofs.Tryz.func134 mix 1000 [.fin 100000 [0, 3, 4] [(11, 11)] (spec_l01From.l3_ok fuelN a0 0 a0 0 (IntKind.wrap .u64 (12527 + (IntKind.wrap .u64 ((a0.length : Int))))) r h)] (by kernel_rfl)

theorem spec_l01Next.calls {a0 : SLu8eiu64} {a1 : Int} {r : (Int × SLu8eiu64)} (h : spec_l01Next.f a0 a1 = some r) : Eng.Fn Go.Proofs.Tryz.prog 139 [.bx 2000 0, I a1] [(2000, .box [R true 1 (cK .u8) a0.c0, I a0.c1, K .u64 a0.c2])] [(2000, .box (SLu8eiu64.cells r.2))] (I r.1) :=
  fn_fin Go.Proofs.Tryz.func139 (c := bodyOf Go.Proofs.Tryz.f139) (by kernel_rfl) (by kernel_rfl) <|
    ifE_cases h
      (fun h1 h =>
        leaf h fun e => by subst e; exact fin_ret Go.Proofs.Tryz.func139 mix 1000 [.br h1] (by kernel_rfl))
      (fun h1 h =>
        ifE_cases h
          (fun h2 h =>
            bind_cases h fun e1 h3 h =>
            guardE_cases h fun h4 h =>
            leaf h fun e => by subst e; exact fin_ret Go.Proofs.Tryz.func139 mix 1000 [.br h1, .br h2, .el (getE_el (cK .u8) h3), .nz h4] (by kernel_rfl))
          (fun h2 h =>
            guardE_cases h fun h5 h =>
            leaf h fun e => by subst e; exact fin_ret Go.Proofs.Tryz.func139 mix 1000 [.br h1, .br h2, .nz h5] (by kernel_rfl)))

theorem spec_l01Pick.calls {a0 : SLu8eiu64} {a1 : (List Int)} {r : (Int × SLu8eiu64)} (h : spec_l01Pick.f a0 a1 = some r) : Eng.Fn Go.Proofs.Tryz.prog 220 [.bx 2000 0, R true 1 cI a1] [(2000, .box [R true 1 (cK .u8) a0.c0, I a0.c1, K .u64 a0.c2])] [(2000, .box (SLu8eiu64.cells r.2))] (I r.1) :=
  fn_fin Go.Proofs.Tryz.func220 (c := bodyOf Go.Proofs.Tryz.f220) (by kernel_rfl) (by kernel_rfl) <|
    bind_cases h fun r1 h1 h =>
    bind_cases h fun e2 h2 h =>
    leaf h fun e => by subst e; exact fin_ret Go.Proofs.Tryz.func220 mix 1000 [.call [(2000, 2000)] (spec_l01Next.calls h1), .el (getE_el cI h2)] (by kernel_rfl)

theorem spec_l04Draw.l6_ok (a0 : SLu8eiu64) (rec3 : Int → (List Int) → Int → Int → Int → Int → Int → Int → Int → Int → Int → Int → Option (Siiii × SLu8eiu64)) (rec3H : ∀ (v4 : Int) (o2000_0 : (List Int)) (o2000_1 : Int) (o2000_2 : Int) (o2_0 : Int) (o2_1 : Int) (o2_2 : Int) (o2_3 : Int) (o3_0 : Int) (o3_1 : Int) (o3_2 : Int) (o3_3 : Int) (r : (Siiii × SLu8eiu64)), rec3 v4 o2000_0 o2000_1 o2000_2 o2_0 o2_1 o2_2 o2_3 o3_0 o3_1 o3_2 o3_3 = some r → Eng.Fin Go.Proofs.Tryz.prog 144 [(2000, .box [R true 1 (cK .u8) a0.c0, I a0.c1, K .u64 a0.c2])] [(2000, .box (SLu8eiu64.cells r.2))] (.ag (Siiii.cells r.1)) (itsL 3 (bodyOf Go.Proofs.Tryz.f144)) (mkS 91 [(0, .bx 2000 0), (2, .bx 2 0), (3, .bx 3 0), (4, I v4)] [(2000, .box [R true 1 (cK .u8) o2000_0, I o2000_1, K .u64 o2000_2]), (2, .box [I o2_0, I o2_1, I o2_2, I o2_3]), (3, .box [I o3_0, I o3_1, I o3_2, I o3_3])])) (k : Nat) : ∀ (v4 : Int) (v5 : Int) (o2000_0 : (List Int)) (o2000_1 : Int) (o2000_2 : Int) (o2_0 : Int) (o2_1 : Int) (o2_2 : Int) (o2_3 : Int) (o3_0 : Int) (o3_1 : Int) (o3_2 : Int) (o3_3 : Int) (r : (Siiii × SLu8eiu64)), (spec_l04Draw.l6 rec3 k) v4 v5 o2000_0 o2000_1 o2000_2 o2_0 o2_1 o2_2 o2_3 o3_0 o3_1 o3_2 o3_3 = some r → Eng.Fin Go.Proofs.Tryz.prog 144 [(2000, .box [R true 1 (cK .u8) a0.c0, I a0.c1, K .u64 a0.c2])] [(2000, .box (SLu8eiu64.cells r.2))] (.ag (Siiii.cells r.1)) (itsL 6 (bodyOf Go.Proofs.Tryz.f144)) (mkS 91 [(0, .bx 2000 0), (2, .bx 2 0), (3, .bx 3 0), (4, I v4), (5, I v5)] [(2000, .box [R true 1 (cK .u8) o2000_0, I o2000_1, K .u64 o2000_2]), (2, .box [I o2_0, I o2_1, I o2_2, I o2_3]), (3, .box [I o3_0, I o3_1, I o3_2, I o3_3])]) := by
  induction k with
  | zero => intro v4 v5 o2000_0 o2000_1 o2000_2 o2_0 o2_1 o2_2 o2_3 o3_0 o3_1 o3_2 o3_3 r h; exact nomatch h
  | succ k ih =>
    exact fun v4 v5 o2000_0 o2000_1 o2000_2 o2_0 o2_1 o2_2 o2_3 o3_0 o3_1 o3_2 o3_3 r h =>
      ifE_cases h
        (fun h1 h =>
          bind_cases h fun r17 h2 h =>
          ifE_cases h
            (fun h3 h =>
              ifE_cases h
                (fun h4 h =>
                  fin_fin Go.Proofs.Tryz.func144 mix 1000 [.unroll, .br h1, .nz (y := 2) (by decide), .nz (y := 2) (by decide), .call [(2000, 2000)] (spec_l01Next.calls h2), .num (eq_of h3), .num (eq_of h4), .fin 100000 [0, 2, 3, 4, 5] [(2000, 2000), (2, 2), (3, 3)] (ih v4 (W (v5 + 1)) r17.2.c0 r17.2.c1 r17.2.c2 o2_0 o2_1 o2_2 o2_3 (W (r17.1 - 5)) o3_1 o3_2 o3_3 r h)] (by kernel_rfl))
                (fun h4 h =>
                  ifE_cases h
                    (fun h5 h =>
                      fin_fin Go.Proofs.Tryz.func144 mix 1000 [.unroll, .br h1, .nz (y := 2) (by decide), .nz (y := 2) (by decide), .call [(2000, 2000)] (spec_l01Next.calls h2), .num (eq_of h3), .num (eq_of h5), .fin 100000 [0, 2, 3, 4, 5] [(2000, 2000), (2, 2), (3, 3)] (ih v4 (W (v5 + 1)) r17.2.c0 r17.2.c1 r17.2.c2 o2_0 o2_1 o2_2 o2_3 o3_0 (W (r17.1 - 5)) o3_2 o3_3 r h)] (by kernel_rfl))
                    (fun h5 h =>
                      nomatch h)))
            (fun h3 h =>
              ifE_cases h
                (fun h6 h =>
                  ifE_cases h
                    (fun h7 h =>
                      fin_fin Go.Proofs.Tryz.func144 mix 1000 [.unroll, .br h1, .nz (y := 2) (by decide), .nz (y := 2) (by decide), .call [(2000, 2000)] (spec_l01Next.calls h2), .num (eq_of h6), .num (eq_of h7), .fin 100000 [0, 2, 3, 4, 5] [(2000, 2000), (2, 2), (3, 3)] (ih v4 (W (v5 + 1)) r17.2.c0 r17.2.c1 r17.2.c2 o2_0 o2_1 o2_2 o2_3 o3_0 o3_1 (W (r17.1 - 5)) o3_3 r h)] (by kernel_rfl))
                    (fun h7 h =>
                      ifE_cases h
                        (fun h8 h =>
                          fin_fin Go.Proofs.Tryz.func144 mix 1000 [.unroll, .br h1, .nz (y := 2) (by decide), .nz (y := 2) (by decide), .call [(2000, 2000)] (spec_l01Next.calls h2), .num (eq_of h6), .num (eq_of h8), .fin 100000 [0, 2, 3, 4, 5] [(2000, 2000), (2, 2), (3, 3)] (ih v4 (W (v5 + 1)) r17.2.c0 r17.2.c1 r17.2.c2 o2_0 o2_1 o2_2 o2_3 o3_0 o3_1 o3_2 (W (r17.1 - 5)) r h)] (by kernel_rfl))
                        (fun h8 h =>
                          nomatch h)))
                (fun h6 h =>
                  nomatch h)))
        (fun h1 h =>
          bind_cases h fun r18 h9 h =>
          ifE_cases h
            (fun h10 h =>
              bind_cases h fun r19 h11 h =>
              ifE_cases h
                (fun h12 h =>
                  bind_cases h fun r20 h13 h =>
                  bind_cases h fun r21 h14 h =>
                  bind_cases h fun r22 h15 h =>
                  ifE_cases h
                    (fun h16 h =>
                      leaf h fun e => by subst e; exact fin_ret Go.Proofs.Tryz.func144 mix 1000 [.unroll, .br h1, .call [] (spec_l04Det.calls h9), .br h10, .call [(2000, 2000)] (spec_l01Next.calls h11), .br h12, .call [(2000, 2000)] (spec_l01Pick.calls h13), .call [(2000, 2000)] (spec_l01Next.calls h14), .call [(2000, 2000)] (spec_l01Next.calls h15), .br h16] (by kernel_rfl))
                    (fun h16 h =>
                      ifE_cases h
                        (fun h17 h =>
                          leaf h fun e => by subst e; exact fin_ret Go.Proofs.Tryz.func144 mix 1000 [.unroll, .br h1, .call [] (spec_l04Det.calls h9), .br h10, .call [(2000, 2000)] (spec_l01Next.calls h11), .br h12, .call [(2000, 2000)] (spec_l01Pick.calls h13), .call [(2000, 2000)] (spec_l01Next.calls h14), .call [(2000, 2000)] (spec_l01Next.calls h15), .br h16, .br h17] (by kernel_rfl))
                        (fun h17 h =>
                          leaf h fun e => by subst e; exact fin_ret Go.Proofs.Tryz.func144 mix 1000 [.unroll, .br h1, .call [] (spec_l04Det.calls h9), .br h10, .call [(2000, 2000)] (spec_l01Next.calls h11), .br h12, .call [(2000, 2000)] (spec_l01Pick.calls h13), .call [(2000, 2000)] (spec_l01Next.calls h14), .call [(2000, 2000)] (spec_l01Next.calls h15), .br h16, .br h17] (by kernel_rfl))))
                (fun h12 h =>
                  ifE_cases h
                    (fun h18 h =>
                      bind_cases h fun r23 h19 h =>
                      bind_cases h fun r24 h20 h =>
                      ifE_cases h
                        (fun h21 h =>
                          leaf h fun e => by subst e; exact fin_ret Go.Proofs.Tryz.func144 mix 1000 [.unroll, .br h1, .call [] (spec_l04Det.calls h9), .br h10, .call [(2000, 2000)] (spec_l01Next.calls h11), .br h12, .br h18, .call [(2000, 2000)] (spec_l01Pick.calls h19), .call [(2000, 2000)] (spec_l01Next.calls h20), .br h21] (by kernel_rfl))
                        (fun h21 h =>
                          ifE_cases h
                            (fun h22 h =>
                              leaf h fun e => by subst e; exact fin_ret Go.Proofs.Tryz.func144 mix 1000 [.unroll, .br h1, .call [] (spec_l04Det.calls h9), .br h10, .call [(2000, 2000)] (spec_l01Next.calls h11), .br h12, .br h18, .call [(2000, 2000)] (spec_l01Pick.calls h19), .call [(2000, 2000)] (spec_l01Next.calls h20), .br h21, .br h22] (by kernel_rfl))
                            (fun h22 h =>
                              leaf h fun e => by subst e; exact fin_ret Go.Proofs.Tryz.func144 mix 1000 [.unroll, .br h1, .call [] (spec_l04Det.calls h9), .br h10, .call [(2000, 2000)] (spec_l01Next.calls h11), .br h12, .br h18, .call [(2000, 2000)] (spec_l01Pick.calls h19), .call [(2000, 2000)] (spec_l01Next.calls h20), .br h21, .br h22] (by kernel_rfl))))
                    (fun h18 h =>
                      ifE_cases h
                        (fun h23 h =>
                          bind_cases h fun r25 h24 h =>
                          bind_cases h fun r26 h25 h =>
                          ifE_cases h
                            (fun h26 h =>
                              leaf h fun e => by subst e; exact fin_ret Go.Proofs.Tryz.func144 mix 1000 [.unroll, .br h1, .call [] (spec_l04Det.calls h9), .br h10, .call [(2000, 2000)] (spec_l01Next.calls h11), .br h12, .br h18, .br h23, .call [(2000, 2000)] (spec_l01Pick.calls h24), .call [(2000, 2000)] (spec_l01Next.calls h25), .br h26] (by kernel_rfl))
                            (fun h26 h =>
                              ifE_cases h
                                (fun h27 h =>
                                  leaf h fun e => by subst e; exact fin_ret Go.Proofs.Tryz.func144 mix 1000 [.unroll, .br h1, .call [] (spec_l04Det.calls h9), .br h10, .call [(2000, 2000)] (spec_l01Next.calls h11), .br h12, .br h18, .br h23, .call [(2000, 2000)] (spec_l01Pick.calls h24), .call [(2000, 2000)] (spec_l01Next.calls h25), .br h26, .br h27] (by kernel_rfl))
                                (fun h27 h =>
                                  leaf h fun e => by subst e; exact fin_ret Go.Proofs.Tryz.func144 mix 1000 [.unroll, .br h1, .call [] (spec_l04Det.calls h9), .br h10, .call [(2000, 2000)] (spec_l01Next.calls h11), .br h12, .br h18, .br h23, .call [(2000, 2000)] (spec_l01Pick.calls h24), .call [(2000, 2000)] (spec_l01Next.calls h25), .br h26, .br h27] (by kernel_rfl))))
                        (fun h23 h =>
                          ifE_cases h
                            (fun h28 h =>
                              bind_cases h fun r27 h29 h =>
                              bind_cases h fun r28 h30 h =>
                              bind_cases h fun r29 h31 h =>
                              bind_cases h fun r30 h32 h =>
                              bind_cases h fun r31 h33 h =>
                              ifE_cases h
                                (fun h34 h =>
                                  leaf h fun e => by subst e; exact fin_ret Go.Proofs.Tryz.func144 mix 1000 [.unroll, .br h1, .call [] (spec_l04Det.calls h9), .br h10, .call [(2000, 2000)] (spec_l01Next.calls h11), .br h12, .br h18, .br h23, .br h28, .call [(2000, 2000)] (spec_l01Next.calls h29), .call [(2000, 2000)] (spec_l01Next.calls h30), .call [(2000, 2000)] (spec_l01Next.calls h31), .call [(2000, 2000)] (spec_l01Next.calls h32), .call [(2000, 2000)] (spec_l01Next.calls h33), .br h34] (by kernel_rfl))
                                (fun h34 h =>
                                  ifE_cases h
                                    (fun h35 h =>
                                      leaf h fun e => by subst e; exact fin_ret Go.Proofs.Tryz.func144 mix 1000 [.unroll, .br h1, .call [] (spec_l04Det.calls h9), .br h10, .call [(2000, 2000)] (spec_l01Next.calls h11), .br h12, .br h18, .br h23, .br h28, .call [(2000, 2000)] (spec_l01Next.calls h29), .call [(2000, 2000)] (spec_l01Next.calls h30), .call [(2000, 2000)] (spec_l01Next.calls h31), .call [(2000, 2000)] (spec_l01Next.calls h32), .call [(2000, 2000)] (spec_l01Next.calls h33), .br h34, .br h35] (by kernel_rfl))
                                    (fun h35 h =>
                                      leaf h fun e => by subst e; exact fin_ret Go.Proofs.Tryz.func144 mix 1000 [.unroll, .br h1, .call [] (spec_l04Det.calls h9), .br h10, .call [(2000, 2000)] (spec_l01Next.calls h11), .br h12, .br h18, .br h23, .br h28, .call [(2000, 2000)] (spec_l01Next.calls h29), .call [(2000, 2000)] (spec_l01Next.calls h30), .call [(2000, 2000)] (spec_l01Next.calls h31), .call [(2000, 2000)] (spec_l01Next.calls h32), .call [(2000, 2000)] (spec_l01Next.calls h33), .br h34, .br h35] (by kernel_rfl))))
                            (fun h28 h =>
                              ifE_cases h
                                (fun h36 h =>
                                  bind_cases h fun r32 h37 h =>
                                  bind_cases h fun r33 h38 h =>
                                  ifE_cases h
                                    (fun h39 h =>
                                      leaf h fun e => by subst e; exact fin_ret Go.Proofs.Tryz.func144 mix 1000 [.unroll, .br h1, .call [] (spec_l04Det.calls h9), .br h10, .call [(2000, 2000)] (spec_l01Next.calls h11), .br h12, .br h18, .br h23, .br h28, .br h36, .call [(2000, 2000)] (spec_l01Next.calls h37), .call [(2000, 2000)] (spec_l01Next.calls h38), .br h39] (by kernel_rfl))
                                    (fun h39 h =>
                                      ifE_cases h
                                        (fun h40 h =>
                                          leaf h fun e => by subst e; exact fin_ret Go.Proofs.Tryz.func144 mix 1000 [.unroll, .br h1, .call [] (spec_l04Det.calls h9), .br h10, .call [(2000, 2000)] (spec_l01Next.calls h11), .br h12, .br h18, .br h23, .br h28, .br h36, .call [(2000, 2000)] (spec_l01Next.calls h37), .call [(2000, 2000)] (spec_l01Next.calls h38), .br h39, .br h40] (by kernel_rfl))
                                        (fun h40 h =>
                                          leaf h fun e => by subst e; exact fin_ret Go.Proofs.Tryz.func144 mix 1000 [.unroll, .br h1, .call [] (spec_l04Det.calls h9), .br h10, .call [(2000, 2000)] (spec_l01Next.calls h11), .br h12, .br h18, .br h23, .br h28, .br h36, .call [(2000, 2000)] (spec_l01Next.calls h37), .call [(2000, 2000)] (spec_l01Next.calls h38), .br h39, .br h40] (by kernel_rfl))))
                                (fun h36 h =>
                                  bind_cases h fun r34 h41 h =>
                                  ifE_cases h
                                    (fun h42 h =>
                                      leaf h fun e => by subst e; exact fin_ret Go.Proofs.Tryz.func144 mix 1000 [.unroll, .br h1, .call [] (spec_l04Det.calls h9), .br h10, .call [(2000, 2000)] (spec_l01Next.calls h11), .br h12, .br h18, .br h23, .br h28, .br h36, .call [(2000, 2000)] (spec_l01Next.calls h41), .br h42] (by kernel_rfl))
                                    (fun h42 h =>
                                      ifE_cases h
                                        (fun h43 h =>
                                          leaf h fun e => by subst e; exact fin_ret Go.Proofs.Tryz.func144 mix 1000 [.unroll, .br h1, .call [] (spec_l04Det.calls h9), .br h10, .call [(2000, 2000)] (spec_l01Next.calls h11), .br h12, .br h18, .br h23, .br h28, .br h36, .call [(2000, 2000)] (spec_l01Next.calls h41), .br h42, .br h43] (by kernel_rfl))
                                        (fun h43 h =>
                                          leaf h fun e => by subst e; exact fin_ret Go.Proofs.Tryz.func144 mix 1000 [.unroll, .br h1, .call [] (spec_l04Det.calls h9), .br h10, .call [(2000, 2000)] (spec_l01Next.calls h11), .br h12, .br h18, .br h23, .br h28, .br h36, .call [(2000, 2000)] (spec_l01Next.calls h41), .br h42, .br h43] (by kernel_rfl)))))))))
            (fun h10 h =>
              fin_fin Go.Proofs.Tryz.func144 mix 1000 [.unroll, .br h1, .call [] (spec_l04Det.calls h9), .br h10, .fin 100000 [0, 2, 3, 4] [(2000, 2000), (2, 2), (3, 3)] (rec3H (W (v4 + 1)) o2000_0 o2000_1 o2000_2 o2_0 o2_1 o2_2 o2_3 o3_0 o3_1 o3_2 o3_3 r h)] (by kernel_rfl)))

theorem spec_l04Draw.l3_ok (a0 : SLu8eiu64) (k : Nat) : ∀ (v4 : Int) (o2000_0 : (List Int)) (o2000_1 : Int) (o2000_2 : Int) (o2_0 : Int) (o2_1 : Int) (o2_2 : Int) (o2_3 : Int) (o3_0 : Int) (o3_1 : Int) (o3_2 : Int) (o3_3 : Int) (r : (Siiii × SLu8eiu64)), (spec_l04Draw.l3 k) v4 o2000_0 o2000_1 o2000_2 o2_0 o2_1 o2_2 o2_3 o3_0 o3_1 o3_2 o3_3 = some r → Eng.Fin Go.Proofs.Tryz.prog 144 [(2000, .box [R true 1 (cK .u8) a0.c0, I a0.c1, K .u64 a0.c2])] [(2000, .box (SLu8eiu64.cells r.2))] (.ag (Siiii.cells r.1)) (itsL 3 (bodyOf Go.Proofs.Tryz.f144)) (mkS 91 [(0, .bx 2000 0), (2, .bx 2 0), (3, .bx 3 0), (4, I v4)] [(2000, .box [R true 1 (cK .u8) o2000_0, I o2000_1, K .u64 o2000_2]), (2, .box [I o2_0, I o2_1, I o2_2, I o2_3]), (3, .box [I o3_0, I o3_1, I o3_2, I o3_3])]) := by
  induction k with
  | zero => intro v4 o2000_0 o2000_1 o2000_2 o2_0 o2_1 o2_2 o2_3 o3_0 o3_1 o3_2 o3_3 r h; exact nomatch h
  | succ k ih =>
    exact fun v4 o2000_0 o2000_1 o2000_2 o2_0 o2_1 o2_2 o2_3 o3_0 o3_1 o3_2 o3_3 r h =>
      ifE_cases h
        (fun h1 h =>
          fin_fin Go.Proofs.Tryz.func144 mix 1000 [.unroll, .br h1, .fin 100000 [0, 2, 3, 4, 5] [(2000, 2000), (2, 2), (3, 3)] (spec_l04Draw.l6_ok a0 (spec_l04Draw.l3 k) ih fuelN v4 0 o2000_0 o2000_1 o2000_2 o2_0 o2_1 o2_2 o2_3 o3_0 o3_1 o3_2 o3_3 r h)] (by kernel_rfl))
        (fun h1 h =>
          bind_cases h fun r1 h2 h =>
          ifE_cases h
            (fun h3 h =>
              bind_cases h fun r2 h4 h =>
              bind_cases h fun r3 h5 h =>
              bind_cases h fun r4 h6 h =>
              ifE_cases h
                (fun h7 h =>
                  leaf h fun e => by subst e; exact fin_ret Go.Proofs.Tryz.func144 mix 1000 [.unroll, .br h1, .call [(2000, 2000)] (spec_l01Next.calls h2), .br h3, .call [(2000, 2000)] (spec_l01Pick.calls h4), .call [(2000, 2000)] (spec_l01Next.calls h5), .call [(2000, 2000)] (spec_l01Next.calls h6), .br h7] (by kernel_rfl))
                (fun h7 h =>
                  ifE_cases h
                    (fun h8 h =>
                      leaf h fun e => by subst e; exact fin_ret Go.Proofs.Tryz.func144 mix 1000 [.unroll, .br h1, .call [(2000, 2000)] (spec_l01Next.calls h2), .br h3, .call [(2000, 2000)] (spec_l01Pick.calls h4), .call [(2000, 2000)] (spec_l01Next.calls h5), .call [(2000, 2000)] (spec_l01Next.calls h6), .br h7, .br h8] (by kernel_rfl))
                    (fun h8 h =>
                      leaf h fun e => by subst e; exact fin_ret Go.Proofs.Tryz.func144 mix 1000 [.unroll, .br h1, .call [(2000, 2000)] (spec_l01Next.calls h2), .br h3, .call [(2000, 2000)] (spec_l01Pick.calls h4), .call [(2000, 2000)] (spec_l01Next.calls h5), .call [(2000, 2000)] (spec_l01Next.calls h6), .br h7, .br h8] (by kernel_rfl))))
            (fun h3 h =>
              ifE_cases h
                (fun h9 h =>
                  bind_cases h fun r5 h10 h =>
                  bind_cases h fun r6 h11 h =>
                  ifE_cases h
                    (fun h12 h =>
                      leaf h fun e => by subst e; exact fin_ret Go.Proofs.Tryz.func144 mix 1000 [.unroll, .br h1, .call [(2000, 2000)] (spec_l01Next.calls h2), .br h3, .br h9, .call [(2000, 2000)] (spec_l01Pick.calls h10), .call [(2000, 2000)] (spec_l01Next.calls h11), .br h12] (by kernel_rfl))
                    (fun h12 h =>
                      ifE_cases h
                        (fun h13 h =>
                          leaf h fun e => by subst e; exact fin_ret Go.Proofs.Tryz.func144 mix 1000 [.unroll, .br h1, .call [(2000, 2000)] (spec_l01Next.calls h2), .br h3, .br h9, .call [(2000, 2000)] (spec_l01Pick.calls h10), .call [(2000, 2000)] (spec_l01Next.calls h11), .br h12, .br h13] (by kernel_rfl))
                        (fun h13 h =>
                          leaf h fun e => by subst e; exact fin_ret Go.Proofs.Tryz.func144 mix 1000 [.unroll, .br h1, .call [(2000, 2000)] (spec_l01Next.calls h2), .br h3, .br h9, .call [(2000, 2000)] (spec_l01Pick.calls h10), .call [(2000, 2000)] (spec_l01Next.calls h11), .br h12, .br h13] (by kernel_rfl))))
                (fun h9 h =>
                  ifE_cases h
                    (fun h14 h =>
                      bind_cases h fun r7 h15 h =>
                      bind_cases h fun r8 h16 h =>
                      ifE_cases h
                        (fun h17 h =>
                          leaf h fun e => by subst e; exact fin_ret Go.Proofs.Tryz.func144 mix 1000 [.unroll, .br h1, .call [(2000, 2000)] (spec_l01Next.calls h2), .br h3, .br h9, .br h14, .call [(2000, 2000)] (spec_l01Pick.calls h15), .call [(2000, 2000)] (spec_l01Next.calls h16), .br h17] (by kernel_rfl))
                        (fun h17 h =>
                          ifE_cases h
                            (fun h18 h =>
                              leaf h fun e => by subst e; exact fin_ret Go.Proofs.Tryz.func144 mix 1000 [.unroll, .br h1, .call [(2000, 2000)] (spec_l01Next.calls h2), .br h3, .br h9, .br h14, .call [(2000, 2000)] (spec_l01Pick.calls h15), .call [(2000, 2000)] (spec_l01Next.calls h16), .br h17, .br h18] (by kernel_rfl))
                            (fun h18 h =>
                              leaf h fun e => by subst e; exact fin_ret Go.Proofs.Tryz.func144 mix 1000 [.unroll, .br h1, .call [(2000, 2000)] (spec_l01Next.calls h2), .br h3, .br h9, .br h14, .call [(2000, 2000)] (spec_l01Pick.calls h15), .call [(2000, 2000)] (spec_l01Next.calls h16), .br h17, .br h18] (by kernel_rfl))))
                    (fun h14 h =>
                      ifE_cases h
                        (fun h19 h =>
                          bind_cases h fun r9 h20 h =>
                          bind_cases h fun r10 h21 h =>
                          bind_cases h fun r11 h22 h =>
                          bind_cases h fun r12 h23 h =>
                          bind_cases h fun r13 h24 h =>
                          ifE_cases h
                            (fun h25 h =>
                              leaf h fun e => by subst e; exact fin_ret Go.Proofs.Tryz.func144 mix 1000 [.unroll, .br h1, .call [(2000, 2000)] (spec_l01Next.calls h2), .br h3, .br h9, .br h14, .br h19, .call [(2000, 2000)] (spec_l01Next.calls h20), .call [(2000, 2000)] (spec_l01Next.calls h21), .call [(2000, 2000)] (spec_l01Next.calls h22), .call [(2000, 2000)] (spec_l01Next.calls h23), .call [(2000, 2000)] (spec_l01Next.calls h24), .br h25] (by kernel_rfl))
                            (fun h25 h =>
                              ifE_cases h
                                (fun h26 h =>
                                  leaf h fun e => by subst e; exact fin_ret Go.Proofs.Tryz.func144 mix 1000 [.unroll, .br h1, .call [(2000, 2000)] (spec_l01Next.calls h2), .br h3, .br h9, .br h14, .br h19, .call [(2000, 2000)] (spec_l01Next.calls h20), .call [(2000, 2000)] (spec_l01Next.calls h21), .call [(2000, 2000)] (spec_l01Next.calls h22), .call [(2000, 2000)] (spec_l01Next.calls h23), .call [(2000, 2000)] (spec_l01Next.calls h24), .br h25, .br h26] (by kernel_rfl))
                                (fun h26 h =>
                                  leaf h fun e => by subst e; exact fin_ret Go.Proofs.Tryz.func144 mix 1000 [.unroll, .br h1, .call [(2000, 2000)] (spec_l01Next.calls h2), .br h3, .br h9, .br h14, .br h19, .call [(2000, 2000)] (spec_l01Next.calls h20), .call [(2000, 2000)] (spec_l01Next.calls h21), .call [(2000, 2000)] (spec_l01Next.calls h22), .call [(2000, 2000)] (spec_l01Next.calls h23), .call [(2000, 2000)] (spec_l01Next.calls h24), .br h25, .br h26] (by kernel_rfl))))
                        (fun h19 h =>
                          ifE_cases h
                            (fun h27 h =>
                              bind_cases h fun r14 h28 h =>
                              bind_cases h fun r15 h29 h =>
                              ifE_cases h
                                (fun h30 h =>
                                  leaf h fun e => by subst e; exact fin_ret Go.Proofs.Tryz.func144 mix 1000 [.unroll, .br h1, .call [(2000, 2000)] (spec_l01Next.calls h2), .br h3, .br h9, .br h14, .br h19, .br h27, .call [(2000, 2000)] (spec_l01Next.calls h28), .call [(2000, 2000)] (spec_l01Next.calls h29), .br h30] (by kernel_rfl))
                                (fun h30 h =>
                                  ifE_cases h
                                    (fun h31 h =>
                                      leaf h fun e => by subst e; exact fin_ret Go.Proofs.Tryz.func144 mix 1000 [.unroll, .br h1, .call [(2000, 2000)] (spec_l01Next.calls h2), .br h3, .br h9, .br h14, .br h19, .br h27, .call [(2000, 2000)] (spec_l01Next.calls h28), .call [(2000, 2000)] (spec_l01Next.calls h29), .br h30, .br h31] (by kernel_rfl))
                                    (fun h31 h =>
                                      leaf h fun e => by subst e; exact fin_ret Go.Proofs.Tryz.func144 mix 1000 [.unroll, .br h1, .call [(2000, 2000)] (spec_l01Next.calls h2), .br h3, .br h9, .br h14, .br h19, .br h27, .call [(2000, 2000)] (spec_l01Next.calls h28), .call [(2000, 2000)] (spec_l01Next.calls h29), .br h30, .br h31] (by kernel_rfl))))
                            (fun h27 h =>
                              bind_cases h fun r16 h32 h =>
                              ifE_cases h
                                (fun h33 h =>
                                  leaf h fun e => by subst e; exact fin_ret Go.Proofs.Tryz.func144 mix 1000 [.unroll, .br h1, .call [(2000, 2000)] (spec_l01Next.calls h2), .br h3, .br h9, .br h14, .br h19, .br h27, .call [(2000, 2000)] (spec_l01Next.calls h32), .br h33] (by kernel_rfl))
                                (fun h33 h =>
                                  ifE_cases h
                                    (fun h34 h =>
                                      leaf h fun e => by subst e; exact fin_ret Go.Proofs.Tryz.func144 mix 1000 [.unroll, .br h1, .call [(2000, 2000)] (spec_l01Next.calls h2), .br h3, .br h9, .br h14, .br h19, .br h27, .call [(2000, 2000)] (spec_l01Next.calls h32), .br h33, .br h34] (by kernel_rfl))
                                    (fun h34 h =>
                                      leaf h fun e => by subst e; exact fin_ret Go.Proofs.Tryz.func144 mix 1000 [.unroll, .br h1, .call [(2000, 2000)] (spec_l01Next.calls h2), .br h3, .br h9, .br h14, .br h19, .br h27, .call [(2000, 2000)] (spec_l01Next.calls h32), .br h33, .br h34] (by kernel_rfl)))))))))

theorem spec_l04Draw.calls {a0 : SLu8eiu64} {r : (Siiii × SLu8eiu64)} (h : spec_l04Draw.f a0 = some r) : Eng.Fn Go.Proofs.Tryz.prog 144 [.bx 2000 0] [(2000, .box [R true 1 (cK .u8) a0.c0, I a0.c1, K .u64 a0.c2])] [(2000, .box (SLu8eiu64.cells r.2))] (.ag (Siiii.cells r.1)) :=
  fn_fin Go.Proofs.Tryz.func144 (c := bodyOf Go.Proofs.Tryz.f144) (by kernel_rfl) (by kernel_rfl) <|
    fin_fin Go.Proofs.Tryz.func144 mix 1000 [.fin 100000 [0, 2, 3, 4] [(2000, 2000), (2, 2), (3, 3)] (spec_l04Draw.l3_ok a0 fuelN 0 a0.c0 a0.c1 a0.c2 0 0 0 0 0 0 0 0 r h)] (by kernel_rfl)

end Go.CTryz
end
section
set_option linter.unusedVariables false
set_option maxRecDepth 100000
open Go Go.Eng
namespace Go.CTryz
open Go.Gn
theorem spec_l01Power.l2_ok (k : Nat) : ∀ (v0 : Int) (v1 : Int) (v5 : Int) (r : Int), (spec_l01Power.l2 k) v0 v1 v5 = some r → Eng.Fin Go.Proofs.Tryz.prog 184 [] [] (I r) (itsL 2 (bodyOf Go.Proofs.Tryz.f184)) (mkS 14 [(0, I v0), (1, I v1), (5, I v5)] []) := by
  induction k with
  | zero => intro v0 v1 v5 r h; exact nomatch h
  | succ k ih =>
    exact fun v0 v1 v5 r h =>
      ifE_cases h
        (fun h1 h =>
          fin_fin Go.Proofs.Tryz.func184 mix 1000 [.unroll, .br h1, .fin 100000 [0, 1, 5] [] (ih v0 (W (v1 - 1)) (W (v5 * v0)) r h)] (by kernel_rfl))
        (fun h1 h =>
          leaf h fun e => by subst e; exact fin_ret Go.Proofs.Tryz.func184 mix 1000 [.unroll, .br h1] (by kernel_rfl))

theorem spec_l01Power.calls {a0 : Int} {a1 : Int} {r : Int} (h : spec_l01Power.f a0 a1 = some r) : Eng.Fn Go.Proofs.Tryz.prog 184 [I a0, I a1] [] [] (I r) :=
  fn_fin Go.Proofs.Tryz.func184 (c := bodyOf Go.Proofs.Tryz.f184) (by kernel_rfl) (by kernel_rfl) <|
    fin_fin Go.Proofs.Tryz.func184 mix 1000 [.fin 100000 [0, 1, 5] [] (spec_l01Power.l2_ok fuelN a0 a1 1 r h)] (by kernel_rfl)

theorem spec_l01Val.l2_ok (k : Nat) : ∀ (v0 : Int) (v1 : Int) (v5 : Int) (r : Int), (spec_l01Val.l2 k) v0 v1 v5 = some r → Eng.Fin Go.Proofs.Tryz.prog 229 [] [] (I r) (itsL 2 (bodyOf Go.Proofs.Tryz.f229)) (mkS 16 [(0, I v0), (1, I v1), (5, I v5)] []) := by
  induction k with
  | zero => intro v0 v1 v5 r h; exact nomatch h
  | succ k ih =>
    exact fun v0 v1 v5 r h =>
      guardE_cases h fun h1 h =>
      ifE_cases h
        (fun h2 h =>
          guardE_cases h fun h3 h =>
          fin_fin Go.Proofs.Tryz.func229 mix 1000 [.unroll, .nz h1, .br h2, .nz h3, .fin 100000 [0, 1, 5] [] (ih v0 (W (Int.tdiv v1 v0)) (W (v5 + 1)) r h)] (by kernel_rfl))
        (fun h2 h =>
          leaf h fun e => by subst e; exact fin_ret Go.Proofs.Tryz.func229 mix 1000 [.unroll, .nz h1, .br h2] (by kernel_rfl))

theorem spec_l01Val.calls {a0 : Int} {a1 : Int} {r : Int} (h : spec_l01Val.f a0 a1 = some r) : Eng.Fn Go.Proofs.Tryz.prog 229 [I a0, I a1] [] [] (I r) :=
  fn_fin Go.Proofs.Tryz.func229 (c := bodyOf Go.Proofs.Tryz.f229) (by kernel_rfl) (by kernel_rfl) <|
    fin_fin Go.Proofs.Tryz.func229 mix 1000 [.fin 100000 [0, 1, 5] [] (spec_l01Val.l2_ok fuelN a0 a1 0 r h)] (by kernel_rfl)

theorem spec_l01MulMod.calls {a0 : Int} {a1 : Int} {a2 : Int} {r : Int} (h : spec_l01MulMod.f a0 a1 a2 = some r) : Eng.Fn Go.Proofs.Tryz.prog 282 [I a0, I a1, I a2] [] [] (I r) :=
  fn_fin Go.Proofs.Tryz.func282 (c := bodyOf Go.Proofs.Tryz.f282) (by kernel_rfl) (by kernel_rfl) <|
    guardE_cases h fun h1 h =>
    guardE_cases h fun h2 h =>
    guardE_cases h fun h3 h =>
    guardE_cases h fun h4 h =>
    guardE_cases h fun h5 h =>
    guardE_cases h fun h6 h =>
    guardE_cases h fun h7 h =>
    guardE_cases h fun h8 h =>
    leaf h fun e => by subst e; exact fin_ret Go.Proofs.Tryz.func282 mix 1000 [.nz h1, .nz h2, .nz h3, .nz h4, .nz (y := 1000000) (by decide), .nz (y := 1000000) (by decide), .nz h5, .nz h6, .nz h7, .nz h8] (by kernel_rfl)

theorem spec_l01InvMod.l2_ok (k : Nat) : ∀ (v1 : Int) (v5 : Int) (v6 : Int) (v7 : Int) (v8 : Int) (r : Int), (spec_l01InvMod.l2 k) v1 v5 v6 v7 v8 = some r → Eng.Fin Go.Proofs.Tryz.prog 283 [] [] (I r) (itsL 2 (bodyOf Go.Proofs.Tryz.f283)) (mkS 46 [(1, I v1), (5, I v5), (6, I v6), (7, I v7), (8, I v8)] []) := by
  induction k with
  | zero => intro v1 v5 v6 v7 v8 r h; exact nomatch h
  | succ k ih =>
    exact fun v1 v5 v6 v7 v8 r h =>
      ifE_cases h
        (fun h1 h =>
          guardE_cases h fun h2 h =>
          fin_fin Go.Proofs.Tryz.func283 mix 1000 [.unroll, .br h1, .nz h2, .fin 100000 [1, 5, 6, 7, 8] [] (ih v1 v6 (W (v5 - (W ((W (Int.tdiv v5 v6)) * v6)))) v8 (W (v7 - (W ((W (Int.tdiv v5 v6)) * v8)))) r h)] (by kernel_rfl))
        (fun h1 h =>
          guardE_cases h fun h3 h =>
          guardE_cases h fun h4 h =>
          leaf h fun e => by subst e; exact fin_ret Go.Proofs.Tryz.func283 mix 1000 [.unroll, .br h1, .nz h3, .nz h4] (by kernel_rfl))

theorem spec_l01InvMod.calls {a0 : Int} {a1 : Int} {r : Int} (h : spec_l01InvMod.f a0 a1 = some r) : Eng.Fn Go.Proofs.Tryz.prog 283 [I a0, I a1] [] [] (I r) :=
  fn_fin Go.Proofs.Tryz.func283 (c := bodyOf Go.Proofs.Tryz.f283) (by kernel_rfl) (by kernel_rfl) <|
    guardE_cases h fun h1 h =>
    guardE_cases h fun h2 h =>
    fin_fin Go.Proofs.Tryz.func283 mix 1000 [.nz h1, .nz h2, .fin 100000 [1, 5, 6, 7, 8] [] (spec_l01InvMod.l2_ok fuelN a1 (Int.tmod (W ((Int.tmod a0 a1) + a1)) a1) a1 1 0 r h)] (by kernel_rfl)

theorem spec_l01Of.calls {a0 : Int} {a1 : Int} {a2 : Int} {a3 : Int} {r : (Siii × Bool)} (h : spec_l01Of.f a0 a1 a2 a3 = some r) : Eng.Fn Go.Proofs.Tryz.prog 235 [I a0, I a1, I a2, I a3] [] [] (.tu [.ag (Siii.cells r.1), B r.2]) :=
  fn_fin Go.Proofs.Tryz.func235 (c := bodyOf Go.Proofs.Tryz.f235) (by kernel_rfl) (by kernel_rfl) <|
    bind_cases h fun r1 h1 h =>
    ifE_cases h
      (fun h2 h =>
        leaf h fun e => by subst e; exact fin_ret Go.Proofs.Tryz.func235 mix 1000 [.call [] (spec_l01In.calls h1), .br h2] (by kernel_rfl))
      (fun h2 h =>
        ifE_cases h
          (fun h3 h =>
            leaf h fun e => by subst e; exact fin_ret Go.Proofs.Tryz.func235 mix 1000 [.call [] (spec_l01In.calls h1), .br h2, .br h3] (by kernel_rfl))
          (fun h3 h =>
            bind_cases h fun r2 h4 h =>
            bind_cases h fun r3 h5 h =>
            ifE_cases h
              (fun h6 h =>
                leaf h fun e => by subst e; exact fin_ret Go.Proofs.Tryz.func235 mix 1000 [.call [] (spec_l01In.calls h1), .br h2, .br h3, .call [] (spec_l01Val.calls h4), .call [] (spec_l01Val.calls h5), .br h6] (by kernel_rfl))
              (fun h6 h =>
                ifE_cases h
                  (fun h7 h =>
                    leaf h fun e => by subst e; exact fin_ret Go.Proofs.Tryz.func235 mix 1000 [.call [] (spec_l01In.calls h1), .br h2, .br h3, .call [] (spec_l01Val.calls h4), .call [] (spec_l01Val.calls h5), .br h6, .br h7] (by kernel_rfl))
                  (fun h7 h =>
                    bind_cases h fun r4 h8 h =>
                    bind_cases h fun r5 h9 h =>
                    guardE_cases h fun h10 h =>
                    bind_cases h fun r6 h11 h =>
                    guardE_cases h fun h12 h =>
                    bind_cases h fun r7 h13 h =>
                    bind_cases h fun r8 h14 h =>
                    bind_cases h fun r9 h15 h =>
                    bind_cases h fun r10 h16 h =>
                    leaf h fun e => by subst e; exact fin_ret Go.Proofs.Tryz.func235 mix 1000 [.call [] (spec_l01In.calls h1), .br h2, .br h3, .call [] (spec_l01Val.calls h4), .call [] (spec_l01Val.calls h5), .br h6, .br h7, .call [] (spec_l01Power.calls h8), .call [] (spec_l01Power.calls h9), .nz h10, .call [] (spec_l01Power.calls h11), .nz h12, .call [] (spec_l01InvMod.calls h13), .call [] (spec_l01MulMod.calls h14), .call [] (spec_l01Power.calls h15), .call [] (spec_l01MulMod.calls h16)] (by kernel_rfl)))))

theorem impl_power.l3_ok (k : Nat) : ∀ (v0 : Int) (v5 : Int) (v6 : Int) (v7 : Int) (r : Int), (impl_power.l3 k) v0 v5 v6 v7 = some r → Eng.Fin Go.Proofs.Tryz.prog 182 [] [] (I r) (itsL 3 (bodyOf Go.Proofs.Tryz.f182)) (mkS 14 [(0, I v0), (5, I v5), (6, I v6), (7, I v7)] []) := by
  induction k with
  | zero => intro v0 v5 v6 v7 r h; exact nomatch h
  | succ k ih =>
    exact fun v0 v5 v6 v7 r h =>
      ifE_cases h
        (fun h1 h =>
          fin_fin Go.Proofs.Tryz.func182 mix 1000 [.unroll, .br h1, .fin 100000 [0, 5, 6, 7] [] (ih v0 (W (v5 * v0)) v6 (W (v7 + 1)) r h)] (by kernel_rfl))
        (fun h1 h =>
          leaf h fun e => by subst e; exact fin_ret Go.Proofs.Tryz.func182 mix 1000 [.unroll, .br h1] (by kernel_rfl))

theorem impl_power.calls {a0 : Int} {a1 : Int} {r : Int} (h : impl_power.f a0 a1 = some r) : Eng.Fn Go.Proofs.Tryz.prog 182 [I a0, I a1] [] [] (I r) :=
  fn_fin Go.Proofs.Tryz.func182 (c := bodyOf Go.Proofs.Tryz.f182) (by kernel_rfl) (by kernel_rfl) <|
    fin_fin Go.Proofs.Tryz.func182 mix 1000 [.fin 100000 [0, 5, 6, 7] [] (impl_power.l3_ok fuelN a0 1 a1 0 r h)] (by kernel_rfl)

theorem impl_isPrime.calls {a0 : Int} {r : Bool} (h : impl_isPrime.f a0 = some r) : Eng.Fn Go.Proofs.Tryz.prog 228 [I a0] [] [] (B r) :=
  fn_fin Go.Proofs.Tryz.func228 (c := bodyOf Go.Proofs.Tryz.f228) (by kernel_rfl) (by kernel_rfl) <|
    ifE_cases h
      (fun h1 h =>
        leaf h fun e => by subst e; exact fin_ret Go.Proofs.Tryz.func228 mix 1000 [.br h1] (by kernel_rfl))
      (fun h1 h =>
        ifE_cases h
          (fun h2 h =>
            leaf h fun e => by subst e; exact fin_ret Go.Proofs.Tryz.func228 mix 1000 [.br h1, .br h2] (by kernel_rfl))
          (fun h2 h =>
            ifE_cases h
              (fun h3 h =>
                leaf h fun e => by subst e; exact fin_ret Go.Proofs.Tryz.func228 mix 1000 [.br h1, .br h2, .br h3] (by kernel_rfl))
              (fun h3 h =>
                leaf h fun e => by subst e; exact fin_ret Go.Proofs.Tryz.func228 mix 1000 [.br h1, .br h2, .br h3] (by kernel_rfl))))

theorem impl_isLevel.calls {a0 : Int} {r : Bool} (h : impl_isLevel.f a0 = some r) : Eng.Fn Go.Proofs.Tryz.prog 221 [I a0] [] [] (B r) :=
  fn_fin Go.Proofs.Tryz.func221 (c := bodyOf Go.Proofs.Tryz.f221) (by kernel_rfl) (by kernel_rfl) <|
    ifE_cases h
      (fun h1 h =>
        leaf h fun e => by subst e; exact fin_ret Go.Proofs.Tryz.func221 mix 1000 [.br h1] (by kernel_rfl))
      (fun h1 h =>
        leaf h fun e => by subst e; exact fin_ret Go.Proofs.Tryz.func221 mix 1000 [.br h1] (by kernel_rfl))

theorem impl_IsBall.calls {a0 : Int} {a1 : Siii} {r : Bool} (h : impl_IsBall.f a0 a1 = some r) : Eng.Fn Go.Proofs.Tryz.prog 127 [I a0, .ag (Siii.cells a1)] [] [] (B r) :=
  fn_fin Go.Proofs.Tryz.func127 (c := bodyOf Go.Proofs.Tryz.f127) (by kernel_rfl) (by kernel_rfl) <|
    bind_cases h fun r1 h1 h =>
    ifE_cases h
      (fun h2 h =>
        leaf h fun e => by subst e; exact fin_ret Go.Proofs.Tryz.func127 mix 1000 [.call [] (impl_isPrime.calls h1), .br h2] (by kernel_rfl))
      (fun h2 h =>
        bind_cases h fun r2 h3 h =>
        ifE_cases h
          (fun h4 h =>
            leaf h fun e => by subst e; exact fin_ret Go.Proofs.Tryz.func127 mix 1000 [.call [] (impl_isPrime.calls h1), .br h2, .call [] (impl_isLevel.calls h3), .br h4] (by kernel_rfl))
          (fun h4 h =>
            ifE_cases h
              (fun h5 h =>
                leaf h fun e => by subst e; exact fin_ret Go.Proofs.Tryz.func127 mix 1000 [.call [] (impl_isPrime.calls h1), .br h2, .call [] (impl_isLevel.calls h3), .br h4, .br h5] (by kernel_rfl))
              (fun h5 h =>
                ifE_cases h
                  (fun h6 h =>
                    leaf h fun e => by subst e; exact fin_ret Go.Proofs.Tryz.func127 mix 1000 [.call [] (impl_isPrime.calls h1), .br h2, .call [] (impl_isLevel.calls h3), .br h4, .br h5, .br h6] (by kernel_rfl))
                  (fun h6 h =>
                    ifE_cases h
                      (fun h7 h =>
                        ifE_cases h
                          (fun h8 h =>
                            leaf h fun e => by subst e; exact fin_ret Go.Proofs.Tryz.func127 mix 1000 [.call [] (impl_isPrime.calls h1), .br h2, .call [] (impl_isLevel.calls h3), .br h4, .br h5, .br h6, .br h7, .br h8] (by kernel_rfl))
                          (fun h8 h =>
                            leaf h fun e => by subst e; exact fin_ret Go.Proofs.Tryz.func127 mix 1000 [.call [] (impl_isPrime.calls h1), .br h2, .call [] (impl_isLevel.calls h3), .br h4, .br h5, .br h6, .br h7, .br h8] (by kernel_rfl)))
                      (fun h7 h =>
                        ifE_cases h
                          (fun h9 h =>
                            bind_cases h fun r3 h10 h =>
                            ifE_cases h
                              (fun h11 h =>
                                ifE_cases h
                                  (fun h12 h =>
                                    leaf h fun e => by subst e; exact fin_ret Go.Proofs.Tryz.func127 mix 1000 [.call [] (impl_isPrime.calls h1), .br h2, .call [] (impl_isLevel.calls h3), .br h4, .br h5, .br h6, .br h7, .br h9, .call [] (impl_power.calls h10), .br h11, .br h12] (by kernel_rfl))
                                  (fun h12 h =>
                                    guardE_cases h fun h13 h =>
                                    leaf h fun e => by subst e; exact fin_ret Go.Proofs.Tryz.func127 mix 1000 [.call [] (impl_isPrime.calls h1), .br h2, .call [] (impl_isLevel.calls h3), .br h4, .br h5, .br h6, .br h7, .br h9, .call [] (impl_power.calls h10), .br h11, .br h12, .nz h13] (by kernel_rfl)))
                              (fun h11 h =>
                                leaf h fun e => by subst e; exact fin_ret Go.Proofs.Tryz.func127 mix 1000 [.call [] (impl_isPrime.calls h1), .br h2, .call [] (impl_isLevel.calls h3), .br h4, .br h5, .br h6, .br h7, .br h9, .call [] (impl_power.calls h10), .br h11] (by kernel_rfl)))
                          (fun h9 h =>
                            leaf h fun e => by subst e; exact fin_ret Go.Proofs.Tryz.func127 mix 1000 [.call [] (impl_isPrime.calls h1), .br h2, .call [] (impl_isLevel.calls h3), .br h4, .br h5, .br h6, .br h7, .br h9] (by kernel_rfl)))))))

theorem impl_mark.calls {a0 : Int} {a1 : Siii} {r : Int} (h : impl_mark.f a0 a1 = some r) : Eng.Fn Go.Proofs.Tryz.prog 231 [I a0, .ag (Siii.cells a1)] [] [] (I r) :=
  fn_fin Go.Proofs.Tryz.func231 (c := bodyOf Go.Proofs.Tryz.f231) (by kernel_rfl) (by kernel_rfl) <|
    bind_cases h fun r1 h1 h =>
    leaf h fun e => by subst e; exact fin_ret Go.Proofs.Tryz.func231 mix 1000 [.call [] (impl_power.calls h1)] (by kernel_rfl)

theorem impl_holds.calls {a0 : Int} {a1 : Siii} {a2 : Siii} {r : Bool} (h : impl_holds.f a0 a1 a2 = some r) : Eng.Fn Go.Proofs.Tryz.prog 205 [I a0, .ag (Siii.cells a1), .ag (Siii.cells a2)] [] [] (B r) :=
  fn_fin Go.Proofs.Tryz.func205 (c := bodyOf Go.Proofs.Tryz.f205) (by kernel_rfl) (by kernel_rfl) <|
    ifE_cases h
      (fun h1 h =>
        bind_cases h fun r1 h2 h =>
        bind_cases h fun r2 h3 h =>
        bind_cases h fun r3 h4 h =>
        guardE_cases h fun h5 h =>
        leaf h fun e => by subst e; exact fin_ret Go.Proofs.Tryz.func205 mix 1000 [.br h1, .call [] (impl_mark.calls h2), .call [] (impl_mark.calls h3), .call [] (impl_power.calls h4), .nz h5] (by kernel_rfl))
      (fun h1 h =>
        leaf h fun e => by subst e; exact fin_ret Go.Proofs.Tryz.func205 mix 1000 [.br h1] (by kernel_rfl))

theorem impl_apart.calls {a0 : Int} {a1 : Siii} {a2 : Siii} {r : Bool} (h : impl_apart.f a0 a1 a2 = some r) : Eng.Fn Go.Proofs.Tryz.prog 254 [I a0, .ag (Siii.cells a1), .ag (Siii.cells a2)] [] [] (B r) :=
  fn_fin Go.Proofs.Tryz.func254 (c := bodyOf Go.Proofs.Tryz.f254) (by kernel_rfl) (by kernel_rfl) <|
    bind_cases h fun r1 h1 h =>
    ifE_cases h
      (fun h2 h =>
        bind_cases h fun r2 h3 h =>
        leaf h fun e => by subst e; exact fin_ret Go.Proofs.Tryz.func254 mix 1000 [.call [] (impl_holds.calls h1), .br h2, .call [] (impl_holds.calls h3)] (by kernel_rfl))
      (fun h2 h =>
        leaf h fun e => by subst e; exact fin_ret Go.Proofs.Tryz.func254 mix 1000 [.call [] (impl_holds.calls h1), .br h2] (by kernel_rfl))

theorem spec_l01Prime.calls {a0 : Int} {r : Bool} (h : spec_l01Prime.f a0 = some r) : Eng.Fn Go.Proofs.Tryz.prog 245 [I a0] [] [] (B r) :=
  fn_fin Go.Proofs.Tryz.func245 (c := bodyOf Go.Proofs.Tryz.f245) (by kernel_rfl) (by kernel_rfl) <|
    ifE_cases h
      (fun h1 h =>
        leaf h fun e => by subst e; exact fin_ret Go.Proofs.Tryz.func245 mix 1000 [.br h1] (by kernel_rfl))
      (fun h1 h =>
        ifE_cases h
          (fun h2 h =>
            leaf h fun e => by subst e; exact fin_ret Go.Proofs.Tryz.func245 mix 1000 [.br h1, .br h2] (by kernel_rfl))
          (fun h2 h =>
            ifE_cases h
              (fun h3 h =>
                leaf h fun e => by subst e; exact fin_ret Go.Proofs.Tryz.func245 mix 1000 [.br h1, .br h2, .br h3] (by kernel_rfl))
              (fun h3 h =>
                leaf h fun e => by subst e; exact fin_ret Go.Proofs.Tryz.func245 mix 1000 [.br h1, .br h2, .br h3] (by kernel_rfl))))

theorem spec_l01Is.calls {a0 : Int} {a1 : Siii} {r : Bool} (h : spec_l01Is.f a0 a1 = some r) : Eng.Fn Go.Proofs.Tryz.prog 217 [I a0, .ag (Siii.cells a1)] [] [] (B r) :=
  fn_fin Go.Proofs.Tryz.func217 (c := bodyOf Go.Proofs.Tryz.f217) (by kernel_rfl) (by kernel_rfl) <|
    bind_cases h fun r1 h1 h =>
    ifE_cases h
      (fun h2 h =>
        leaf h fun e => by subst e; exact fin_ret Go.Proofs.Tryz.func217 mix 1000 [.call [] (spec_l01Prime.calls h1), .br h2] (by kernel_rfl))
      (fun h2 h =>
        bind_cases h fun r2 h3 h =>
        ifE_cases h
          (fun h4 h =>
            leaf h fun e => by subst e; exact fin_ret Go.Proofs.Tryz.func217 mix 1000 [.call [] (spec_l01Prime.calls h1), .br h2, .call [] (spec_l01In.calls h3), .br h4] (by kernel_rfl))
          (fun h4 h =>
            bind_cases h fun r3 h5 h =>
            ifE_cases h
              (fun h6 h =>
                leaf h fun e => by subst e; exact fin_ret Go.Proofs.Tryz.func217 mix 1000 [.call [] (spec_l01Prime.calls h1), .br h2, .call [] (spec_l01In.calls h3), .br h4, .call [] (spec_l01In.calls h5), .br h6] (by kernel_rfl))
              (fun h6 h =>
                ifE_cases h
                  (fun h7 h =>
                    ifE_cases h
                      (fun h8 h =>
                        leaf h fun e => by subst e; exact fin_ret Go.Proofs.Tryz.func217 mix 1000 [.call [] (spec_l01Prime.calls h1), .br h2, .call [] (spec_l01In.calls h3), .br h4, .call [] (spec_l01In.calls h5), .br h6, .br h7, .br h8] (by kernel_rfl))
                      (fun h8 h =>
                        leaf h fun e => by subst e; exact fin_ret Go.Proofs.Tryz.func217 mix 1000 [.call [] (spec_l01Prime.calls h1), .br h2, .call [] (spec_l01In.calls h3), .br h4, .call [] (spec_l01In.calls h5), .br h6, .br h7, .br h8] (by kernel_rfl)))
                  (fun h7 h =>
                    bind_cases h fun r4 h9 h =>
                    bind_cases h fun r5 h10 h =>
                    ifE_cases h
                      (fun h11 h =>
                        ifE_cases h
                          (fun h12 h =>
                            leaf h fun e => by subst e; exact fin_ret Go.Proofs.Tryz.func217 mix 1000 [.call [] (spec_l01Prime.calls h1), .br h2, .call [] (spec_l01In.calls h3), .br h4, .call [] (spec_l01In.calls h5), .br h6, .br h7, .call [] (spec_l01Power.calls h9), .call [] (spec_l01In.calls h10), .br h11, .br h12] (by kernel_rfl))
                          (fun h12 h =>
                            guardE_cases h fun h13 h =>
                            leaf h fun e => by subst e; exact fin_ret Go.Proofs.Tryz.func217 mix 1000 [.call [] (spec_l01Prime.calls h1), .br h2, .call [] (spec_l01In.calls h3), .br h4, .call [] (spec_l01In.calls h5), .br h6, .br h7, .call [] (spec_l01Power.calls h9), .call [] (spec_l01In.calls h10), .br h11, .br h12, .nz h13] (by kernel_rfl)))
                      (fun h11 h =>
                        leaf h fun e => by subst e; exact fin_ret Go.Proofs.Tryz.func217 mix 1000 [.call [] (spec_l01Prime.calls h1), .br h2, .call [] (spec_l01In.calls h3), .br h4, .call [] (spec_l01In.calls h5), .br h6, .br h7, .call [] (spec_l01Power.calls h9), .call [] (spec_l01In.calls h10), .br h11] (by kernel_rfl))))))

theorem spec_l01Code.l4_ok (k : Nat) : ∀ (v0 : Int) (v1 : (List Siii)) (v5 : Int) (r : Int), (spec_l01Code.l4 k) v0 v1 v5 = some r → Eng.Fin Go.Proofs.Tryz.prog 143 [] [] (I r) (itsL 4 (bodyOf Go.Proofs.Tryz.f143)) (mkS 22 [(0, I v0), (1, R true 3 Siii.cells v1), (5, I v5)] []) := by
  induction k with
  | zero => intro v0 v1 v5 r h; exact nomatch h
  | succ k ih =>
    exact fun v0 v1 v5 r h =>
      ifE_cases h
        (fun h1 h =>
          bind_cases h fun e2 h2 h =>
          bind_cases h fun r3 h3 h =>
          ifE_cases h
            (fun h4 h =>
              leaf h fun e => by subst e; exact fin_ret Go.Proofs.Tryz.func143 mix 1000 [.unroll, .br h1, .el (getE_el Siii.cells h2), .call [] (spec_l01Is.calls h3), .br h4] (by kernel_rfl))
            (fun h4 h =>
              fin_fin Go.Proofs.Tryz.func143 mix 1000 [.unroll, .br h1, .el (getE_el Siii.cells h2), .call [] (spec_l01Is.calls h3), .br h4, .fin 100000 [0, 1, 5] [] (ih v0 v1 (W (v5 + 1)) r h)] (by kernel_rfl)))
        (fun h1 h =>
          leaf h fun e => by subst e; exact fin_ret Go.Proofs.Tryz.func143 mix 1000 [.unroll, .br h1] (by kernel_rfl))

theorem spec_l01Code.calls {a0 : Int} {a1 : (List Siii)} {r : Int} (h : spec_l01Code.f a0 a1 = some r) : Eng.Fn Go.Proofs.Tryz.prog 143 [I a0, R true 3 Siii.cells a1] [] [] (I r) :=
  fn_fin Go.Proofs.Tryz.func143 (c := bodyOf Go.Proofs.Tryz.f143) (by kernel_rfl) (by kernel_rfl) <|
    bind_cases h fun r1 h1 h =>
    ifE_cases h
      (fun h2 h =>
        leaf h fun e => by subst e; exact fin_ret Go.Proofs.Tryz.func143 mix 1000 [.call [] (spec_l01Prime.calls h1), .br h2] (by kernel_rfl))
      (fun h2 h =>
        fin_fin Go.Proofs.Tryz.func143 mix 1000 [.call [] (spec_l01Prime.calls h1), .br h2, .fin 100000 [0, 1, 5] [] (spec_l01Code.l4_ok fuelN a0 a1 0 r h)] (by kernel_rfl))

theorem spec_l01Holds.calls {a0 : Int} {a1 : Siii} {a2 : Siii} {r : Bool} (h : spec_l01Holds.f a0 a1 a2 = some r) : Eng.Fn Go.Proofs.Tryz.prog 206 [I a0, .ag (Siii.cells a1), .ag (Siii.cells a2)] [] [] (B r) :=
  fn_fin Go.Proofs.Tryz.func206 (c := bodyOf Go.Proofs.Tryz.f206) (by kernel_rfl) (by kernel_rfl) <|
    ifE_cases h
      (fun h1 h =>
        leaf h fun e => by subst e; exact fin_ret Go.Proofs.Tryz.func206 mix 1000 [.br h1] (by kernel_rfl))
      (fun h1 h =>
        bind_cases h fun r1 h2 h =>
        bind_cases h fun r2 h3 h =>
        ifE_cases h
          (fun h4 h =>
            leaf h fun e => by subst e; exact fin_ret Go.Proofs.Tryz.func206 mix 1000 [.br h1, .call [] (spec_l01Power.calls h2), .call [] (spec_l01Of.calls h3), .br h4] (by kernel_rfl))
          (fun h4 h =>
            leaf h fun e => by subst e; exact fin_ret Go.Proofs.Tryz.func206 mix 1000 [.br h1, .call [] (spec_l01Power.calls h2), .call [] (spec_l01Of.calls h3), .br h4] (by kernel_rfl)))

theorem impl_valuation.l4_ok (k : Nat) : ∀ (v0 : Int) (v1 : Int) (v5 : Int) (r : Int), (impl_valuation.l4 k) v0 v1 v5 = some r → Eng.Fin Go.Proofs.Tryz.prog 122 [] [] (I r) (itsL 4 (bodyOf Go.Proofs.Tryz.f122)) (mkS 18 [(0, I v0), (1, I v1), (5, I v5)] []) := by
  induction k with
  | zero => intro v0 v1 v5 r h; exact nomatch h
  | succ k ih =>
    exact fun v0 v1 v5 r h =>
      guardE_cases h fun h1 h =>
      ifE_cases h
        (fun h2 h =>
          guardE_cases h fun h3 h =>
          fin_fin Go.Proofs.Tryz.func122 mix 1000 [.unroll, .nz h1, .br h2, .nz h3, .fin 100000 [0, 1, 5] [] (ih v0 (W (Int.tdiv v1 v0)) (W (v5 + 1)) r h)] (by kernel_rfl))
        (fun h2 h =>
          leaf h fun e => by subst e; exact fin_ret Go.Proofs.Tryz.func122 mix 1000 [.unroll, .nz h1, .br h2] (by kernel_rfl))

theorem impl_valuation.calls {a0 : Int} {a1 : Int} {r : Int} (h : impl_valuation.f a0 a1 = some r) : Eng.Fn Go.Proofs.Tryz.prog 122 [I a0, I a1] [] [] (I r) :=
  fn_fin Go.Proofs.Tryz.func122 (c := bodyOf Go.Proofs.Tryz.f122) (by kernel_rfl) (by kernel_rfl) <|
    ifE_cases h
      (fun h1 h =>
        leaf h fun e => by subst e; exact fin_ret Go.Proofs.Tryz.func122 mix 1000 [.br h1] (by kernel_rfl))
      (fun h1 h =>
        fin_fin Go.Proofs.Tryz.func122 mix 1000 [.br h1, .fin 100000 [0, 1, 5] [] (impl_valuation.l4_ok fuelN a0 a1 0 r h)] (by kernel_rfl))

theorem impl_mod.calls {a0 : Int} {a1 : Int} {r : Int} (h : impl_mod.f a0 a1 = some r) : Eng.Fn Go.Proofs.Tryz.prog 291 [I a0, I a1] [] [] (I r) :=
  fn_fin Go.Proofs.Tryz.func291 (c := bodyOf Go.Proofs.Tryz.f291) (by kernel_rfl) (by kernel_rfl) <|
    guardE_cases h fun h1 h =>
    guardE_cases h fun h2 h =>
    leaf h fun e => by subst e; exact fin_ret Go.Proofs.Tryz.func291 mix 1000 [.nz h1, .nz h2] (by kernel_rfl)

theorem impl_ofMark.calls {a0 : Int} {a1 : Int} {a2 : Int} {r : (Siii × Bool)} (h : impl_ofMark.f a0 a1 a2 = some r) : Eng.Fn Go.Proofs.Tryz.prog 276 [I a0, I a1, I a2] [] [] (.tu [.ag (Siii.cells r.1), B r.2]) :=
  fn_fin Go.Proofs.Tryz.func276 (c := bodyOf Go.Proofs.Tryz.f276) (by kernel_rfl) (by kernel_rfl) <|
    bind_cases h fun r1 h1 h =>
    ifE_cases h
      (fun h2 h =>
        leaf h fun e => by subst e; exact fin_ret Go.Proofs.Tryz.func276 mix 1000 [.call [] (impl_isLevel.calls h1), .br h2] (by kernel_rfl))
      (fun h2 h =>
        bind_cases h fun r2 h3 h =>
        bind_cases h fun r3 h4 h =>
        bind_cases h fun r4 h5 h =>
        bind_cases h fun r5 h6 h =>
        guardE_cases h fun h7 h =>
        leaf h fun e => by subst e; exact fin_ret Go.Proofs.Tryz.func276 mix 1000 [.call [] (impl_isLevel.calls h1), .br h2, .call [] (impl_power.calls h3), .call [] (impl_mod.calls h4), .call [] (impl_valuation.calls h5), .call [] (impl_power.calls h6), .nz h7] (by kernel_rfl))

theorem math_bits_Mul64.calls {a0 : Int} {a1 : Int} {r : (Int × Int)} (h : math_bits_Mul64.f a0 a1 = some r) : Eng.Fn Go.Proofs.Tryz.prog 292 [K .u64 a0, K .u64 a1] [] [] (.tu [K .u64 r.1, K .u64 r.2]) :=
  fn_fin Go.Proofs.Tryz.func292 (c := bodyOf Go.Proofs.Tryz.f292) (by kernel_rfl) (by kernel_rfl) <|
    leaf h fun e => by subst e; exact fin_ret Go.Proofs.Tryz.func292 mix 1000 [] (by kernel_rfl)

theorem math_bits_Len64.j7_ok : ∀ (v0 : Int) (v2 : Int) (r : Int), (math_bits_Len64.j7) v0 v2 = some r → Eng.Fin Go.Proofs.Tryz.prog 304 [] [] (I r) (itsR 7 (bodyOf Go.Proofs.Tryz.f304)) (mkS 25 [(0, K .u64 v0), (2, I v2)] []) :=
  fun v0 v2 r h =>
    ifE_cases h
      (fun h1 h =>
        bind_cases h fun b1 h2 h =>
        leaf h fun e => by subst e; exact fin_ret Go.Proofs.Tryz.func304 mix 1000 [.br h1, .sx (getB_sx h2)] (by kernel_rfl))
      (fun h1 h =>
        bind_cases h fun b2 h3 h =>
        leaf h fun e => by subst e; exact fin_ret Go.Proofs.Tryz.func304 mix 1000 [.br h1, .sx (getB_sx h3)] (by kernel_rfl))

theorem math_bits_Len64.j4_ok : ∀ (v0 : Int) (v2 : Int) (r : Int), (math_bits_Len64.j4) v0 v2 = some r → Eng.Fin Go.Proofs.Tryz.prog 304 [] [] (I r) (itsR 4 (bodyOf Go.Proofs.Tryz.f304)) (mkS 25 [(0, K .u64 v0), (2, I v2)] []) :=
  fun v0 v2 r h =>
    ifE_cases h
      (fun h1 h =>
        fin_fin Go.Proofs.Tryz.func304 mix 1000 [.br h1, .fin 7 [0, 2] [] (math_bits_Len64.j7_ok (Int.fdiv v0 (2 ^ 16)) (W (v2 + 16)) r h)] (by kernel_rfl))
      (fun h1 h =>
        fin_fin Go.Proofs.Tryz.func304 mix 1000 [.br h1, .fin 7 [0, 2] [] (math_bits_Len64.j7_ok v0 v2 r h)] (by kernel_rfl))

theorem math_bits_Len64.calls {a0 : Int} {r : Int} (h : math_bits_Len64.f a0 = some r) : Eng.Fn Go.Proofs.Tryz.prog 304 [K .u64 a0] [] [] (I r) :=
  fn_fin Go.Proofs.Tryz.func304 (c := bodyOf Go.Proofs.Tryz.f304) (by kernel_rfl) (by kernel_rfl) <|
    ifE_cases h
      (fun h1 h =>
        fin_fin Go.Proofs.Tryz.func304 mix 1000 [.br h1, .fin 4 [0, 2] [] (math_bits_Len64.j4_ok (Int.fdiv a0 (2 ^ 32)) 32 r h)] (by kernel_rfl))
      (fun h1 h =>
        fin_fin Go.Proofs.Tryz.func304 mix 1000 [.br h1, .fin 4 [0, 2] [] (math_bits_Len64.j4_ok a0 0 r h)] (by kernel_rfl))

theorem math_bits_LeadingZeros64.calls {a0 : Int} {r : Int} (h : math_bits_LeadingZeros64.f a0 = some r) : Eng.Fn Go.Proofs.Tryz.prog 305 [K .u64 a0] [] [] (I r) :=
  fn_fin Go.Proofs.Tryz.func305 (c := bodyOf Go.Proofs.Tryz.f305) (by kernel_rfl) (by kernel_rfl) <|
    bind_cases h fun r1 h1 h =>
    leaf h fun e => by subst e; exact fin_ret Go.Proofs.Tryz.func305 mix 1000 [.call [] (math_bits_Len64.calls h1)] (by kernel_rfl)

theorem math_bits_Div64.j25_ok (rec24 : Int → Int → Int → Int → Int → Int → Int → Int → Int → Option (Int × Int)) (rec24H : ∀ (v2 : Int) (v8 : Int) (v9 : Int) (v10 : Int) (v14 : Int) (v15 : Int) (v16 : Int) (v17 : Int) (v18 : Int) (r : (Int × Int)), rec24 v2 v8 v9 v10 v14 v15 v16 v17 v18 = some r → Eng.Fin Go.Proofs.Tryz.prog 293 [] [] (.tu [K .u64 r.1, K .u64 r.2]) (itsL 24 (bodyOf Go.Proofs.Tryz.f293)) (mkS 135 [(2, K .u64 v2), (8, K .u64 v8), (9, K .u64 v9), (10, K .u64 v10), (14, K .u64 v14), (15, K .u64 v15), (16, K .u64 v16), (17, K .u64 v17), (18, K .u64 v18)] [])) : ∀ (v2 : Int) (v8 : Int) (v9 : Int) (v10 : Int) (v14 : Int) (v15 : Int) (v16 : Int) (v17 : Int) (v18 : Int) (r : (Int × Int)), (math_bits_Div64.j25 rec24) v2 v8 v9 v10 v14 v15 v16 v17 v18 = some r → Eng.Fin Go.Proofs.Tryz.prog 293 [] [] (.tu [K .u64 r.1, K .u64 r.2]) (itsR 25 (bodyOf Go.Proofs.Tryz.f293)) (mkS 135 [(2, K .u64 v2), (8, K .u64 v8), (9, K .u64 v9), (10, K .u64 v10), (14, K .u64 v14), (15, K .u64 v15), (16, K .u64 v16), (17, K .u64 v17), (18, K .u64 v18)] []) :=
  fun v2 v8 v9 v10 v14 v15 v16 v17 v18 r h =>
    ifE_cases h
      (fun h1 h =>
        guardE_cases h fun h2 h =>
        leaf h fun e => by subst e; exact fin_ret Go.Proofs.Tryz.func293 mix 1000 [.br h1, .ib h2] (by kernel_rfl))
      (fun h1 h =>
        fin_fin Go.Proofs.Tryz.func293 mix 1000 [.br h1, .fin 100000 [2, 8, 9, 10, 14, 15, 16, 17, 18] [] (rec24H v2 v8 v9 v10 v14 v15 (IntKind.wrap .u64 (v16 + v9)) v17 (IntKind.wrap .u64 (v18 - 1)) r h)] (by kernel_rfl))

theorem math_bits_Div64.l24_ok (k : Nat) : ∀ (v2 : Int) (v8 : Int) (v9 : Int) (v10 : Int) (v14 : Int) (v15 : Int) (v16 : Int) (v17 : Int) (v18 : Int) (r : (Int × Int)), (math_bits_Div64.l24 k) v2 v8 v9 v10 v14 v15 v16 v17 v18 = some r → Eng.Fin Go.Proofs.Tryz.prog 293 [] [] (.tu [K .u64 r.1, K .u64 r.2]) (itsL 24 (bodyOf Go.Proofs.Tryz.f293)) (mkS 135 [(2, K .u64 v2), (8, K .u64 v8), (9, K .u64 v9), (10, K .u64 v10), (14, K .u64 v14), (15, K .u64 v15), (16, K .u64 v16), (17, K .u64 v17), (18, K .u64 v18)] []) := by
  induction k with
  | zero => intro v2 v8 v9 v10 v14 v15 v16 v17 v18 r h; exact nomatch h
  | succ k ih =>
    exact fun v2 v8 v9 v10 v14 v15 v16 v17 v18 r h =>
      ifE_cases h
        (fun h1 h =>
          fin_fin Go.Proofs.Tryz.func293 mix 1000 [.unroll, .br h1, .fin 25 [2, 8, 9, 10, 14, 15, 16, 17, 18] [] (math_bits_Div64.j25_ok (math_bits_Div64.l24 k) ih v2 v8 v9 v10 v14 v15 v16 v17 v18 r h)] (by kernel_rfl))
        (fun h1 h =>
          ifE_cases h
            (fun h2 h =>
              fin_fin Go.Proofs.Tryz.func293 mix 1000 [.unroll, .br h1, .br h2, .fin 25 [2, 8, 9, 10, 14, 15, 16, 17, 18] [] (math_bits_Div64.j25_ok (math_bits_Div64.l24 k) ih v2 v8 v9 v10 v14 v15 v16 v17 v18 r h)] (by kernel_rfl))
            (fun h2 h =>
              guardE_cases h fun h3 h =>
              leaf h fun e => by subst e; exact fin_ret Go.Proofs.Tryz.func293 mix 1000 [.unroll, .br h1, .br h2, .ib h3] (by kernel_rfl)))

theorem math_bits_Div64.j18_ok (rec17 : Int → Int → Int → Int → Int → Int → Int → Int → Int → Option (Int × Int)) (rec17H : ∀ (v2 : Int) (v8 : Int) (v9 : Int) (v10 : Int) (v11 : Int) (v13 : Int) (v14 : Int) (v15 : Int) (v16 : Int) (r : (Int × Int)), rec17 v2 v8 v9 v10 v11 v13 v14 v15 v16 = some r → Eng.Fin Go.Proofs.Tryz.prog 293 [] [] (.tu [K .u64 r.1, K .u64 r.2]) (itsL 17 (bodyOf Go.Proofs.Tryz.f293)) (mkS 135 [(2, K .u64 v2), (8, K .u64 v8), (9, K .u64 v9), (10, K .u64 v10), (11, K .u64 v11), (13, K .u64 v13), (14, K .u64 v14), (15, K .u64 v15), (16, K .u64 v16)] [])) : ∀ (v2 : Int) (v8 : Int) (v9 : Int) (v10 : Int) (v11 : Int) (v13 : Int) (v14 : Int) (v15 : Int) (v16 : Int) (r : (Int × Int)), (math_bits_Div64.j18 rec17) v2 v8 v9 v10 v11 v13 v14 v15 v16 = some r → Eng.Fin Go.Proofs.Tryz.prog 293 [] [] (.tu [K .u64 r.1, K .u64 r.2]) (itsR 18 (bodyOf Go.Proofs.Tryz.f293)) (mkS 135 [(2, K .u64 v2), (8, K .u64 v8), (9, K .u64 v9), (10, K .u64 v10), (11, K .u64 v11), (13, K .u64 v13), (14, K .u64 v14), (15, K .u64 v15), (16, K .u64 v16)] []) :=
  fun v2 v8 v9 v10 v11 v13 v14 v15 v16 r h =>
    ifE_cases h
      (fun h1 h =>
        guardE_cases h fun h2 h =>
        fin_fin Go.Proofs.Tryz.func293 mix 1000 [.br h1, .nz h2, .fin 100000 [2, 8, 9, 10, 14, 15, 16, 17, 18] [] (math_bits_Div64.l24_ok fuelN v2 v8 v9 v10 v14 (IntKind.wrap .u64 (v15 - 1)) (IntKind.wrap .u64 ((IntKind.wrap .u64 ((IntKind.wrap .u64 ((IntKind.wrap .u64 (v11 * 4294967296)) + v13)) - (IntKind.wrap .u64 ((IntKind.wrap .u64 (v15 - 1)) * v2)))) - (IntKind.wrap .u64 ((IntKind.wrap .u64 (Int.tdiv (IntKind.wrap .u64 ((IntKind.wrap .u64 ((IntKind.wrap .u64 (v11 * 4294967296)) + v13)) - (IntKind.wrap .u64 ((IntKind.wrap .u64 (v15 - 1)) * v2)))) v9)) * v9)))) (IntKind.wrap .u64 ((IntKind.wrap .u64 ((IntKind.wrap .u64 (v11 * 4294967296)) + v13)) - (IntKind.wrap .u64 ((IntKind.wrap .u64 (v15 - 1)) * v2)))) (IntKind.wrap .u64 (Int.tdiv (IntKind.wrap .u64 ((IntKind.wrap .u64 ((IntKind.wrap .u64 (v11 * 4294967296)) + v13)) - (IntKind.wrap .u64 ((IntKind.wrap .u64 (v15 - 1)) * v2)))) v9)) r h)] (by kernel_rfl))
      (fun h1 h =>
        fin_fin Go.Proofs.Tryz.func293 mix 1000 [.br h1, .fin 100000 [2, 8, 9, 10, 11, 13, 14, 15, 16] [] (rec17H v2 v8 v9 v10 v11 v13 v14 (IntKind.wrap .u64 (v15 - 1)) (IntKind.wrap .u64 (v16 + v9)) r h)] (by kernel_rfl))

theorem math_bits_Div64.l17_ok (k : Nat) : ∀ (v2 : Int) (v8 : Int) (v9 : Int) (v10 : Int) (v11 : Int) (v13 : Int) (v14 : Int) (v15 : Int) (v16 : Int) (r : (Int × Int)), (math_bits_Div64.l17 k) v2 v8 v9 v10 v11 v13 v14 v15 v16 = some r → Eng.Fin Go.Proofs.Tryz.prog 293 [] [] (.tu [K .u64 r.1, K .u64 r.2]) (itsL 17 (bodyOf Go.Proofs.Tryz.f293)) (mkS 135 [(2, K .u64 v2), (8, K .u64 v8), (9, K .u64 v9), (10, K .u64 v10), (11, K .u64 v11), (13, K .u64 v13), (14, K .u64 v14), (15, K .u64 v15), (16, K .u64 v16)] []) := by
  induction k with
  | zero => intro v2 v8 v9 v10 v11 v13 v14 v15 v16 r h; exact nomatch h
  | succ k ih =>
    exact fun v2 v8 v9 v10 v11 v13 v14 v15 v16 r h =>
      ifE_cases h
        (fun h1 h =>
          fin_fin Go.Proofs.Tryz.func293 mix 1000 [.unroll, .br h1, .fin 18 [2, 8, 9, 10, 11, 13, 14, 15, 16] [] (math_bits_Div64.j18_ok (math_bits_Div64.l17 k) ih v2 v8 v9 v10 v11 v13 v14 v15 v16 r h)] (by kernel_rfl))
        (fun h1 h =>
          ifE_cases h
            (fun h2 h =>
              fin_fin Go.Proofs.Tryz.func293 mix 1000 [.unroll, .br h1, .br h2, .fin 18 [2, 8, 9, 10, 11, 13, 14, 15, 16] [] (math_bits_Div64.j18_ok (math_bits_Div64.l17 k) ih v2 v8 v9 v10 v11 v13 v14 v15 v16 r h)] (by kernel_rfl))
            (fun h2 h =>
              guardE_cases h fun h3 h =>
              fin_fin Go.Proofs.Tryz.func293 mix 1000 [.unroll, .br h1, .br h2, .nz h3, .fin 100000 [2, 8, 9, 10, 14, 15, 16, 17, 18] [] (math_bits_Div64.l24_ok fuelN v2 v8 v9 v10 v14 v15 (IntKind.wrap .u64 ((IntKind.wrap .u64 ((IntKind.wrap .u64 ((IntKind.wrap .u64 (v11 * 4294967296)) + v13)) - (IntKind.wrap .u64 (v15 * v2)))) - (IntKind.wrap .u64 ((IntKind.wrap .u64 (Int.tdiv (IntKind.wrap .u64 ((IntKind.wrap .u64 ((IntKind.wrap .u64 (v11 * 4294967296)) + v13)) - (IntKind.wrap .u64 (v15 * v2)))) v9)) * v9)))) (IntKind.wrap .u64 ((IntKind.wrap .u64 ((IntKind.wrap .u64 (v11 * 4294967296)) + v13)) - (IntKind.wrap .u64 (v15 * v2)))) (IntKind.wrap .u64 (Int.tdiv (IntKind.wrap .u64 ((IntKind.wrap .u64 ((IntKind.wrap .u64 (v11 * 4294967296)) + v13)) - (IntKind.wrap .u64 (v15 * v2)))) v9)) r h)] (by kernel_rfl)))

theorem math_bits_Div64.calls {a0 : Int} {a1 : Int} {a2 : Int} {r : (Int × Int)} (h : math_bits_Div64.f a0 a1 a2 = some r) : Eng.Fn Go.Proofs.Tryz.prog 293 [K .u64 a0, K .u64 a1, K .u64 a2] [] [] (.tu [K .u64 r.1, K .u64 r.2]) :=
  fn_fin Go.Proofs.Tryz.func293 (c := bodyOf Go.Proofs.Tryz.f293) (by kernel_rfl) (by kernel_rfl) <|
    ifE_cases h
      (fun h1 h =>
        nomatch h)
      (fun h1 h =>
        ifE_cases h
          (fun h2 h =>
            nomatch h)
          (fun h2 h =>
            ifE_cases h
              (fun h3 h =>
                guardE_cases h fun h4 h =>
                guardE_cases h fun h5 h =>
                leaf h fun e => by subst e; exact fin_ret Go.Proofs.Tryz.func293 mix 1000 [.br h1, .br h2, .br h3, .nz h4, .nz h5] (by kernel_rfl))
              (fun h3 h =>
                bind_cases h fun r1 h6 h =>
                guardE_cases h fun h7 h =>
                guardE_cases h fun h8 h =>
                guardE_cases h fun h9 h =>
                guardE_cases h fun h10 h =>
                guardE_cases h fun h11 h =>
                fin_fin Go.Proofs.Tryz.func293 mix 1000 [.br h1, .br h2, .br h3, .call [] (math_bits_LeadingZeros64.calls h6), .ib h7, .ib h8, .ib h9, .ib h10, .nz h11, .fin 100000 [2, 8, 9, 10, 11, 13, 14, 15, 16] [] (math_bits_Div64.l17_ok fuelN (IntKind.wrap .u64 (a2 * 2 ^ (Int.toNat (IntKind.wrap .u64 (r1))))) (IntKind.wrap .u64 (r1)) (Int.fdiv (IntKind.wrap .u64 (a2 * 2 ^ (Int.toNat (IntKind.wrap .u64 (r1))))) (2 ^ 32)) (IntKind.wrap .u64 ((((BitVec.ofInt 64 (IntKind.wrap .u64 (a2 * 2 ^ (Int.toNat (IntKind.wrap .u64 (r1)))))) &&& (BitVec.ofInt 64 4294967295)).toNat : Int))) (IntKind.wrap .u64 ((((BitVec.ofInt 64 (IntKind.wrap .u64 (a0 * 2 ^ (Int.toNat (IntKind.wrap .u64 (r1)))))) ||| (BitVec.ofInt 64 (Int.fdiv a1 (2 ^ (Int.toNat (IntKind.wrap .u64 (64 - (IntKind.wrap .u64 (r1))))))))).toNat : Int))) (Int.fdiv (IntKind.wrap .u64 (a1 * 2 ^ (Int.toNat (IntKind.wrap .u64 (r1))))) (2 ^ 32)) (IntKind.wrap .u64 ((((BitVec.ofInt 64 (IntKind.wrap .u64 (a1 * 2 ^ (Int.toNat (IntKind.wrap .u64 (r1)))))) &&& (BitVec.ofInt 64 4294967295)).toNat : Int))) (IntKind.wrap .u64 (Int.tdiv (IntKind.wrap .u64 ((((BitVec.ofInt 64 (IntKind.wrap .u64 (a0 * 2 ^ (Int.toNat (IntKind.wrap .u64 (r1)))))) ||| (BitVec.ofInt 64 (Int.fdiv a1 (2 ^ (Int.toNat (IntKind.wrap .u64 (64 - (IntKind.wrap .u64 (r1))))))))).toNat : Int))) (Int.fdiv (IntKind.wrap .u64 (a2 * 2 ^ (Int.toNat (IntKind.wrap .u64 (r1))))) (2 ^ 32)))) (IntKind.wrap .u64 ((IntKind.wrap .u64 ((((BitVec.ofInt 64 (IntKind.wrap .u64 (a0 * 2 ^ (Int.toNat (IntKind.wrap .u64 (r1)))))) ||| (BitVec.ofInt 64 (Int.fdiv a1 (2 ^ (Int.toNat (IntKind.wrap .u64 (64 - (IntKind.wrap .u64 (r1))))))))).toNat : Int))) - (IntKind.wrap .u64 ((IntKind.wrap .u64 (Int.tdiv (IntKind.wrap .u64 ((((BitVec.ofInt 64 (IntKind.wrap .u64 (a0 * 2 ^ (Int.toNat (IntKind.wrap .u64 (r1)))))) ||| (BitVec.ofInt 64 (Int.fdiv a1 (2 ^ (Int.toNat (IntKind.wrap .u64 (64 - (IntKind.wrap .u64 (r1))))))))).toNat : Int))) (Int.fdiv (IntKind.wrap .u64 (a2 * 2 ^ (Int.toNat (IntKind.wrap .u64 (r1))))) (2 ^ 32)))) * (Int.fdiv (IntKind.wrap .u64 (a2 * 2 ^ (Int.toNat (IntKind.wrap .u64 (r1))))) (2 ^ 32)))))) r h)] (by kernel_rfl))))

theorem impl_times.calls {a0 : Int} {a1 : Int} {a2 : Int} {r : Int} (h : impl_times.f a0 a1 a2 = some r) : Eng.Fn Go.Proofs.Tryz.prog 278 [I a0, I a1, I a2] [] [] (I r) :=
  fn_fin Go.Proofs.Tryz.func278 (c := bodyOf Go.Proofs.Tryz.f278) (by kernel_rfl) (by kernel_rfl) <|
    bind_cases h fun r1 h1 h =>
    bind_cases h fun r2 h2 h =>
    bind_cases h fun r3 h3 h =>
    guardE_cases h fun h4 h =>
    bind_cases h fun r4 h5 h =>
    leaf h fun e => by subst e; exact fin_ret Go.Proofs.Tryz.func278 mix 1000 [.call [] (impl_mod.calls h1), .call [] (impl_mod.calls h2), .call [] (math_bits_Mul64.calls h3), .nz h4, .call [] (math_bits_Div64.calls h5)] (by kernel_rfl)

theorem impl_unit.calls {a0 : Int} {a1 : Int} {r : Int} (h : impl_unit.f a0 a1 = some r) : Eng.Fn Go.Proofs.Tryz.prog 279 [I a0, I a1] [] [] (I r) :=
  fn_fin Go.Proofs.Tryz.func279 (c := bodyOf Go.Proofs.Tryz.f279) (by kernel_rfl) (by kernel_rfl) <|
    bind_cases h fun r1 h1 h =>
    bind_cases h fun r2 h2 h =>
    guardE_cases h fun h3 h =>
    leaf h fun e => by subst e; exact fin_ret Go.Proofs.Tryz.func279 mix 1000 [.call [] (impl_valuation.calls h1), .call [] (impl_power.calls h2), .nz h3] (by kernel_rfl)

theorem impl_inverse.l2_ok (k : Nat) : ∀ (v1 : Int) (v5 : Int) (v6 : Int) (v7 : Int) (v8 : Int) (r : Int), (impl_inverse.l2 k) v1 v5 v6 v7 v8 = some r → Eng.Fin Go.Proofs.Tryz.prog 280 [] [] (I r) (itsL 2 (bodyOf Go.Proofs.Tryz.f280)) (mkS 34 [(1, I v1), (5, I v5), (6, I v6), (7, I v7), (8, I v8)] []) := by
  induction k with
  | zero => intro v1 v5 v6 v7 v8 r h; exact nomatch h
  | succ k ih =>
    exact fun v1 v5 v6 v7 v8 r h =>
      ifE_cases h
        (fun h1 h =>
          guardE_cases h fun h2 h =>
          fin_fin Go.Proofs.Tryz.func280 mix 1000 [.unroll, .br h1, .nz h2, .fin 100000 [1, 5, 6, 7, 8] [] (ih v1 v6 (W (v5 - (W ((W (Int.tdiv v5 v6)) * v6)))) v8 (W (v7 - (W ((W (Int.tdiv v5 v6)) * v8)))) r h)] (by kernel_rfl))
        (fun h1 h =>
          bind_cases h fun r2 h3 h =>
          leaf h fun e => by subst e; exact fin_ret Go.Proofs.Tryz.func280 mix 1000 [.unroll, .br h1, .call [] (impl_mod.calls h3)] (by kernel_rfl))

theorem impl_inverse.calls {a0 : Int} {a1 : Int} {r : Int} (h : impl_inverse.f a0 a1 = some r) : Eng.Fn Go.Proofs.Tryz.prog 280 [I a0, I a1] [] [] (I r) :=
  fn_fin Go.Proofs.Tryz.func280 (c := bodyOf Go.Proofs.Tryz.f280) (by kernel_rfl) (by kernel_rfl) <|
    bind_cases h fun r1 h1 h =>
    fin_fin Go.Proofs.Tryz.func280 mix 1000 [.call [] (impl_mod.calls h1), .fin 100000 [1, 5, 6, 7, 8] [] (impl_inverse.l2_ok fuelN a1 r1 a1 1 0 r h)] (by kernel_rfl)

theorem impl_ballAt.calls {a0 : Int} {a1 : Int} {a2 : Int} {a3 : Int} {r : (Siii × Bool)} (h : impl_ballAt.f a0 a1 a2 a3 = some r) : Eng.Fn Go.Proofs.Tryz.prog 232 [I a0, I a1, I a2, I a3] [] [] (.tu [.ag (Siii.cells r.1), B r.2]) :=
  fn_fin Go.Proofs.Tryz.func232 (c := bodyOf Go.Proofs.Tryz.f232) (by kernel_rfl) (by kernel_rfl) <|
    bind_cases h fun r1 h1 h =>
    ifE_cases h
      (fun h2 h =>
        leaf h fun e => by subst e; exact fin_ret Go.Proofs.Tryz.func232 mix 1000 [.call [] (impl_isLevel.calls h1), .br h2] (by kernel_rfl))
      (fun h2 h =>
        bind_cases h fun r2 h3 h =>
        bind_cases h fun r3 h4 h =>
        ifE_cases h
          (fun h5 h =>
            leaf h fun e => by subst e; exact fin_ret Go.Proofs.Tryz.func232 mix 1000 [.call [] (impl_isLevel.calls h1), .br h2, .call [] (impl_valuation.calls h3), .call [] (impl_valuation.calls h4), .br h5] (by kernel_rfl))
          (fun h5 h =>
            ifE_cases h
              (fun h6 h =>
                leaf h fun e => by subst e; exact fin_ret Go.Proofs.Tryz.func232 mix 1000 [.call [] (impl_isLevel.calls h1), .br h2, .call [] (impl_valuation.calls h3), .call [] (impl_valuation.calls h4), .br h5, .br h6] (by kernel_rfl))
              (fun h6 h =>
                ifE_cases h
                  (fun h7 h =>
                    leaf h fun e => by subst e; exact fin_ret Go.Proofs.Tryz.func232 mix 1000 [.call [] (impl_isLevel.calls h1), .br h2, .call [] (impl_valuation.calls h3), .call [] (impl_valuation.calls h4), .br h5, .br h6, .br h7] (by kernel_rfl))
                  (fun h7 h =>
                    bind_cases h fun r4 h8 h =>
                    bind_cases h fun r5 h9 h =>
                    bind_cases h fun r6 h10 h =>
                    bind_cases h fun r7 h11 h =>
                    bind_cases h fun r8 h12 h =>
                    bind_cases h fun r9 h13 h =>
                    bind_cases h fun r10 h14 h =>
                    bind_cases h fun r11 h15 h =>
                    leaf h fun e => by subst e; exact fin_ret Go.Proofs.Tryz.func232 mix 1000 [.call [] (impl_isLevel.calls h1), .br h2, .call [] (impl_valuation.calls h3), .call [] (impl_valuation.calls h4), .br h5, .br h6, .br h7, .call [] (impl_power.calls h8), .call [] (impl_unit.calls h9), .call [] (impl_unit.calls h10), .call [] (impl_inverse.calls h11), .call [] (impl_times.calls h12), .call [] (impl_power.calls h13), .call [] (impl_times.calls h14), .call [] (impl_ofMark.calls h15)] (by kernel_rfl)))))

end Go.CTryz
end
