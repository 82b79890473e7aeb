import Derived.Test.YtdfepbmcglnhcaaSdF
import Derived.Test.YtdfepbmcglnhcaaSdCA
set_option linter.unusedVariables false
set_option maxRecDepth 100000
open Go Go.Eng
namespace Go.CTry
open Go.Gn
theorem spec_l01Bad.calls {a0 : SLu8eiu64} {a1 : Siii} {r : (Siii × SLu8eiu64)} (h : spec_l01Bad.f a0 a1 = some r) : Eng.Fn Go.Proofs.Try.prog 149 [.bx 2000 0, .ag (Siii.cells a1)] [(2000, .box [R true 1 (cK .u8) a0.c0, I a0.c1, K .u64 a0.c2])] [(2000, .box (SLu8eiu64.cells r.2))] (.ag (Siii.cells r.1)) :=
  fn_fin Go.Proofs.Try.func149 (c := bodyOf Go.Proofs.Try.f149) (by kernel_rfl) (by kernel_rfl) <|
    bind_cases h fun r1 h1 h =>
    ifE_cases h
      (fun h2 h =>
        bind_cases h fun r2 h3 h =>
        leaf h fun e => by subst e; exact fin_ret Go.Proofs.Try.func149 mix 1000 [.call [(2000, 2000)] (spec_l01Next.calls h1), .br h2, .call [(2000, 2000)] (spec_l01Pick.calls h3)] (by kernel_rfl))
      (fun h2 h =>
        ifE_cases h
          (fun h4 h =>
            bind_cases h fun r3 h5 h =>
            leaf h fun e => by subst e; exact fin_ret Go.Proofs.Try.func149 mix 1000 [.call [(2000, 2000)] (spec_l01Next.calls h1), .br h2, .br h4, .call [(2000, 2000)] (spec_l01Pick.calls h5)] (by kernel_rfl))
          (fun h4 h =>
            ifE_cases h
              (fun h6 h =>
                bind_cases h fun r4 h7 h =>
                leaf h fun e => by subst e; exact fin_ret Go.Proofs.Try.func149 mix 1000 [.call [(2000, 2000)] (spec_l01Next.calls h1), .br h2, .br h4, .br h6, .call [(2000, 2000)] (spec_l01Pick.calls h7)] (by kernel_rfl))
              (fun h6 h =>
                leaf h fun e => by subst e; exact fin_ret Go.Proofs.Try.func149 mix 1000 [.call [(2000, 2000)] (spec_l01Next.calls h1), .br h2, .br h4, .br h6] (by kernel_rfl))))

theorem spec_l01Draw.calls {a0 : SLu8eiu64} {a1 : Int} {r : (Siii × SLu8eiu64)} (h : spec_l01Draw.f a0 a1 = some r) : Eng.Fn Go.Proofs.Try.prog 150 [.bx 2000 0, I a1] [(2000, .box [R true 1 (cK .u8) a0.c0, I a0.c1, K .u64 a0.c2])] [(2000, .box (SLu8eiu64.cells r.2))] (.ag (Siii.cells r.1)) :=
  fn_fin Go.Proofs.Try.func150 (c := bodyOf Go.Proofs.Try.f150) (by kernel_rfl) (by kernel_rfl) <|
    bind_cases h fun r1 h1 h =>
    bind_cases h fun r2 h2 h =>
    bind_cases h fun r3 h3 h =>
    ifE_cases h
      (fun h4 h =>
        leaf h fun e => by subst e; exact fin_ret Go.Proofs.Try.func150 mix 1000 [.call [(2000, 2000)] (spec_l01Next.calls h1), .call [(2000, 2000)] (spec_l01Pick.calls h2), .call [(2000, 2000)] (spec_l01Next.calls h3), .br h4] (by kernel_rfl))
      (fun h4 h =>
        bind_cases h fun r4 h5 h =>
        bind_cases h fun r5 h6 h =>
        bind_cases h fun r6 h7 h =>
        bind_cases h fun r7 h8 h =>
        bind_cases h fun r8 h9 h =>
        bind_cases h fun r9 h10 h =>
        bind_cases h fun r10 h11 h =>
        ifE_cases h
          (fun h12 h =>
            leaf h fun e => by subst e; exact fin_ret Go.Proofs.Try.func150 mix 1000 [.call [(2000, 2000)] (spec_l01Next.calls h1), .call [(2000, 2000)] (spec_l01Pick.calls h2), .call [(2000, 2000)] (spec_l01Next.calls h3), .br h4, .call [(2000, 2000)] (spec_l01Next.calls h5), .call [(2000, 2000)] (spec_l01Next.calls h6), .call [(2000, 2000)] (spec_l01Pick.calls h7), .call [(2000, 2000)] (spec_l01Next.calls h8), .call [(2000, 2000)] (spec_l01Pick.calls h9), .call [] (spec_l01Power.calls h10), .call [] (spec_l01Of.calls h11), .br h12] (by kernel_rfl))
          (fun h12 h =>
            leaf h fun e => by subst e; exact fin_ret Go.Proofs.Try.func150 mix 1000 [.call [(2000, 2000)] (spec_l01Next.calls h1), .call [(2000, 2000)] (spec_l01Pick.calls h2), .call [(2000, 2000)] (spec_l01Next.calls h3), .br h4, .call [(2000, 2000)] (spec_l01Next.calls h5), .call [(2000, 2000)] (spec_l01Next.calls h6), .call [(2000, 2000)] (spec_l01Pick.calls h7), .call [(2000, 2000)] (spec_l01Next.calls h8), .call [(2000, 2000)] (spec_l01Pick.calls h9), .call [] (spec_l01Power.calls h10), .call [] (spec_l01Of.calls h11), .br h12] (by kernel_rfl)))

theorem spec_l09Side.calls {a0 : SLu8eiu64} {a1 : Int} {r : (Siiib × SLu8eiu64)} (h : spec_l09Side.f a0 a1 = some r) : Eng.Fn Go.Proofs.Try.prog 90 [.bx 2000 0, I a1] [(2000, .box [R true 1 (cK .u8) a0.c0, I a0.c1, K .u64 a0.c2])] [(2000, .box (SLu8eiu64.cells r.2))] (.ag (Siiib.cells r.1)) :=
  fn_fin Go.Proofs.Try.func90 (c := bodyOf Go.Proofs.Try.f90) (by kernel_rfl) (by kernel_rfl) <|
    bind_cases h fun r1 h1 h =>
    bind_cases h fun r2 h2 h =>
    bind_cases h fun r3 h3 h =>
    leaf h fun e => by subst e; exact fin_ret Go.Proofs.Try.func90 mix 1000 [.call [(2000, 2000)] (spec_l01Draw.calls h1), .call [(2000, 2000)] (spec_l01Bad.calls h2), .call [(2000, 2000)] (spec_l01Next.calls h3)] (by kernel_rfl)

theorem spec_DrawMoveSide.calls {a0 : (List Int)} {r : (Int × Siiii × Siiib)} (h : spec_DrawMoveSide.f a0 = some r) : Eng.Fn Go.Proofs.Try.prog 36 [R true 1 (cK .u8) a0] [] [] (.tu [I r.1, .ag (Siiii.cells r.2.1), .ag (Siiib.cells r.2.2)]) :=
  fn_fin Go.Proofs.Try.func36 (c := bodyOf Go.Proofs.Try.f36) (by kernel_rfl) (by kernel_rfl) <|
    bind_cases h fun r1 h1 h =>
    bind_cases h fun r2 h2 h =>
    bind_cases h fun r3 h3 h =>
    bind_cases h fun r4 h4 h =>
    leaf h fun e => by subst e; exact fin_ret Go.Proofs.Try.func36 mix 1000 [.call [(8, 11)] (spec_l01From.calls h1), .call [(8, 2000)] (spec_l01Pick.calls h2), .call [(8, 2000)] (spec_l04Draw.calls h3), .call [(8, 2000)] (spec_l09Side.calls h4)] (by kernel_rfl)

theorem impl_areSides.l2_ok (k : Nat) : ∀ (v0 : Int) (v7 : (List Siiib)) (v8 : Int) (v9 : Int) (r : Bool), (impl_areSides.l2 k) v0 v7 v8 v9 = some r → Eng.Fin Go.Proofs.Try.prog 91 [] [] (B r) (itsL 2 (bodyOf Go.Proofs.Try.f91)) (mkS 21 [(0, I v0), (7, R true 4 Siiib.cells v7), (8, I v8), (9, I v9)] []) := by
  induction k with
  | zero => intro v0 v7 v8 v9 r h; exact nomatch h
  | succ k ih =>
    exact fun v0 v7 v8 v9 r h =>
      ifE_cases h
        (fun h1 h =>
          bind_cases h fun e1 h2 h =>
          bind_cases h fun r2 h3 h =>
          ifE_cases h
            (fun h4 h =>
              leaf h fun e => by subst e; exact fin_ret Go.Proofs.Try.func91 mix 1000 [.unroll, .br h1, .el (getE_el Siiib.cells h2), .call [] (impl_IsBall.calls h3), .br h4] (by kernel_rfl))
            (fun h4 h =>
              fin_fin Go.Proofs.Try.func91 mix 1000 [.unroll, .br h1, .el (getE_el Siiib.cells h2), .call [] (impl_IsBall.calls h3), .br h4, .fin 100000 [0, 7, 8, 9] [] (ih v0 v7 v8 (W (v9 + 1)) r h)] (by kernel_rfl)))
        (fun h1 h =>
          bind_cases h fun r3 h5 h =>
          leaf h fun e => by subst e; exact fin_ret Go.Proofs.Try.func91 mix 1000 [.unroll, .br h1, .call [] (impl_isPrime.calls h5)] (by kernel_rfl))

theorem impl_areSides.calls {a0 : Int} {a1 : (List Siiib)} {r : Bool} (h : impl_areSides.f a0 a1 = some r) : Eng.Fn Go.Proofs.Try.prog 91 [I a0, R true 4 Siiib.cells a1] [] [] (B r) :=
  fn_fin Go.Proofs.Try.func91 (c := bodyOf Go.Proofs.Try.f91) (by kernel_rfl) (by kernel_rfl) <|
    fin_fin Go.Proofs.Try.func91 mix 1000 [.fin 100000 [0, 7, 8, 9] [] (impl_areSides.l2_ok fuelN a0 a1 (a1.length : Int) 0 r h)] (by kernel_rfl)

theorem impl_moveSide.j8_ok : ∀ (v0 : Int) (v10 : Int) (v11 : Int) (v12 : Int) (o5_0 : Int) (o5_1 : Int) (o5_2 : Int) (o5_3 : Bool) (o6_0 : Int) (o6_1 : Int) (o6_2 : Int) (o6_3 : Bool) (r : (Siiib × Bool)), (impl_moveSide.j8) v0 v10 v11 v12 o5_0 o5_1 o5_2 o5_3 o6_0 o6_1 o6_2 o6_3 = some r → Eng.Fin Go.Proofs.Try.prog 92 [] [] (.tu [.ag (Siiib.cells r.1), B r.2]) (itsR 8 (bodyOf Go.Proofs.Try.f92)) (mkS 120 [(0, I v0), (5, .bx 5 0), (6, .bx 6 0), (10, I v10), (11, I v11), (12, I v12)] [(5, .box [I o5_0, I o5_1, I o5_2, B o5_3]), (6, .box [I o6_0, I o6_1, I o6_2, B o6_3])]) :=
  fun v0 v10 v11 v12 o5_0 o5_1 o5_2 o5_3 o6_0 o6_1 o6_2 o6_3 r h =>
    bind_cases h fun r8 h1 h =>
    bind_cases h fun r9 h2 h =>
    leaf h fun e => by subst e; exact fin_ret Go.Proofs.Try.func92 mix 1000 [.call [] (impl_valuation.calls h1), .call [] (impl_ballAt.calls h2)] (by kernel_rfl)

theorem impl_moveSide.calls {a0 : Int} {a1 : Siiii} {a2 : Siiib} {r : (Siiib × Bool)} (h : impl_moveSide.f a0 a1 a2 = some r) : Eng.Fn Go.Proofs.Try.prog 92 [I a0, .ag (Siiii.cells a1), .ag (Siiib.cells a2)] [] [] (.tu [.ag (Siiib.cells r.1), B r.2]) :=
  fn_fin Go.Proofs.Try.func92 (c := bodyOf Go.Proofs.Try.f92) (by kernel_rfl) (by kernel_rfl) <|
    bind_cases h fun r1 h1 h =>
    bind_cases h fun r2 h2 h =>
    bind_cases h fun r3 h3 h =>
    bind_cases h fun r4 h4 h =>
    bind_cases h fun r5 h5 h =>
    ifE_cases h
      (fun h6 h =>
        bind_cases h fun r6 h7 h =>
        ifE_cases h
          (fun h8 h =>
            bind_cases h fun r7 h9 h =>
            leaf h fun e => by subst e; exact fin_ret Go.Proofs.Try.func92 mix 1000 [.call [] (impl_mark.calls h1), .call [] (impl_power.calls h2), .call [] (impl_determinant.calls h3), .call [] (impl_valuation.calls h4), .call [] (impl_valuation.calls h5), .br h6, .call [] (impl_valuation.calls h7), .br h8, .call [] (impl_ballAt.calls h9)] (by kernel_rfl))
          (fun h8 h =>
            fin_fin Go.Proofs.Try.func92 mix 1000 [.call [] (impl_mark.calls h1), .call [] (impl_power.calls h2), .call [] (impl_determinant.calls h3), .call [] (impl_valuation.calls h4), .call [] (impl_valuation.calls h5), .br h6, .call [] (impl_valuation.calls h7), .br h8, .fin 8 [0, 5, 6, 10, 11, 12] [(5, 5), (6, 6)] (impl_moveSide.j8_ok a0 (W ((W (a1.c0 * r1)) + (W (a1.c1 * r2)))) (W ((W (a1.c2 * r1)) + (W (a1.c3 * r2)))) r4 a2.c0 a2.c1 a2.c2 a2.c3 0 0 0 false r h)] (by kernel_rfl)))
      (fun h6 h =>
        fin_fin Go.Proofs.Try.func92 mix 1000 [.call [] (impl_mark.calls h1), .call [] (impl_power.calls h2), .call [] (impl_determinant.calls h3), .call [] (impl_valuation.calls h4), .call [] (impl_valuation.calls h5), .br h6, .fin 8 [0, 5, 6, 10, 11, 12] [(5, 5), (6, 6)] (impl_moveSide.j8_ok a0 (W ((W (a1.c0 * r1)) + (W (a1.c1 * r2)))) (W ((W (a1.c2 * r1)) + (W (a1.c3 * r2)))) r4 a2.c0 a2.c1 a2.c2 a2.c3 0 0 0 false r h)] (by kernel_rfl))

theorem impl_MoveSide.calls {a0 : Int} {a1 : Siiii} {a2 : Siiib} {r : (Siiib × Int)} (h : impl_MoveSide.f a0 a1 a2 = some r) : Eng.Fn Go.Proofs.Try.prog 37 [I a0, .ag (Siiii.cells a1), .ag (Siiib.cells a2)] [] [] (.tu [.ag (Siiib.cells r.1), I r.2]) :=
  fn_fin Go.Proofs.Try.func37 (c := bodyOf Go.Proofs.Try.f37) (by kernel_rfl) (by kernel_rfl) <|
    bind_cases h fun r1 h1 h =>
    ifE_cases h
      (fun h2 h =>
        leaf h fun e => by subst e; exact fin_ret Go.Proofs.Try.func37 mix 1000 [.call [] (impl_areSides.calls h1), .br h2] (by kernel_rfl))
      (fun h2 h =>
        bind_cases h fun r2 h3 h =>
        ifE_cases h
          (fun h4 h =>
            leaf h fun e => by subst e; exact fin_ret Go.Proofs.Try.func37 mix 1000 [.call [] (impl_areSides.calls h1), .br h2, .call [] (impl_IsMatrix.calls h3), .br h4] (by kernel_rfl))
          (fun h4 h =>
            bind_cases h fun r3 h5 h =>
            ifE_cases h
              (fun h6 h =>
                leaf h fun e => by subst e; exact fin_ret Go.Proofs.Try.func37 mix 1000 [.call [] (impl_areSides.calls h1), .br h2, .call [] (impl_IsMatrix.calls h3), .br h4, .call [] (impl_moveSide.calls h5), .br h6] (by kernel_rfl))
              (fun h6 h =>
                leaf h fun e => by subst e; exact fin_ret Go.Proofs.Try.func37 mix 1000 [.call [] (impl_areSides.calls h1), .br h2, .call [] (impl_IsMatrix.calls h3), .br h4, .call [] (impl_moveSide.calls h5), .br h6] (by kernel_rfl))))

theorem spec_l09Code.l4_ok (k : Nat) : ∀ (v0 : Int) (v1 : (List Siiib)) (v5 : Int) (r : Int), (spec_l09Code.l4 k) v0 v1 v5 = some r → Eng.Fin Go.Proofs.Try.prog 93 [] [] (I r) (itsL 4 (bodyOf Go.Proofs.Try.f93)) (mkS 23 [(0, I v0), (1, R true 4 Siiib.cells v1), (5, I v5)] []) := by
  induction k with
  | zero => intro v0 v1 v5 r h; exact nomatch h
  | succ k ih =>
    exact fun v0 v1 v5 r h =>
      ifE_cases h
        (fun h1 h =>
          bind_cases h fun e2 h2 h =>
          bind_cases h fun r3 h3 h =>
          ifE_cases h
            (fun h4 h =>
              leaf h fun e => by subst e; exact fin_ret Go.Proofs.Try.func93 mix 1000 [.unroll, .br h1, .el (getE_el Siiib.cells h2), .call [] (spec_l01Is.calls h3), .br h4] (by kernel_rfl))
            (fun h4 h =>
              fin_fin Go.Proofs.Try.func93 mix 1000 [.unroll, .br h1, .el (getE_el Siiib.cells h2), .call [] (spec_l01Is.calls h3), .br h4, .fin 100000 [0, 1, 5] [] (ih v0 v1 (W (v5 + 1)) r h)] (by kernel_rfl)))
        (fun h1 h =>
          leaf h fun e => by subst e; exact fin_ret Go.Proofs.Try.func93 mix 1000 [.unroll, .br h1] (by kernel_rfl))

theorem spec_l09Code.calls {a0 : Int} {a1 : (List Siiib)} {r : Int} (h : spec_l09Code.f a0 a1 = some r) : Eng.Fn Go.Proofs.Try.prog 93 [I a0, R true 4 Siiib.cells a1] [] [] (I r) :=
  fn_fin Go.Proofs.Try.func93 (c := bodyOf Go.Proofs.Try.f93) (by kernel_rfl) (by kernel_rfl) <|
    bind_cases h fun r1 h1 h =>
    ifE_cases h
      (fun h2 h =>
        leaf h fun e => by subst e; exact fin_ret Go.Proofs.Try.func93 mix 1000 [.call [] (spec_l01Prime.calls h1), .br h2] (by kernel_rfl))
      (fun h2 h =>
        fin_fin Go.Proofs.Try.func93 mix 1000 [.call [] (spec_l01Prime.calls h1), .br h2, .fin 100000 [0, 1, 5] [] (spec_l09Code.l4_ok fuelN a0 a1 0 r h)] (by kernel_rfl))

theorem spec_l09Move.j6_ok : ∀ (v0 : Int) (v9 : Int) (v10 : Int) (v11 : Int) (v12 : Int) (v13 : Bool) (o4_0 : Int) (o4_1 : Int) (o4_2 : Int) (o4_3 : Int) (o5_0 : Int) (o5_1 : Int) (o5_2 : Int) (o5_3 : Bool) (o6_0 : Int) (o6_1 : Int) (o6_2 : Int) (o6_3 : Bool) (r : (Siiib × Bool)), (spec_l09Move.j6) v0 v9 v10 v11 v12 v13 o4_0 o4_1 o4_2 o4_3 o5_0 o5_1 o5_2 o5_3 o6_0 o6_1 o6_2 o6_3 = some r → Eng.Fin Go.Proofs.Try.prog 94 [] [] (.tu [.ag (Siiib.cells r.1), B r.2]) (itsR 6 (bodyOf Go.Proofs.Try.f94)) (mkS 148 [(0, I v0), (4, .bx 4 0), (5, .bx 5 0), (6, .bx 6 0), (9, I v9), (10, I v10), (11, I v11), (12, I v12), (13, B v13)] [(4, .box [I o4_0, I o4_1, I o4_2, I o4_3]), (5, .box [I o5_0, I o5_1, I o5_2, B o5_3]), (6, .box [I o6_0, I o6_1, I o6_2, B o6_3])]) :=
  fun v0 v9 v10 v11 v12 v13 o4_0 o4_1 o4_2 o4_3 o5_0 o5_1 o5_2 o5_3 o6_0 o6_1 o6_2 o6_3 r h =>
    ifE_cases h
      (fun h1 h =>
        bind_cases h fun r5 h2 h =>
        bind_cases h fun r6 h3 h =>
        leaf h fun e => by subst e; exact fin_ret Go.Proofs.Try.func94 mix 1000 [.br h1, .call [] (spec_l01Val.calls h2), .call [] (spec_l01Of.calls h3)] (by kernel_rfl))
      (fun h1 h =>
        bind_cases h fun r7 h4 h =>
        bind_cases h fun r8 h5 h =>
        leaf h fun e => by subst e; exact fin_ret Go.Proofs.Try.func94 mix 1000 [.br h1, .call [] (spec_l01Val.calls h4), .call [] (spec_l01Of.calls h5)] (by kernel_rfl))

theorem spec_l09Move.calls {a0 : Int} {a1 : Siiii} {a2 : Siiib} {r : (Siiib × Bool)} (h : spec_l09Move.f a0 a1 a2 = some r) : Eng.Fn Go.Proofs.Try.prog 94 [I a0, .ag (Siiii.cells a1), .ag (Siiib.cells a2)] [] [] (.tu [.ag (Siiib.cells r.1), B r.2]) :=
  fn_fin Go.Proofs.Try.func94 (c := bodyOf Go.Proofs.Try.f94) (by kernel_rfl) (by kernel_rfl) <|
    bind_cases h fun r1 h1 h =>
    bind_cases h fun r2 h2 h =>
    ifE_cases h
      (fun h3 h =>
        ifE_cases h
          (fun h4 h =>
            fin_fin Go.Proofs.Try.func94 mix 1000 [.call [] (spec_l01Power.calls h1), .call [] (spec_l01Val.calls h2), .br h3, .br h4, .fin 6 [0, 4, 5, 6, 9, 10, 11, 12, 13] [(4, 4), (5, 5), (6, 6)] (spec_l09Move.j6_ok a0 r2 (W ((W (a1.c0 * a2.c1)) + (W (a1.c1 * r1)))) (W ((W (a1.c2 * a2.c1)) + (W (a1.c3 * r1)))) a1.c2 true a1.c0 a1.c1 a1.c2 a1.c3 a2.c0 a2.c1 a2.c2 a2.c3 0 0 0 false r h)] (by kernel_rfl))
          (fun h4 h =>
            bind_cases h fun r3 h5 h =>
            bind_cases h fun r4 h6 h =>
            fin_fin Go.Proofs.Try.func94 mix 1000 [.call [] (spec_l01Power.calls h1), .call [] (spec_l01Val.calls h2), .br h3, .br h4, .call [] (spec_l01Val.calls h5), .call [] (spec_l01Val.calls h6), .fin 6 [0, 4, 5, 6, 9, 10, 11, 12, 13] [(4, 4), (5, 5), (6, 6)] (spec_l09Move.j6_ok a0 r2 (W ((W (a1.c0 * a2.c1)) + (W (a1.c1 * r1)))) (W ((W (a1.c2 * a2.c1)) + (W (a1.c3 * r1)))) a1.c2 (decide ((W (r3 - a2.c2)) ≥ (W (r4 + a2.c0)))) a1.c0 a1.c1 a1.c2 a1.c3 a2.c0 a2.c1 a2.c2 a2.c3 0 0 0 false r h)] (by kernel_rfl)))
      (fun h3 h =>
        fin_fin Go.Proofs.Try.func94 mix 1000 [.call [] (spec_l01Power.calls h1), .call [] (spec_l01Val.calls h2), .br h3, .fin 6 [0, 4, 5, 6, 9, 10, 11, 12, 13] [(4, 4), (5, 5), (6, 6)] (spec_l09Move.j6_ok a0 r2 (W ((W (a1.c0 * a2.c1)) + (W (a1.c1 * r1)))) (W ((W (a1.c2 * a2.c1)) + (W (a1.c3 * r1)))) a1.c2 false a1.c0 a1.c1 a1.c2 a1.c3 a2.c0 a2.c1 a2.c2 a2.c3 0 0 0 false r h)] (by kernel_rfl))

theorem spec_MoveSide.calls {a0 : Int} {a1 : Siiii} {a2 : Siiib} {r : (Siiib × Int)} (h : spec_MoveSide.f a0 a1 a2 = some r) : Eng.Fn Go.Proofs.Try.prog 38 [I a0, .ag (Siiii.cells a1), .ag (Siiib.cells a2)] [] [] (.tu [.ag (Siiib.cells r.1), I r.2]) :=
  fn_fin Go.Proofs.Try.func38 (c := bodyOf Go.Proofs.Try.f38) (by kernel_rfl) (by kernel_rfl) <|
    bind_cases h fun r1 h1 h =>
    ifE_cases h
      (fun h2 h =>
        leaf h fun e => by subst e; exact fin_ret Go.Proofs.Try.func38 mix 1000 [.call [] (spec_l09Code.calls h1), .br h2] (by kernel_rfl))
      (fun h2 h =>
        bind_cases h fun r2 h3 h =>
        ifE_cases h
          (fun h4 h =>
            leaf h fun e => by subst e; exact fin_ret Go.Proofs.Try.func38 mix 1000 [.call [] (spec_l09Code.calls h1), .br h2, .call [] (spec_l04Is.calls h3), .br h4] (by kernel_rfl))
          (fun h4 h =>
            bind_cases h fun r3 h5 h =>
            ifE_cases h
              (fun h6 h =>
                leaf h fun e => by subst e; exact fin_ret Go.Proofs.Try.func38 mix 1000 [.call [] (spec_l09Code.calls h1), .br h2, .call [] (spec_l04Is.calls h3), .br h4, .call [] (spec_l09Move.calls h5), .br h6] (by kernel_rfl))
              (fun h6 h =>
                leaf h fun e => by subst e; exact fin_ret Go.Proofs.Try.func38 mix 1000 [.call [] (spec_l09Code.calls h1), .br h2, .call [] (spec_l04Is.calls h3), .br h4, .call [] (spec_l09Move.calls h5), .br h6] (by kernel_rfl))))

theorem impl_IsEnd.calls {a0 : Sii} {r : Bool} (h : impl_IsEnd.f a0 = some r) : Eng.Fn Go.Proofs.Try.prog 95 [.ag (Sii.cells a0)] [] [] (B r) :=
  fn_fin Go.Proofs.Try.func95 (c := bodyOf Go.Proofs.Try.f95) (by kernel_rfl) (by kernel_rfl) <|
    ifE_cases h
      (fun h1 h =>
        leaf h fun e => by subst e; exact fin_ret Go.Proofs.Try.func95 mix 1000 [.br h1] (by kernel_rfl))
      (fun h1 h =>
        bind_cases h fun r1 h2 h =>
        ifE_cases h
          (fun h3 h =>
            ifE_cases h
              (fun h4 h =>
                bind_cases h fun r2 h5 h =>
                leaf h fun e => by subst e; exact fin_ret Go.Proofs.Try.func95 mix 1000 [.br h1, .call [] (impl_within.calls h2), .br h3, .br h4, .call [] (impl_gcd.calls h5)] (by kernel_rfl))
              (fun h4 h =>
                leaf h fun e => by subst e; exact fin_ret Go.Proofs.Try.func95 mix 1000 [.br h1, .call [] (impl_within.calls h2), .br h3, .br h4] (by kernel_rfl)))
          (fun h3 h =>
            leaf h fun e => by subst e; exact fin_ret Go.Proofs.Try.func95 mix 1000 [.br h1, .call [] (impl_within.calls h2), .br h3] (by kernel_rfl)))

theorem impl_fittedEnd.calls {a0 : Sii} {a1 : Bool} {r : (Sii × Int)} (h : impl_fittedEnd.f a0 a1 = some r) : Eng.Fn Go.Proofs.Try.prog 96 [.ag (Sii.cells a0), B a1] [] [] (.tu [.ag (Sii.cells r.1), I r.2]) :=
  fn_fin Go.Proofs.Try.func96 (c := bodyOf Go.Proofs.Try.f96) (by kernel_rfl) (by kernel_rfl) <|
    ifE_cases h
      (fun h1 h =>
        leaf h fun e => by subst e; exact fin_ret Go.Proofs.Try.func96 mix 1000 [.br h1] (by kernel_rfl))
      (fun h1 h =>
        leaf h fun e => by subst e; exact fin_ret Go.Proofs.Try.func96 mix 1000 [.br h1] (by kernel_rfl))

theorem impl_endAt.j6_ok : ∀ (v0 : Int) (v1 : Int) (v6 : Int) (o4_0 : Int) (o4_1 : Int) (r : (Sii × Bool)), (impl_endAt.j6) v0 v1 v6 o4_0 o4_1 = some r → Eng.Fin Go.Proofs.Try.prog 158 [] [] (.tu [.ag (Sii.cells r.1), B r.2]) (itsR 6 (bodyOf Go.Proofs.Try.f158)) (mkS 28 [(0, I v0), (1, I v1), (4, .bx 4 0), (6, I v6)] [(4, .box [I o4_0, I o4_1])]) :=
  fun v0 v1 v6 o4_0 o4_1 r h =>
    guardE_cases h fun h1 h =>
    guardE_cases h fun h2 h =>
    bind_cases h fun r2 h3 h =>
    leaf h fun e => by subst e; exact fin_ret Go.Proofs.Try.func158 mix 1000 [.nz h1, .nz h2, .call [] (impl_IsEnd.calls h3)] (by kernel_rfl)

theorem impl_endAt.calls {a0 : Int} {a1 : Int} {r : (Sii × Bool)} (h : impl_endAt.f a0 a1 = some r) : Eng.Fn Go.Proofs.Try.prog 158 [I a0, I a1] [] [] (.tu [.ag (Sii.cells r.1), B r.2]) :=
  fn_fin Go.Proofs.Try.func158 (c := bodyOf Go.Proofs.Try.f158) (by kernel_rfl) (by kernel_rfl) <|
    ifE_cases h
      (fun h1 h =>
        leaf h fun e => by subst e; exact fin_ret Go.Proofs.Try.func158 mix 1000 [.br h1] (by kernel_rfl))
      (fun h1 h =>
        bind_cases h fun r1 h2 h =>
        ifE_cases h
          (fun h3 h =>
            fin_fin Go.Proofs.Try.func158 mix 1000 [.br h1, .call [] (impl_gcd.calls h2), .br h3, .fin 6 [0, 1, 4, 6] [(4, 4)] (impl_endAt.j6_ok a0 a1 (W (0 - r1)) 0 0 r h)] (by kernel_rfl))
          (fun h3 h =>
            fin_fin Go.Proofs.Try.func158 mix 1000 [.br h1, .call [] (impl_gcd.calls h2), .br h3, .fin 6 [0, 1, 4, 6] [(4, 4)] (impl_endAt.j6_ok a0 a1 r1 0 0 r h)] (by kernel_rfl)))

theorem impl_moveEnd.calls {a0 : Siiii} {a1 : Sii} {r : (Sii × Bool)} (h : impl_moveEnd.f a0 a1 = some r) : Eng.Fn Go.Proofs.Try.prog 97 [.ag (Siiii.cells a0), .ag (Sii.cells a1)] [] [] (.tu [.ag (Sii.cells r.1), B r.2]) :=
  fn_fin Go.Proofs.Try.func97 (c := bodyOf Go.Proofs.Try.f97) (by kernel_rfl) (by kernel_rfl) <|
    bind_cases h fun r1 h1 h =>
    leaf h fun e => by subst e; exact fin_ret Go.Proofs.Try.func97 mix 1000 [.call [] (impl_endAt.calls h1)] (by kernel_rfl)

theorem impl_MoveEnd.calls {a0 : Siiii} {a1 : Sii} {r : (Sii × Int)} (h : impl_MoveEnd.f a0 a1 = some r) : Eng.Fn Go.Proofs.Try.prog 39 [.ag (Siiii.cells a0), .ag (Sii.cells a1)] [] [] (.tu [.ag (Sii.cells r.1), I r.2]) :=
  fn_fin Go.Proofs.Try.func39 (c := bodyOf Go.Proofs.Try.f39) (by kernel_rfl) (by kernel_rfl) <|
    bind_cases h fun r1 h1 h =>
    ifE_cases h
      (fun h2 h =>
        leaf h fun e => by subst e; exact fin_ret Go.Proofs.Try.func39 mix 1000 [.call [] (impl_IsMatrix.calls h1), .br h2] (by kernel_rfl))
      (fun h2 h =>
        bind_cases h fun r2 h3 h =>
        ifE_cases h
          (fun h4 h =>
            leaf h fun e => by subst e; exact fin_ret Go.Proofs.Try.func39 mix 1000 [.call [] (impl_IsMatrix.calls h1), .br h2, .call [] (impl_IsEnd.calls h3), .br h4] (by kernel_rfl))
          (fun h4 h =>
            bind_cases h fun r3 h5 h =>
            bind_cases h fun r4 h6 h =>
            leaf h fun e => by subst e; exact fin_ret Go.Proofs.Try.func39 mix 1000 [.call [] (impl_IsMatrix.calls h1), .br h2, .call [] (impl_IsEnd.calls h3), .br h4, .call [] (impl_moveEnd.calls h5), .call [] (impl_fittedEnd.calls h6)] (by kernel_rfl)))

theorem impl_nearness.calls {a0 : Int} {a1 : Siii} {a2 : Int} {a3 : Int} {r : Int} (h : impl_nearness.f a0 a1 a2 a3 = some r) : Eng.Fn Go.Proofs.Try.prog 183 [I a0, .ag (Siii.cells a1), I a2, I a3] [] [] (I r) :=
  fn_fin Go.Proofs.Try.func183 (c := bodyOf Go.Proofs.Try.f183) (by kernel_rfl) (by kernel_rfl) <|
    bind_cases h fun r1 h1 h =>
    bind_cases h fun r2 h2 h =>
    ifE_cases h
      (fun h3 h =>
        leaf h fun e => by subst e; exact fin_ret Go.Proofs.Try.func183 mix 1000 [.call [] (impl_power.calls h1), .call [] (impl_mark.calls h2), .br h3] (by kernel_rfl))
      (fun h3 h =>
        bind_cases h fun r3 h4 h =>
        bind_cases h fun r4 h5 h =>
        leaf h fun e => by subst e; exact fin_ret Go.Proofs.Try.func183 mix 1000 [.call [] (impl_power.calls h1), .call [] (impl_mark.calls h2), .br h3, .call [] (impl_valuation.calls h4), .call [] (impl_valuation.calls h5)] (by kernel_rfl))

theorem impl_held.calls {a0 : Int} {a1 : Siii} {a2 : Sii} {r : Bool} (h : impl_held.f a0 a1 a2 = some r) : Eng.Fn Go.Proofs.Try.prog 159 [I a0, .ag (Siii.cells a1), .ag (Sii.cells a2)] [] [] (B r) :=
  fn_fin Go.Proofs.Try.func159 (c := bodyOf Go.Proofs.Try.f159) (by kernel_rfl) (by kernel_rfl) <|
    ifE_cases h
      (fun h1 h =>
        bind_cases h fun r1 h2 h =>
        leaf h fun e => by subst e; exact fin_ret Go.Proofs.Try.func159 mix 1000 [.br h1, .call [] (impl_nearness.calls h2)] (by kernel_rfl))
      (fun h1 h =>
        leaf h fun e => by subst e; exact fin_ret Go.Proofs.Try.func159 mix 1000 [.br h1] (by kernel_rfl))

theorem impl_sideHas.calls {a0 : Int} {a1 : Siiib} {a2 : Sii} {r : Bool} (h : impl_sideHas.f a0 a1 a2 = some r) : Eng.Fn Go.Proofs.Try.prog 98 [I a0, .ag (Siiib.cells a1), .ag (Sii.cells a2)] [] [] (B r) :=
  fn_fin Go.Proofs.Try.func98 (c := bodyOf Go.Proofs.Try.f98) (by kernel_rfl) (by kernel_rfl) <|
    bind_cases h fun r1 h1 h =>
    leaf h fun e => by subst e; exact fin_ret Go.Proofs.Try.func98 mix 1000 [.call [] (impl_held.calls h1)] (by kernel_rfl)

theorem impl_SideHas.calls {a0 : Int} {a1 : Siiib} {a2 : Sii} {r : (Bool × Int)} (h : impl_SideHas.f a0 a1 a2 = some r) : Eng.Fn Go.Proofs.Try.prog 40 [I a0, .ag (Siiib.cells a1), .ag (Sii.cells a2)] [] [] (.tu [B r.1, I r.2]) :=
  fn_fin Go.Proofs.Try.func40 (c := bodyOf Go.Proofs.Try.f40) (by kernel_rfl) (by kernel_rfl) <|
    bind_cases h fun r1 h1 h =>
    ifE_cases h
      (fun h2 h =>
        leaf h fun e => by subst e; exact fin_ret Go.Proofs.Try.func40 mix 1000 [.call [] (impl_areSides.calls h1), .br h2] (by kernel_rfl))
      (fun h2 h =>
        bind_cases h fun r2 h3 h =>
        ifE_cases h
          (fun h4 h =>
            leaf h fun e => by subst e; exact fin_ret Go.Proofs.Try.func40 mix 1000 [.call [] (impl_areSides.calls h1), .br h2, .call [] (impl_IsEnd.calls h3), .br h4] (by kernel_rfl))
          (fun h4 h =>
            bind_cases h fun r3 h5 h =>
            leaf h fun e => by subst e; exact fin_ret Go.Proofs.Try.func40 mix 1000 [.call [] (impl_areSides.calls h1), .br h2, .call [] (impl_IsEnd.calls h3), .br h4, .call [] (impl_sideHas.calls h5)] (by kernel_rfl)))

theorem spec_l01DrawPrime.calls {a0 : SLu8eiu64} {r : (Int × SLu8eiu64)} (h : spec_l01DrawPrime.f a0 = some r) : Eng.Fn Go.Proofs.Try.prog 184 [.bx 2000 0] [(2000, .box [R true 1 (cK .u8) a0.c0, I a0.c1, K .u64 a0.c2])] [(2000, .box (SLu8eiu64.cells r.2))] (I r.1) :=
  fn_fin Go.Proofs.Try.func184 (c := bodyOf Go.Proofs.Try.f184) (by kernel_rfl) (by kernel_rfl) <|
    bind_cases h fun r1 h1 h =>
    leaf h fun e => by subst e; exact fin_ret Go.Proofs.Try.func184 mix 1000 [.call [(2000, 2000)] (spec_l01Pick.calls h1)] (by kernel_rfl)

theorem spec_l01Spoil.calls {a0 : SLu8eiu64} {r : (Int × Siii × SLu8eiu64)} (h : spec_l01Spoil.f a0 = some r) : Eng.Fn Go.Proofs.Try.prog 160 [.bx 2000 0] [(2000, .box [R true 1 (cK .u8) a0.c0, I a0.c1, K .u64 a0.c2])] [(2000, .box (SLu8eiu64.cells r.2.2))] (.tu [I r.1, .ag (Siii.cells r.2.1)]) :=
  fn_fin Go.Proofs.Try.func160 (c := bodyOf Go.Proofs.Try.f160) (by kernel_rfl) (by kernel_rfl) <|
    bind_cases h fun r1 h1 h =>
    bind_cases h fun r2 h2 h =>
    bind_cases h fun r3 h3 h =>
    bind_cases h fun r4 h4 h =>
    ifE_cases h
      (fun h5 h =>
        bind_cases h fun r5 h6 h =>
        leaf h fun e => by subst e; exact fin_ret Go.Proofs.Try.func160 mix 1000 [.call [(2000, 2000)] (spec_l01DrawPrime.calls h1), .call [(2000, 2000)] (spec_l01Draw.calls h2), .call [(2000, 2000)] (spec_l01Bad.calls h3), .call [(2000, 2000)] (spec_l01Next.calls h4), .br h5, .call [(2000, 2000)] (spec_l01Pick.calls h6)] (by kernel_rfl))
      (fun h5 h =>
        leaf h fun e => by subst e; exact fin_ret Go.Proofs.Try.func160 mix 1000 [.call [(2000, 2000)] (spec_l01DrawPrime.calls h1), .call [(2000, 2000)] (spec_l01Draw.calls h2), .call [(2000, 2000)] (spec_l01Bad.calls h3), .call [(2000, 2000)] (spec_l01Next.calls h4), .br h5] (by kernel_rfl))

theorem spec_l01Parent.calls {a0 : Int} {a1 : Siii} {r : (Siii × Bool)} (h : spec_l01Parent.f a0 a1 = some r) : Eng.Fn Go.Proofs.Try.prog 161 [I a0, .ag (Siii.cells a1)] [] [] (.tu [.ag (Siii.cells r.1), B r.2]) :=
  fn_fin Go.Proofs.Try.func161 (c := bodyOf Go.Proofs.Try.f161) (by kernel_rfl) (by kernel_rfl) <|
    bind_cases h fun r1 h1 h =>
    bind_cases h fun r2 h2 h =>
    leaf h fun e => by subst e; exact fin_ret Go.Proofs.Try.func161 mix 1000 [.call [] (spec_l01Power.calls h1), .call [] (spec_l01Of.calls h2)] (by kernel_rfl)

theorem spec_l01Two.l10_ok (k : Nat) : ∀ (v6 : Int) (v8 : Int) (v10 : Int) (o3_0 : Int) (o3_1 : Int) (o3_2 : Int) (o4_0 : Int) (o4_1 : Int) (o4_2 : Int) (o7_0 : Int) (o7_1 : Int) (o7_2 : Int) (o9_0 : Int) (o9_1 : Int) (o9_2 : Int) (r : (Int × Siii × Siii)), (spec_l01Two.l10 k) v6 v8 v10 o3_0 o3_1 o3_2 o4_0 o4_1 o4_2 o7_0 o7_1 o7_2 o9_0 o9_1 o9_2 = some r → Eng.Fin Go.Proofs.Try.prog 99 [] [] (.tu [I r.1, .ag (Siii.cells r.2.1), .ag (Siii.cells r.2.2)]) (itsL 10 (bodyOf Go.Proofs.Try.f99)) (mkS 55 [(3, .bx 3 0), (4, .bx 4 0), (6, I v6), (7, .bx 7 0), (8, I v8), (9, .bx 9 0), (10, I v10)] [(3, .box [I o3_0, I o3_1, I o3_2]), (4, .box [I o4_0, I o4_1, I o4_2]), (7, .box [I o7_0, I o7_1, I o7_2]), (9, .box [I o9_0, I o9_1, I o9_2])]) := by
  induction k with
  | zero => intro v6 v8 v10 o3_0 o3_1 o3_2 o4_0 o4_1 o4_2 o7_0 o7_1 o7_2 o9_0 o9_1 o9_2 r h; exact nomatch h
  | succ k ih =>
    exact fun v6 v8 v10 o3_0 o3_1 o3_2 o4_0 o4_1 o4_2 o7_0 o7_1 o7_2 o9_0 o9_1 o9_2 r h =>
      ifE_cases h
        (fun h1 h =>
          bind_cases h fun r9 h2 h =>
          ifE_cases h
            (fun h3 h =>
              fin_fin Go.Proofs.Try.func99 mix 1000 [.unroll, .br h1, .call [] (spec_l01Parent.calls h2), .br h3, .fin 100000 [3, 4, 6, 7, 8, 9, 10] [(3, 3), (4, 4), (7, 7), (9, 9)] (ih v6 v8 (W (v10 - 1)) o3_0 o3_1 o3_2 o4_0 o4_1 o4_2 o7_0 o7_1 o7_2 r9.1.c0 r9.1.c1 r9.1.c2 r h)] (by kernel_rfl))
            (fun h3 h =>
              fin_fin Go.Proofs.Try.func99 mix 1000 [.unroll, .br h1, .call [] (spec_l01Parent.calls h2), .br h3, .fin 100000 [3, 4, 6, 7, 8, 9, 10] [(3, 3), (4, 4), (7, 7), (9, 9)] (ih v6 v8 (W (v10 - 1)) o3_0 o3_1 o3_2 o4_0 o4_1 o4_2 o7_0 o7_1 o7_2 o9_0 o9_1 o9_2 r h)] (by kernel_rfl)))
        (fun h1 h =>
          leaf h fun e => by subst e; exact fin_ret Go.Proofs.Try.func99 mix 1000 [.unroll, .br h1] (by kernel_rfl))

theorem spec_l01Two.j6_ok : ∀ (v6 : Int) (v8 : Int) (o3_0 : Int) (o3_1 : Int) (o3_2 : Int) (o4_0 : Int) (o4_1 : Int) (o4_2 : Int) (o14_0 : (List Int)) (o14_1 : Int) (o14_2 : Int) (o7_0 : Int) (o7_1 : Int) (o7_2 : Int) (r : (Int × Siii × Siii)), (spec_l01Two.j6) v6 v8 o3_0 o3_1 o3_2 o4_0 o4_1 o4_2 o14_0 o14_1 o14_2 o7_0 o7_1 o7_2 = some r → Eng.Fin Go.Proofs.Try.prog 99 [] [] (.tu [I r.1, .ag (Siii.cells r.2.1), .ag (Siii.cells r.2.2)]) (itsR 6 (bodyOf Go.Proofs.Try.f99)) (mkS 55 [(3, .bx 3 0), (4, .bx 4 0), (5, .bx 14 0), (6, I v6), (7, .bx 7 0), (8, I v8)] [(3, .box [I o3_0, I o3_1, I o3_2]), (4, .box [I o4_0, I o4_1, I o4_2]), (14, .box [R true 1 (cK .u8) o14_0, I o14_1, K .u64 o14_2]), (7, .box [I o7_0, I o7_1, I o7_2])]) :=
  fun v6 v8 o3_0 o3_1 o3_2 o4_0 o4_1 o4_2 o14_0 o14_1 o14_2 o7_0 o7_1 o7_2 r h =>
    bind_cases h fun r4 h1 h =>
    bind_cases h fun r5 h2 h =>
    bind_cases h fun r6 h3 h =>
    ifE_cases h
      (fun h4 h =>
        bind_cases h fun r7 h5 h =>
        ifE_cases h
          (fun h6 h =>
            bind_cases h fun r8 h7 h =>
            fin_fin Go.Proofs.Try.func99 mix 1000 [.call [(14, 2000)] (spec_l01Draw.calls h1), .call [(14, 2000)] (spec_l01Bad.calls h2), .call [(14, 2000)] (spec_l01Next.calls h3), .br h4, .call [] (spec_l01Is.calls h5), .br h6, .call [(14, 2000)] (spec_l01Next.calls h7), .fin 100000 [3, 4, 6, 7, 8, 9, 10] [(3, 3), (4, 4), (7, 7), (9, 9)] (spec_l01Two.l10_ok fuelN v6 v8 r8.1 o3_0 o3_1 o3_2 o4_0 o4_1 o4_2 o7_0 o7_1 o7_2 o7_0 o7_1 o7_2 r h)] (by kernel_rfl))
          (fun h6 h =>
            leaf h fun e => by subst e; exact fin_ret Go.Proofs.Try.func99 mix 1000 [.call [(14, 2000)] (spec_l01Draw.calls h1), .call [(14, 2000)] (spec_l01Bad.calls h2), .call [(14, 2000)] (spec_l01Next.calls h3), .br h4, .call [] (spec_l01Is.calls h5), .br h6] (by kernel_rfl)))
      (fun h4 h =>
        leaf h fun e => by subst e; exact fin_ret Go.Proofs.Try.func99 mix 1000 [.call [(14, 2000)] (spec_l01Draw.calls h1), .call [(14, 2000)] (spec_l01Bad.calls h2), .call [(14, 2000)] (spec_l01Next.calls h3), .br h4] (by kernel_rfl))

theorem spec_l01Two.calls {a0 : (List Int)} {r : (Int × Siii × Siii)} (h : spec_l01Two.f a0 = some r) : Eng.Fn Go.Proofs.Try.prog 99 [R true 1 (cK .u8) a0] [] [] (.tu [I r.1, .ag (Siii.cells r.2.1), .ag (Siii.cells r.2.2)]) :=
  fn_fin Go.Proofs.Try.func99 (c := bodyOf Go.Proofs.Try.f99) (by kernel_rfl) (by kernel_rfl) <|
    bind_cases h fun r1 h1 h =>
    bind_cases h fun r2 h2 h =>
    bind_cases h fun r3 h3 h =>
    ifE_cases h
      (fun h4 h =>
        fin_fin Go.Proofs.Try.func99 mix 1000 [.call [(14, 11)] (spec_l01From.calls h1), .call [(14, 2000)] (spec_l01Spoil.calls h2), .call [] (spec_l01Prime.calls h3), .br h4, .fin 6 [3, 4, 5, 6, 7, 8] [(3, 3), (4, 4), (14, 14), (7, 7)] (spec_l01Two.j6_ok r2.1 2 0 0 0 0 0 0 r2.2.2.c0 r2.2.2.c1 r2.2.2.c2 r2.2.1.c0 r2.2.1.c1 r2.2.1.c2 r h)] (by kernel_rfl))
      (fun h4 h =>
        fin_fin Go.Proofs.Try.func99 mix 1000 [.call [(14, 11)] (spec_l01From.calls h1), .call [(14, 2000)] (spec_l01Spoil.calls h2), .call [] (spec_l01Prime.calls h3), .br h4, .fin 6 [3, 4, 5, 6, 7, 8] [(3, 3), (4, 4), (14, 14), (7, 7)] (spec_l01Two.j6_ok r2.1 r2.1 0 0 0 0 0 0 r2.2.2.c0 r2.2.2.c1 r2.2.2.c2 r2.2.1.c0 r2.2.1.c1 r2.2.1.c2 r h)] (by kernel_rfl))

theorem spec_DrawPairedMover.calls {a0 : (List Int)} {r : (Int × Siii × Siii)} (h : spec_DrawPairedMover.f a0 = some r) : Eng.Fn Go.Proofs.Try.prog 41 [R true 1 (cK .u8) a0] [] [] (.tu [I r.1, .ag (Siii.cells r.2.1), .ag (Siii.cells r.2.2)]) :=
  fn_fin Go.Proofs.Try.func41 (c := bodyOf Go.Proofs.Try.f41) (by kernel_rfl) (by kernel_rfl) <|
    bind_cases h fun r1 h1 h =>
    bind_cases h fun r2 h2 h =>
    ifE_cases h
      (fun h3 h =>
        bind_cases h fun r3 h4 h =>
        leaf h fun e => by subst e; exact fin_ret Go.Proofs.Try.func41 mix 1000 [.call [(15, 11)] (spec_l01From.calls h1), .call [(15, 2000)] (spec_l01Next.calls h2), .br h3, .call [] (spec_l01Two.calls h4)] (by kernel_rfl))
      (fun h3 h =>
        bind_cases h fun r4 h5 h =>
        bind_cases h fun r5 h6 h =>
        bind_cases h fun r6 h7 h =>
        bind_cases h fun r7 h8 h =>
        bind_cases h fun r8 h9 h =>
        bind_cases h fun r9 h10 h =>
        bind_cases h fun r10 h11 h =>
        bind_cases h fun r11 h12 h =>
        bind_cases h fun r12 h13 h =>
        leaf h fun e => by subst e; exact fin_ret Go.Proofs.Try.func41 mix 1000 [.call [(15, 11)] (spec_l01From.calls h1), .call [(15, 2000)] (spec_l01Next.calls h2), .br h3, .call [(15, 2000)] (spec_l01Pick.calls h5), .call [(15, 2000)] (spec_l01Next.calls h6), .call [(15, 2000)] (spec_l01Pick.calls h7), .call [(15, 2000)] (spec_l01Next.calls h8), .call [] (spec_l01Of.calls h9), .call [(15, 2000)] (spec_l01Next.calls h10), .call [(15, 2000)] (spec_l01Pick.calls h11), .call [(15, 2000)] (spec_l01Next.calls h12), .call [] (spec_l01Of.calls h13)] (by kernel_rfl))

theorem impl_PairedMover.l16_ok (k : Nat) : ∀ (v0 : Int) (v10 : Int) (v11 : Int) (o4_0 : Int) (o4_1 : Int) (o4_2 : Int) (o5_0 : Int) (o5_1 : Int) (o5_2 : Int) (o6_0 : Int) (o6_1 : Int) (o6_2 : Int) (o6_3 : Int) (r : (Siiii × Int)), (impl_PairedMover.l16 k) v0 v10 v11 o4_0 o4_1 o4_2 o5_0 o5_1 o5_2 o6_0 o6_1 o6_2 o6_3 = some r → Eng.Fin Go.Proofs.Try.prog 42 [] [] (.tu [.ag (Siiii.cells r.1), I r.2]) (itsL 16 (bodyOf Go.Proofs.Try.f42)) (mkS 166 [(0, I v0), (4, .bx 4 0), (5, .bx 5 0), (6, .bx 6 0), (10, I v10), (11, I v11)] [(4, .box [I o4_0, I o4_1, I o4_2]), (5, .box [I o5_0, I o5_1, I o5_2]), (6, .box [I o6_0, I o6_1, I o6_2, I o6_3])]) := by
  induction k with
  | zero => intro v0 v10 v11 o4_0 o4_1 o4_2 o5_0 o5_1 o5_2 o6_0 o6_1 o6_2 o6_3 r h; exact nomatch h
  | succ k ih =>
    exact fun v0 v10 v11 o4_0 o4_1 o4_2 o5_0 o5_1 o5_2 o6_0 o6_1 o6_2 o6_3 r h =>
      ifE_cases h
        (fun h1 h =>
          ifE_cases h
            (fun h2 h =>
              guardE_cases h fun h3 h =>
              ifE_cases h
                (fun h4 h =>
                  guardE_cases h fun h5 h =>
                  fin_fin Go.Proofs.Try.func42 mix 1000 [.unroll, .br h1, .br h2, .nz h3, .br h4, .nz h5, .fin 100000 [0, 4, 5, 6, 10, 11] [(4, 4), (5, 5), (6, 6)] (ih v0 (W (Int.tdiv v10 v0)) (W (v11 - 1)) o4_0 o4_1 o4_2 o5_0 o5_1 o5_2 o6_0 o6_1 o6_2 o6_3 r h)] (by kernel_rfl))
                (fun h4 h =>
                  ifE_cases h
                    (fun h6 h =>
                      ifE_cases h
                        (fun h7 h =>
                          leaf h fun e => by subst e; exact fin_ret Go.Proofs.Try.func42 mix 1000 [.unroll, .br h1, .br h2, .nz h3, .br h4, .br h6, .br h7] (by kernel_rfl))
                        (fun h7 h =>
                          bind_cases h fun r5 h8 h =>
                          ifE_cases h
                            (fun h9 h =>
                              leaf h fun e => by subst e; exact fin_ret Go.Proofs.Try.func42 mix 1000 [.unroll, .br h1, .br h2, .nz h3, .br h4, .br h6, .br h7, .call [] (impl_power.calls h8), .br h9] (by kernel_rfl))
                            (fun h9 h =>
                              bind_cases h fun r6 h10 h =>
                              ifE_cases h
                                (fun h11 h =>
                                  leaf h fun e => by subst e; exact fin_ret Go.Proofs.Try.func42 mix 1000 [.unroll, .br h1, .br h2, .nz h3, .br h4, .br h6, .br h7, .call [] (impl_power.calls h8), .br h9, .call [] (impl_within.calls h10), .br h11] (by kernel_rfl))
                                (fun h11 h =>
                                  bind_cases h fun r7 h12 h =>
                                  ifE_cases h
                                    (fun h13 h =>
                                      leaf h fun e => by subst e; exact fin_ret Go.Proofs.Try.func42 mix 1000 [.unroll, .br h1, .br h2, .nz h3, .br h4, .br h6, .br h7, .call [] (impl_power.calls h8), .br h9, .call [] (impl_within.calls h10), .br h11, .call [] (impl_power.calls h12), .br h13] (by kernel_rfl))
                                    (fun h13 h =>
                                      bind_cases h fun r8 h14 h =>
                                      bind_cases h fun r9 h15 h =>
                                      bind_cases h fun r10 h16 h =>
                                      bind_cases h fun r11 h17 h =>
                                      bind_cases h fun r12 h18 h =>
                                      bind_cases h fun r13 h19 h =>
                                      leaf h fun e => by subst e; exact fin_ret Go.Proofs.Try.func42 mix 1000 [.unroll, .br h1, .br h2, .nz h3, .br h4, .br h6, .br h7, .call [] (impl_power.calls h8), .br h9, .call [] (impl_within.calls h10), .br h11, .call [] (impl_power.calls h12), .br h13, .call [] (impl_power.calls h14), .call [] (impl_power.calls h15), .call [] (impl_power.calls h16), .call [] (impl_power.calls h17), .call [] (impl_reduced.calls h18), .call [] (impl_fittedMatrix.calls h19)] (by kernel_rfl))))))
                    (fun h6 h =>
                      ifE_cases h
                        (fun h20 h =>
                          leaf h fun e => by subst e; exact fin_ret Go.Proofs.Try.func42 mix 1000 [.unroll, .br h1, .br h2, .nz h3, .br h4, .br h6, .br h20] (by kernel_rfl))
                        (fun h20 h =>
                          bind_cases h fun r14 h21 h =>
                          ifE_cases h
                            (fun h22 h =>
                              leaf h fun e => by subst e; exact fin_ret Go.Proofs.Try.func42 mix 1000 [.unroll, .br h1, .br h2, .nz h3, .br h4, .br h6, .br h20, .call [] (impl_power.calls h21), .br h22] (by kernel_rfl))
                            (fun h22 h =>
                              bind_cases h fun r15 h23 h =>
                              ifE_cases h
                                (fun h24 h =>
                                  leaf h fun e => by subst e; exact fin_ret Go.Proofs.Try.func42 mix 1000 [.unroll, .br h1, .br h2, .nz h3, .br h4, .br h6, .br h20, .call [] (impl_power.calls h21), .br h22, .call [] (impl_within.calls h23), .br h24] (by kernel_rfl))
                                (fun h24 h =>
                                  bind_cases h fun r16 h25 h =>
                                  ifE_cases h
                                    (fun h26 h =>
                                      leaf h fun e => by subst e; exact fin_ret Go.Proofs.Try.func42 mix 1000 [.unroll, .br h1, .br h2, .nz h3, .br h4, .br h6, .br h20, .call [] (impl_power.calls h21), .br h22, .call [] (impl_within.calls h23), .br h24, .call [] (impl_power.calls h25), .br h26] (by kernel_rfl))
                                    (fun h26 h =>
                                      bind_cases h fun r17 h27 h =>
                                      bind_cases h fun r18 h28 h =>
                                      bind_cases h fun r19 h29 h =>
                                      bind_cases h fun r20 h30 h =>
                                      bind_cases h fun r21 h31 h =>
                                      bind_cases h fun r22 h32 h =>
                                      leaf h fun e => by subst e; exact fin_ret Go.Proofs.Try.func42 mix 1000 [.unroll, .br h1, .br h2, .nz h3, .br h4, .br h6, .br h20, .call [] (impl_power.calls h21), .br h22, .call [] (impl_within.calls h23), .br h24, .call [] (impl_power.calls h25), .br h26, .call [] (impl_power.calls h27), .call [] (impl_power.calls h28), .call [] (impl_power.calls h29), .call [] (impl_power.calls h30), .call [] (impl_reduced.calls h31), .call [] (impl_fittedMatrix.calls h32)] (by kernel_rfl))))))))
            (fun h2 h =>
              ifE_cases h
                (fun h33 h =>
                  ifE_cases h
                    (fun h34 h =>
                      leaf h fun e => by subst e; exact fin_ret Go.Proofs.Try.func42 mix 1000 [.unroll, .br h1, .br h2, .br h33, .br h34] (by kernel_rfl))
                    (fun h34 h =>
                      bind_cases h fun r23 h35 h =>
                      ifE_cases h
                        (fun h36 h =>
                          leaf h fun e => by subst e; exact fin_ret Go.Proofs.Try.func42 mix 1000 [.unroll, .br h1, .br h2, .br h33, .br h34, .call [] (impl_power.calls h35), .br h36] (by kernel_rfl))
                        (fun h36 h =>
                          bind_cases h fun r24 h37 h =>
                          ifE_cases h
                            (fun h38 h =>
                              leaf h fun e => by subst e; exact fin_ret Go.Proofs.Try.func42 mix 1000 [.unroll, .br h1, .br h2, .br h33, .br h34, .call [] (impl_power.calls h35), .br h36, .call [] (impl_within.calls h37), .br h38] (by kernel_rfl))
                            (fun h38 h =>
                              bind_cases h fun r25 h39 h =>
                              ifE_cases h
                                (fun h40 h =>
                                  leaf h fun e => by subst e; exact fin_ret Go.Proofs.Try.func42 mix 1000 [.unroll, .br h1, .br h2, .br h33, .br h34, .call [] (impl_power.calls h35), .br h36, .call [] (impl_within.calls h37), .br h38, .call [] (impl_power.calls h39), .br h40] (by kernel_rfl))
                                (fun h40 h =>
                                  bind_cases h fun r26 h41 h =>
                                  bind_cases h fun r27 h42 h =>
                                  bind_cases h fun r28 h43 h =>
                                  bind_cases h fun r29 h44 h =>
                                  bind_cases h fun r30 h45 h =>
                                  bind_cases h fun r31 h46 h =>
                                  leaf h fun e => by subst e; exact fin_ret Go.Proofs.Try.func42 mix 1000 [.unroll, .br h1, .br h2, .br h33, .br h34, .call [] (impl_power.calls h35), .br h36, .call [] (impl_within.calls h37), .br h38, .call [] (impl_power.calls h39), .br h40, .call [] (impl_power.calls h41), .call [] (impl_power.calls h42), .call [] (impl_power.calls h43), .call [] (impl_power.calls h44), .call [] (impl_reduced.calls h45), .call [] (impl_fittedMatrix.calls h46)] (by kernel_rfl))))))
                (fun h33 h =>
                  ifE_cases h
                    (fun h47 h =>
                      leaf h fun e => by subst e; exact fin_ret Go.Proofs.Try.func42 mix 1000 [.unroll, .br h1, .br h2, .br h33, .br h47] (by kernel_rfl))
                    (fun h47 h =>
                      bind_cases h fun r32 h48 h =>
                      ifE_cases h
                        (fun h49 h =>
                          leaf h fun e => by subst e; exact fin_ret Go.Proofs.Try.func42 mix 1000 [.unroll, .br h1, .br h2, .br h33, .br h47, .call [] (impl_power.calls h48), .br h49] (by kernel_rfl))
                        (fun h49 h =>
                          bind_cases h fun r33 h50 h =>
                          ifE_cases h
                            (fun h51 h =>
                              leaf h fun e => by subst e; exact fin_ret Go.Proofs.Try.func42 mix 1000 [.unroll, .br h1, .br h2, .br h33, .br h47, .call [] (impl_power.calls h48), .br h49, .call [] (impl_within.calls h50), .br h51] (by kernel_rfl))
                            (fun h51 h =>
                              bind_cases h fun r34 h52 h =>
                              ifE_cases h
                                (fun h53 h =>
                                  leaf h fun e => by subst e; exact fin_ret Go.Proofs.Try.func42 mix 1000 [.unroll, .br h1, .br h2, .br h33, .br h47, .call [] (impl_power.calls h48), .br h49, .call [] (impl_within.calls h50), .br h51, .call [] (impl_power.calls h52), .br h53] (by kernel_rfl))
                                (fun h53 h =>
                                  bind_cases h fun r35 h54 h =>
                                  bind_cases h fun r36 h55 h =>
                                  bind_cases h fun r37 h56 h =>
                                  bind_cases h fun r38 h57 h =>
                                  bind_cases h fun r39 h58 h =>
                                  bind_cases h fun r40 h59 h =>
                                  leaf h fun e => by subst e; exact fin_ret Go.Proofs.Try.func42 mix 1000 [.unroll, .br h1, .br h2, .br h33, .br h47, .call [] (impl_power.calls h48), .br h49, .call [] (impl_within.calls h50), .br h51, .call [] (impl_power.calls h52), .br h53, .call [] (impl_power.calls h54), .call [] (impl_power.calls h55), .call [] (impl_power.calls h56), .call [] (impl_power.calls h57), .call [] (impl_reduced.calls h58), .call [] (impl_fittedMatrix.calls h59)] (by kernel_rfl))))))))
        (fun h1 h =>
          ifE_cases h
            (fun h60 h =>
              ifE_cases h
                (fun h61 h =>
                  leaf h fun e => by subst e; exact fin_ret Go.Proofs.Try.func42 mix 1000 [.unroll, .br h1, .br h60, .br h61] (by kernel_rfl))
                (fun h61 h =>
                  bind_cases h fun r41 h62 h =>
                  ifE_cases h
                    (fun h63 h =>
                      leaf h fun e => by subst e; exact fin_ret Go.Proofs.Try.func42 mix 1000 [.unroll, .br h1, .br h60, .br h61, .call [] (impl_power.calls h62), .br h63] (by kernel_rfl))
                    (fun h63 h =>
                      bind_cases h fun r42 h64 h =>
                      ifE_cases h
                        (fun h65 h =>
                          leaf h fun e => by subst e; exact fin_ret Go.Proofs.Try.func42 mix 1000 [.unroll, .br h1, .br h60, .br h61, .call [] (impl_power.calls h62), .br h63, .call [] (impl_within.calls h64), .br h65] (by kernel_rfl))
                        (fun h65 h =>
                          bind_cases h fun r43 h66 h =>
                          ifE_cases h
                            (fun h67 h =>
                              leaf h fun e => by subst e; exact fin_ret Go.Proofs.Try.func42 mix 1000 [.unroll, .br h1, .br h60, .br h61, .call [] (impl_power.calls h62), .br h63, .call [] (impl_within.calls h64), .br h65, .call [] (impl_power.calls h66), .br h67] (by kernel_rfl))
                            (fun h67 h =>
                              bind_cases h fun r44 h68 h =>
                              bind_cases h fun r45 h69 h =>
                              bind_cases h fun r46 h70 h =>
                              bind_cases h fun r47 h71 h =>
                              bind_cases h fun r48 h72 h =>
                              bind_cases h fun r49 h73 h =>
                              leaf h fun e => by subst e; exact fin_ret Go.Proofs.Try.func42 mix 1000 [.unroll, .br h1, .br h60, .br h61, .call [] (impl_power.calls h62), .br h63, .call [] (impl_within.calls h64), .br h65, .call [] (impl_power.calls h66), .br h67, .call [] (impl_power.calls h68), .call [] (impl_power.calls h69), .call [] (impl_power.calls h70), .call [] (impl_power.calls h71), .call [] (impl_reduced.calls h72), .call [] (impl_fittedMatrix.calls h73)] (by kernel_rfl))))))
            (fun h60 h =>
              ifE_cases h
                (fun h74 h =>
                  leaf h fun e => by subst e; exact fin_ret Go.Proofs.Try.func42 mix 1000 [.unroll, .br h1, .br h60, .br h74] (by kernel_rfl))
                (fun h74 h =>
                  bind_cases h fun r50 h75 h =>
                  ifE_cases h
                    (fun h76 h =>
                      leaf h fun e => by subst e; exact fin_ret Go.Proofs.Try.func42 mix 1000 [.unroll, .br h1, .br h60, .br h74, .call [] (impl_power.calls h75), .br h76] (by kernel_rfl))
                    (fun h76 h =>
                      bind_cases h fun r51 h77 h =>
                      ifE_cases h
                        (fun h78 h =>
                          leaf h fun e => by subst e; exact fin_ret Go.Proofs.Try.func42 mix 1000 [.unroll, .br h1, .br h60, .br h74, .call [] (impl_power.calls h75), .br h76, .call [] (impl_within.calls h77), .br h78] (by kernel_rfl))
                        (fun h78 h =>
                          bind_cases h fun r52 h79 h =>
                          ifE_cases h
                            (fun h80 h =>
                              leaf h fun e => by subst e; exact fin_ret Go.Proofs.Try.func42 mix 1000 [.unroll, .br h1, .br h60, .br h74, .call [] (impl_power.calls h75), .br h76, .call [] (impl_within.calls h77), .br h78, .call [] (impl_power.calls h79), .br h80] (by kernel_rfl))
                            (fun h80 h =>
                              bind_cases h fun r53 h81 h =>
                              bind_cases h fun r54 h82 h =>
                              bind_cases h fun r55 h83 h =>
                              bind_cases h fun r56 h84 h =>
                              bind_cases h fun r57 h85 h =>
                              bind_cases h fun r58 h86 h =>
                              leaf h fun e => by subst e; exact fin_ret Go.Proofs.Try.func42 mix 1000 [.unroll, .br h1, .br h60, .br h74, .call [] (impl_power.calls h75), .br h76, .call [] (impl_within.calls h77), .br h78, .call [] (impl_power.calls h79), .br h80, .call [] (impl_power.calls h81), .call [] (impl_power.calls h82), .call [] (impl_power.calls h83), .call [] (impl_power.calls h84), .call [] (impl_reduced.calls h85), .call [] (impl_fittedMatrix.calls h86)] (by kernel_rfl)))))))

theorem impl_PairedMover.calls {a0 : Int} {a1 : Siii} {a2 : Siii} {r : (Siiii × Int)} (h : impl_PairedMover.f a0 a1 a2 = some r) : Eng.Fn Go.Proofs.Try.prog 42 [I a0, .ag (Siii.cells a1), .ag (Siii.cells a2)] [] [] (.tu [.ag (Siiii.cells r.1), I r.2]) :=
  fn_fin Go.Proofs.Try.func42 (c := bodyOf Go.Proofs.Try.f42) (by kernel_rfl) (by kernel_rfl) <|
    bind_cases h fun r1 h1 h =>
    ifE_cases h
      (fun h2 h =>
        leaf h fun e => by subst e; exact fin_ret Go.Proofs.Try.func42 mix 1000 [.call [] (impl_areBalls.calls h1), .br h2] (by kernel_rfl))
      (fun h2 h =>
        bind_cases h fun r2 h3 h =>
        ifE_cases h
          (fun h4 h =>
            leaf h fun e => by subst e; exact fin_ret Go.Proofs.Try.func42 mix 1000 [.call [] (impl_areBalls.calls h1), .br h2, .call [] (impl_apart.calls h3), .br h4] (by kernel_rfl))
          (fun h4 h =>
            ifE_cases h
              (fun h5 h =>
                leaf h fun e => by subst e; exact fin_ret Go.Proofs.Try.func42 mix 1000 [.call [] (impl_areBalls.calls h1), .br h2, .call [] (impl_apart.calls h3), .br h4, .br h5] (by kernel_rfl))
              (fun h5 h =>
                ifE_cases h
                  (fun h6 h =>
                    leaf h fun e => by subst e; exact fin_ret Go.Proofs.Try.func42 mix 1000 [.call [] (impl_areBalls.calls h1), .br h2, .call [] (impl_apart.calls h3), .br h4, .br h5, .br h6] (by kernel_rfl))
                  (fun h6 h =>
                    ifE_cases h
                      (fun h7 h =>
                        ifE_cases h
                          (fun h8 h =>
                            leaf h fun e => by subst e; exact fin_ret Go.Proofs.Try.func42 mix 1000 [.call [] (impl_areBalls.calls h1), .br h2, .call [] (impl_apart.calls h3), .br h4, .br h5, .br h6, .br h7, .br h8] (by kernel_rfl))
                          (fun h8 h =>
                            bind_cases h fun r3 h9 h =>
                            fin_fin Go.Proofs.Try.func42 mix 1000 [.call [] (impl_areBalls.calls h1), .br h2, .call [] (impl_apart.calls h3), .br h4, .br h5, .br h6, .br h7, .br h8, .call [] (impl_power.calls h9), .fin 100000 [0, 4, 5, 6, 10, 11] [(4, 4), (5, 5), (6, 6)] (impl_PairedMover.l16_ok fuelN a0 (W (r3 - (W (a1.c1 * a2.c1)))) (W (a1.c2 + a2.c2)) a1.c0 a1.c1 a1.c2 a2.c0 a2.c1 a2.c2 0 0 0 0 r h)] (by kernel_rfl)))
                      (fun h7 h =>
                        bind_cases h fun r4 h10 h =>
                        fin_fin Go.Proofs.Try.func42 mix 1000 [.call [] (impl_areBalls.calls h1), .br h2, .call [] (impl_apart.calls h3), .br h4, .br h5, .br h6, .br h7, .call [] (impl_power.calls h10), .fin 100000 [0, 4, 5, 6, 10, 11] [(4, 4), (5, 5), (6, 6)] (impl_PairedMover.l16_ok fuelN a0 (W (1 - (W ((W (a1.c1 * a2.c1)) * r4)))) (W (0 - (W ((W (a1.c0 + a2.c0)) - 1)))) a1.c0 a1.c1 a1.c2 a2.c0 a2.c1 a2.c2 0 0 0 0 r h)] (by kernel_rfl))))))

theorem spec_l09Paired.j22_ok (rec19 : Int → Int → Int → Int → Int → Int → Int → Int → Int → Int → Option (Siiii × Bool)) (rec19H : ∀ (v14 : Int) (v17 : Int) (o6_0 : Int) (o6_1 : Int) (o6_2 : Int) (o6_3 : Int) (o13_0 : Int) (o13_1 : Int) (o13_2 : Int) (o13_3 : Int) (r : (Siiii × Bool)), rec19 v14 v17 o6_0 o6_1 o6_2 o6_3 o13_0 o13_1 o13_2 o13_3 = some r → Eng.Fin Go.Proofs.Try.prog 107 [] [] (.tu [.ag (Siiii.cells r.1), B r.2]) (itsL 19 (bodyOf Go.Proofs.Try.f107)) (mkS 153 [(6, .bx 6 0), (13, .bx 13 0), (14, I v14), (17, I v17)] [(6, .box [I o6_0, I o6_1, I o6_2, I o6_3]), (13, .box [I o13_0, I o13_1, I o13_2, I o13_3])])) : ∀ (v14 : Int) (v17 : Int) (o6_0 : Int) (o6_1 : Int) (o6_2 : Int) (o6_3 : Int) (o13_0 : Int) (o13_1 : Int) (o13_2 : Int) (o13_3 : Int) (r : (Siiii × Bool)), (spec_l09Paired.j22 rec19) v14 v17 o6_0 o6_1 o6_2 o6_3 o13_0 o13_1 o13_2 o13_3 = some r → Eng.Fin Go.Proofs.Try.prog 107 [] [] (.tu [.ag (Siiii.cells r.1), B r.2]) (itsR 22 (bodyOf Go.Proofs.Try.f107)) (mkS 153 [(6, .bx 6 0), (13, .bx 13 0), (14, I v14), (17, I v17)] [(6, .box [I o6_0, I o6_1, I o6_2, I o6_3]), (13, .box [I o13_0, I o13_1, I o13_2, I o13_3])]) :=
  fun v14 v17 o6_0 o6_1 o6_2 o6_3 o13_0 o13_1 o13_2 o13_3 r h =>
    ifE_cases h
      (fun h1 h =>
        bind_cases h fun r13 h2 h =>
        ifE_cases h
          (fun h3 h =>
            leaf h fun e => by subst e; exact fin_ret Go.Proofs.Try.func107 mix 1000 [.num (eq_of h1), .call [] (spec_l01In.calls h2), .br h3] (by kernel_rfl))
          (fun h3 h =>
            fin_fin Go.Proofs.Try.func107 mix 1000 [.num (eq_of h1), .call [] (spec_l01In.calls h2), .br h3, .fin 100000 [6, 13, 14, 17] [(6, 6), (13, 13)] (rec19H v14 (W (v17 + 1)) o6_0 o6_1 o6_2 o6_3 o13_0 o13_1 o13_2 o13_3 r h)] (by kernel_rfl)))
      (fun h1 h =>
        ifE_cases h
          (fun h4 h =>
            bind_cases h fun r14 h5 h =>
            ifE_cases h
              (fun h6 h =>
                leaf h fun e => by subst e; exact fin_ret Go.Proofs.Try.func107 mix 1000 [.num (eq_of h4), .call [] (spec_l01In.calls h5), .br h6] (by kernel_rfl))
              (fun h6 h =>
                fin_fin Go.Proofs.Try.func107 mix 1000 [.num (eq_of h4), .call [] (spec_l01In.calls h5), .br h6, .fin 100000 [6, 13, 14, 17] [(6, 6), (13, 13)] (rec19H v14 (W (v17 + 1)) o6_0 o6_1 o6_2 o6_3 o13_0 o13_1 o13_2 o13_3 r h)] (by kernel_rfl)))
          (fun h4 h =>
            ifE_cases h
              (fun h7 h =>
                bind_cases h fun r15 h8 h =>
                ifE_cases h
                  (fun h9 h =>
                    leaf h fun e => by subst e; exact fin_ret Go.Proofs.Try.func107 mix 1000 [.num (eq_of h7), .call [] (spec_l01In.calls h8), .br h9] (by kernel_rfl))
                  (fun h9 h =>
                    fin_fin Go.Proofs.Try.func107 mix 1000 [.num (eq_of h7), .call [] (spec_l01In.calls h8), .br h9, .fin 100000 [6, 13, 14, 17] [(6, 6), (13, 13)] (rec19H v14 (W (v17 + 1)) o6_0 o6_1 o6_2 o6_3 o13_0 o13_1 o13_2 o13_3 r h)] (by kernel_rfl)))
              (fun h7 h =>
                ifE_cases h
                  (fun h10 h =>
                    bind_cases h fun r16 h11 h =>
                    ifE_cases h
                      (fun h12 h =>
                        leaf h fun e => by subst e; exact fin_ret Go.Proofs.Try.func107 mix 1000 [.num (eq_of h10), .call [] (spec_l01In.calls h11), .br h12] (by kernel_rfl))
                      (fun h12 h =>
                        fin_fin Go.Proofs.Try.func107 mix 1000 [.num (eq_of h10), .call [] (spec_l01In.calls h11), .br h12, .fin 100000 [6, 13, 14, 17] [(6, 6), (13, 13)] (rec19H v14 (W (v17 + 1)) o6_0 o6_1 o6_2 o6_3 o13_0 o13_1 o13_2 o13_3 r h)] (by kernel_rfl)))
                  (fun h10 h =>
                    nomatch h))))

theorem spec_l09Paired.l19_ok (k : Nat) : ∀ (v14 : Int) (v17 : Int) (o6_0 : Int) (o6_1 : Int) (o6_2 : Int) (o6_3 : Int) (o13_0 : Int) (o13_1 : Int) (o13_2 : Int) (o13_3 : Int) (r : (Siiii × Bool)), (spec_l09Paired.l19 k) v14 v17 o6_0 o6_1 o6_2 o6_3 o13_0 o13_1 o13_2 o13_3 = some r → Eng.Fin Go.Proofs.Try.prog 107 [] [] (.tu [.ag (Siiii.cells r.1), B r.2]) (itsL 19 (bodyOf Go.Proofs.Try.f107)) (mkS 153 [(6, .bx 6 0), (13, .bx 13 0), (14, I v14), (17, I v17)] [(6, .box [I o6_0, I o6_1, I o6_2, I o6_3]), (13, .box [I o13_0, I o13_1, I o13_2, I o13_3])]) := by
  induction k with
  | zero => intro v14 v17 o6_0 o6_1 o6_2 o6_3 o13_0 o13_1 o13_2 o13_3 r h; exact nomatch h
  | succ k ih =>
    exact fun v14 v17 o6_0 o6_1 o6_2 o6_3 o13_0 o13_1 o13_2 o13_3 r h =>
      ifE_cases h
        (fun h1 h =>
          ifE_cases h
            (fun h2 h =>
              guardE_cases h fun h3 h =>
              fin_fin Go.Proofs.Try.func107 mix 1000 [.unroll, .br h1, .num (eq_of h2), .nz h3, .num (eq_of h2), .fin 22 [6, 13, 14, 17] [(6, 6), (13, 13)] (spec_l09Paired.j22_ok (spec_l09Paired.l19 k) ih v14 v17 o6_0 o6_1 o6_2 o6_3 (W (Int.tdiv o13_0 v14)) o13_1 o13_2 o13_3 r h)] (by kernel_rfl))
            (fun h2 h =>
              ifE_cases h
                (fun h4 h =>
                  guardE_cases h fun h5 h =>
                  fin_fin Go.Proofs.Try.func107 mix 1000 [.unroll, .br h1, .num (eq_of h4), .nz h5, .num (eq_of h4), .fin 22 [6, 13, 14, 17] [(6, 6), (13, 13)] (spec_l09Paired.j22_ok (spec_l09Paired.l19 k) ih v14 v17 o6_0 o6_1 o6_2 o6_3 o13_0 (W (Int.tdiv o13_1 v14)) o13_2 o13_3 r h)] (by kernel_rfl))
                (fun h4 h =>
                  ifE_cases h
                    (fun h6 h =>
                      guardE_cases h fun h7 h =>
                      fin_fin Go.Proofs.Try.func107 mix 1000 [.unroll, .br h1, .num (eq_of h6), .nz h7, .num (eq_of h6), .fin 22 [6, 13, 14, 17] [(6, 6), (13, 13)] (spec_l09Paired.j22_ok (spec_l09Paired.l19 k) ih v14 v17 o6_0 o6_1 o6_2 o6_3 o13_0 o13_1 (W (Int.tdiv o13_2 v14)) o13_3 r h)] (by kernel_rfl))
                    (fun h6 h =>
                      ifE_cases h
                        (fun h8 h =>
                          guardE_cases h fun h9 h =>
                          fin_fin Go.Proofs.Try.func107 mix 1000 [.unroll, .br h1, .num (eq_of h8), .nz h9, .num (eq_of h8), .fin 22 [6, 13, 14, 17] [(6, 6), (13, 13)] (spec_l09Paired.j22_ok (spec_l09Paired.l19 k) ih v14 v17 o6_0 o6_1 o6_2 o6_3 o13_0 o13_1 o13_2 (W (Int.tdiv o13_3 v14)) r h)] (by kernel_rfl))
                        (fun h8 h =>
                          nomatch h)))))
        (fun h1 h =>
          leaf h fun e => by subst e; exact fin_ret Go.Proofs.Try.func107 mix 1000 [.unroll, .br h1] (by kernel_rfl))

theorem spec_l09Paired.l13_ok (k : Nat) : ∀ (v14 : Int) (v16 : Int) (o6_0 : Int) (o6_1 : Int) (o6_2 : Int) (o6_3 : Int) (o13_0 : Int) (o13_1 : Int) (o13_2 : Int) (o13_3 : Int) (r : (Siiii × Bool)), (spec_l09Paired.l13 k) v14 v16 o6_0 o6_1 o6_2 o6_3 o13_0 o13_1 o13_2 o13_3 = some r → Eng.Fin Go.Proofs.Try.prog 107 [] [] (.tu [.ag (Siiii.cells r.1), B r.2]) (itsL 13 (bodyOf Go.Proofs.Try.f107)) (mkS 153 [(6, .bx 6 0), (13, .bx 13 0), (14, I v14), (16, I v16)] [(6, .box [I o6_0, I o6_1, I o6_2, I o6_3]), (13, .box [I o13_0, I o13_1, I o13_2, I o13_3])]) := by
  induction k with
  | zero => intro v14 v16 o6_0 o6_1 o6_2 o6_3 o13_0 o13_1 o13_2 o13_3 r h; exact nomatch h
  | succ k ih =>
    exact fun v14 v16 o6_0 o6_1 o6_2 o6_3 o13_0 o13_1 o13_2 o13_3 r h =>
      ifE_cases h
        (fun h1 h =>
          ifE_cases h
            (fun h2 h =>
              ifE_cases h
                (fun h3 h =>
                  ifE_cases h
                    (fun h4 h =>
                      fin_fin Go.Proofs.Try.func107 mix 1000 [.unroll, .br h1, .num (eq_of h2), .br h3, .num (eq_of h2), .br h4, .fin 100000 [6, 13, 14, 17] [(6, 6), (13, 13)] (spec_l09Paired.l19_ok fuelN (W (0 - v14)) 0 o6_0 o6_1 o6_2 o6_3 o13_0 o13_1 o13_2 o13_3 r h)] (by kernel_rfl))
                    (fun h4 h =>
                      fin_fin Go.Proofs.Try.func107 mix 1000 [.unroll, .br h1, .num (eq_of h2), .br h3, .num (eq_of h2), .br h4, .fin 100000 [6, 13, 14, 17] [(6, 6), (13, 13)] (spec_l09Paired.l19_ok fuelN v14 0 o6_0 o6_1 o6_2 o6_3 o13_0 o13_1 o13_2 o13_3 r h)] (by kernel_rfl)))
                (fun h3 h =>
                  fin_fin Go.Proofs.Try.func107 mix 1000 [.unroll, .br h1, .num (eq_of h2), .br h3, .fin 100000 [6, 13, 14, 16] [(6, 6), (13, 13)] (ih v14 (W (v16 + 1)) o6_0 o6_1 o6_2 o6_3 o13_0 o13_1 o13_2 o13_3 r h)] (by kernel_rfl)))
            (fun h2 h =>
              ifE_cases h
                (fun h5 h =>
                  ifE_cases h
                    (fun h6 h =>
                      ifE_cases h
                        (fun h7 h =>
                          fin_fin Go.Proofs.Try.func107 mix 1000 [.unroll, .br h1, .num (eq_of h5), .br h6, .num (eq_of h5), .br h7, .fin 100000 [6, 13, 14, 17] [(6, 6), (13, 13)] (spec_l09Paired.l19_ok fuelN (W (0 - v14)) 0 o6_0 o6_1 o6_2 o6_3 o13_0 o13_1 o13_2 o13_3 r h)] (by kernel_rfl))
                        (fun h7 h =>
                          fin_fin Go.Proofs.Try.func107 mix 1000 [.unroll, .br h1, .num (eq_of h5), .br h6, .num (eq_of h5), .br h7, .fin 100000 [6, 13, 14, 17] [(6, 6), (13, 13)] (spec_l09Paired.l19_ok fuelN v14 0 o6_0 o6_1 o6_2 o6_3 o13_0 o13_1 o13_2 o13_3 r h)] (by kernel_rfl)))
                    (fun h6 h =>
                      fin_fin Go.Proofs.Try.func107 mix 1000 [.unroll, .br h1, .num (eq_of h5), .br h6, .fin 100000 [6, 13, 14, 16] [(6, 6), (13, 13)] (ih v14 (W (v16 + 1)) o6_0 o6_1 o6_2 o6_3 o13_0 o13_1 o13_2 o13_3 r h)] (by kernel_rfl)))
                (fun h5 h =>
                  ifE_cases h
                    (fun h8 h =>
                      ifE_cases h
                        (fun h9 h =>
                          ifE_cases h
                            (fun h10 h =>
                              fin_fin Go.Proofs.Try.func107 mix 1000 [.unroll, .br h1, .num (eq_of h8), .br h9, .num (eq_of h8), .br h10, .fin 100000 [6, 13, 14, 17] [(6, 6), (13, 13)] (spec_l09Paired.l19_ok fuelN (W (0 - v14)) 0 o6_0 o6_1 o6_2 o6_3 o13_0 o13_1 o13_2 o13_3 r h)] (by kernel_rfl))
                            (fun h10 h =>
                              fin_fin Go.Proofs.Try.func107 mix 1000 [.unroll, .br h1, .num (eq_of h8), .br h9, .num (eq_of h8), .br h10, .fin 100000 [6, 13, 14, 17] [(6, 6), (13, 13)] (spec_l09Paired.l19_ok fuelN v14 0 o6_0 o6_1 o6_2 o6_3 o13_0 o13_1 o13_2 o13_3 r h)] (by kernel_rfl)))
                        (fun h9 h =>
                          fin_fin Go.Proofs.Try.func107 mix 1000 [.unroll, .br h1, .num (eq_of h8), .br h9, .fin 100000 [6, 13, 14, 16] [(6, 6), (13, 13)] (ih v14 (W (v16 + 1)) o6_0 o6_1 o6_2 o6_3 o13_0 o13_1 o13_2 o13_3 r h)] (by kernel_rfl)))
                    (fun h8 h =>
                      ifE_cases h
                        (fun h11 h =>
                          ifE_cases h
                            (fun h12 h =>
                              ifE_cases h
                                (fun h13 h =>
                                  fin_fin Go.Proofs.Try.func107 mix 1000 [.unroll, .br h1, .num (eq_of h11), .br h12, .num (eq_of h11), .br h13, .fin 100000 [6, 13, 14, 17] [(6, 6), (13, 13)] (spec_l09Paired.l19_ok fuelN (W (0 - v14)) 0 o6_0 o6_1 o6_2 o6_3 o13_0 o13_1 o13_2 o13_3 r h)] (by kernel_rfl))
                                (fun h13 h =>
                                  fin_fin Go.Proofs.Try.func107 mix 1000 [.unroll, .br h1, .num (eq_of h11), .br h12, .num (eq_of h11), .br h13, .fin 100000 [6, 13, 14, 17] [(6, 6), (13, 13)] (spec_l09Paired.l19_ok fuelN v14 0 o6_0 o6_1 o6_2 o6_3 o13_0 o13_1 o13_2 o13_3 r h)] (by kernel_rfl)))
                            (fun h12 h =>
                              fin_fin Go.Proofs.Try.func107 mix 1000 [.unroll, .br h1, .num (eq_of h11), .br h12, .fin 100000 [6, 13, 14, 16] [(6, 6), (13, 13)] (ih v14 (W (v16 + 1)) o6_0 o6_1 o6_2 o6_3 o13_0 o13_1 o13_2 o13_3 r h)] (by kernel_rfl)))
                        (fun h11 h =>
                          nomatch h)))))
        (fun h1 h =>
          fin_fin Go.Proofs.Try.func107 mix 1000 [.unroll, .br h1, .fin 100000 [6, 13, 14, 17] [(6, 6), (13, 13)] (spec_l09Paired.l19_ok fuelN v14 0 o6_0 o6_1 o6_2 o6_3 o13_0 o13_1 o13_2 o13_3 r h)] (by kernel_rfl))

theorem spec_l09Paired.l8_ok (k : Nat) : ∀ (v14 : Int) (v15 : Int) (o6_0 : Int) (o6_1 : Int) (o6_2 : Int) (o6_3 : Int) (o13_0 : Int) (o13_1 : Int) (o13_2 : Int) (o13_3 : Int) (r : (Siiii × Bool)), (spec_l09Paired.l8 k) v14 v15 o6_0 o6_1 o6_2 o6_3 o13_0 o13_1 o13_2 o13_3 = some r → Eng.Fin Go.Proofs.Try.prog 107 [] [] (.tu [.ag (Siiii.cells r.1), B r.2]) (itsL 8 (bodyOf Go.Proofs.Try.f107)) (mkS 153 [(6, .bx 6 0), (13, .bx 13 0), (14, I v14), (15, I v15)] [(6, .box [I o6_0, I o6_1, I o6_2, I o6_3]), (13, .box [I o13_0, I o13_1, I o13_2, I o13_3])]) := by
  induction k with
  | zero => intro v14 v15 o6_0 o6_1 o6_2 o6_3 o13_0 o13_1 o13_2 o13_3 r h; exact nomatch h
  | succ k ih =>
    exact fun v14 v15 o6_0 o6_1 o6_2 o6_3 o13_0 o13_1 o13_2 o13_3 r h =>
      ifE_cases h
        (fun h1 h =>
          ifE_cases h
            (fun h2 h =>
              ifE_cases h
                (fun h3 h =>
                  bind_cases h fun r5 h4 h =>
                  fin_fin Go.Proofs.Try.func107 mix 1000 [.unroll, .br h1, .num (eq_of h2), .br h3, .num (eq_of h2), .call [] (spec_l01Gcd.calls h4), .fin 100000 [6, 13, 14, 15] [(6, 6), (13, 13)] (ih r5 (W (v15 + 1)) o6_0 o6_1 o6_2 o6_3 o13_0 o13_1 o13_2 o13_3 r h)] (by kernel_rfl))
                (fun h3 h =>
                  ifE_cases h
                    (fun h5 h =>
                      bind_cases h fun r6 h6 h =>
                      fin_fin Go.Proofs.Try.func107 mix 1000 [.unroll, .br h1, .num (eq_of h2), .br h3, .br h5, .num (eq_of h2), .call [] (spec_l01Gcd.calls h6), .fin 100000 [6, 13, 14, 15] [(6, 6), (13, 13)] (ih r6 (W (v15 + 1)) o6_0 o6_1 o6_2 o6_3 o13_0 o13_1 o13_2 o13_3 r h)] (by kernel_rfl))
                    (fun h5 h =>
                      fin_fin Go.Proofs.Try.func107 mix 1000 [.unroll, .br h1, .num (eq_of h2), .br h3, .br h5, .fin 100000 [6, 13, 14, 15] [(6, 6), (13, 13)] (ih v14 (W (v15 + 1)) o6_0 o6_1 o6_2 o6_3 o13_0 o13_1 o13_2 o13_3 r h)] (by kernel_rfl))))
            (fun h2 h =>
              ifE_cases h
                (fun h7 h =>
                  ifE_cases h
                    (fun h8 h =>
                      bind_cases h fun r7 h9 h =>
                      fin_fin Go.Proofs.Try.func107 mix 1000 [.unroll, .br h1, .num (eq_of h7), .br h8, .num (eq_of h7), .call [] (spec_l01Gcd.calls h9), .fin 100000 [6, 13, 14, 15] [(6, 6), (13, 13)] (ih r7 (W (v15 + 1)) o6_0 o6_1 o6_2 o6_3 o13_0 o13_1 o13_2 o13_3 r h)] (by kernel_rfl))
                    (fun h8 h =>
                      ifE_cases h
                        (fun h10 h =>
                          bind_cases h fun r8 h11 h =>
                          fin_fin Go.Proofs.Try.func107 mix 1000 [.unroll, .br h1, .num (eq_of h7), .br h8, .br h10, .num (eq_of h7), .call [] (spec_l01Gcd.calls h11), .fin 100000 [6, 13, 14, 15] [(6, 6), (13, 13)] (ih r8 (W (v15 + 1)) o6_0 o6_1 o6_2 o6_3 o13_0 o13_1 o13_2 o13_3 r h)] (by kernel_rfl))
                        (fun h10 h =>
                          fin_fin Go.Proofs.Try.func107 mix 1000 [.unroll, .br h1, .num (eq_of h7), .br h8, .br h10, .fin 100000 [6, 13, 14, 15] [(6, 6), (13, 13)] (ih v14 (W (v15 + 1)) o6_0 o6_1 o6_2 o6_3 o13_0 o13_1 o13_2 o13_3 r h)] (by kernel_rfl))))
                (fun h7 h =>
                  ifE_cases h
                    (fun h12 h =>
                      ifE_cases h
                        (fun h13 h =>
                          bind_cases h fun r9 h14 h =>
                          fin_fin Go.Proofs.Try.func107 mix 1000 [.unroll, .br h1, .num (eq_of h12), .br h13, .num (eq_of h12), .call [] (spec_l01Gcd.calls h14), .fin 100000 [6, 13, 14, 15] [(6, 6), (13, 13)] (ih r9 (W (v15 + 1)) o6_0 o6_1 o6_2 o6_3 o13_0 o13_1 o13_2 o13_3 r h)] (by kernel_rfl))
                        (fun h13 h =>
                          ifE_cases h
                            (fun h15 h =>
                              bind_cases h fun r10 h16 h =>
                              fin_fin Go.Proofs.Try.func107 mix 1000 [.unroll, .br h1, .num (eq_of h12), .br h13, .br h15, .num (eq_of h12), .call [] (spec_l01Gcd.calls h16), .fin 100000 [6, 13, 14, 15] [(6, 6), (13, 13)] (ih r10 (W (v15 + 1)) o6_0 o6_1 o6_2 o6_3 o13_0 o13_1 o13_2 o13_3 r h)] (by kernel_rfl))
                            (fun h15 h =>
                              fin_fin Go.Proofs.Try.func107 mix 1000 [.unroll, .br h1, .num (eq_of h12), .br h13, .br h15, .fin 100000 [6, 13, 14, 15] [(6, 6), (13, 13)] (ih v14 (W (v15 + 1)) o6_0 o6_1 o6_2 o6_3 o13_0 o13_1 o13_2 o13_3 r h)] (by kernel_rfl))))
                    (fun h12 h =>
                      ifE_cases h
                        (fun h17 h =>
                          ifE_cases h
                            (fun h18 h =>
                              bind_cases h fun r11 h19 h =>
                              fin_fin Go.Proofs.Try.func107 mix 1000 [.unroll, .br h1, .num (eq_of h17), .br h18, .num (eq_of h17), .call [] (spec_l01Gcd.calls h19), .fin 100000 [6, 13, 14, 15] [(6, 6), (13, 13)] (ih r11 (W (v15 + 1)) o6_0 o6_1 o6_2 o6_3 o13_0 o13_1 o13_2 o13_3 r h)] (by kernel_rfl))
                            (fun h18 h =>
                              ifE_cases h
                                (fun h20 h =>
                                  bind_cases h fun r12 h21 h =>
                                  fin_fin Go.Proofs.Try.func107 mix 1000 [.unroll, .br h1, .num (eq_of h17), .br h18, .br h20, .num (eq_of h17), .call [] (spec_l01Gcd.calls h21), .fin 100000 [6, 13, 14, 15] [(6, 6), (13, 13)] (ih r12 (W (v15 + 1)) o6_0 o6_1 o6_2 o6_3 o13_0 o13_1 o13_2 o13_3 r h)] (by kernel_rfl))
                                (fun h20 h =>
                                  fin_fin Go.Proofs.Try.func107 mix 1000 [.unroll, .br h1, .num (eq_of h17), .br h18, .br h20, .fin 100000 [6, 13, 14, 15] [(6, 6), (13, 13)] (ih v14 (W (v15 + 1)) o6_0 o6_1 o6_2 o6_3 o13_0 o13_1 o13_2 o13_3 r h)] (by kernel_rfl))))
                        (fun h17 h =>
                          nomatch h)))))
        (fun h1 h =>
          fin_fin Go.Proofs.Try.func107 mix 1000 [.unroll, .br h1, .fin 100000 [6, 13, 14, 16] [(6, 6), (13, 13)] (spec_l09Paired.l13_ok fuelN v14 0 o6_0 o6_1 o6_2 o6_3 o13_0 o13_1 o13_2 o13_3 r h)] (by kernel_rfl))

theorem spec_l09Paired.j4_ok : ∀ (v0 : Int) (v8 : Int) (o4_0 : Int) (o4_1 : Int) (o4_2 : Int) (o5_0 : Int) (o5_1 : Int) (o5_2 : Int) (o6_0 : Int) (o6_1 : Int) (o6_2 : Int) (o6_3 : Int) (r : (Siiii × Bool)), (spec_l09Paired.j4) v0 v8 o4_0 o4_1 o4_2 o5_0 o5_1 o5_2 o6_0 o6_1 o6_2 o6_3 = some r → Eng.Fin Go.Proofs.Try.prog 107 [] [] (.tu [.ag (Siiii.cells r.1), B r.2]) (itsR 4 (bodyOf Go.Proofs.Try.f107)) (mkS 153 [(0, I v0), (4, .bx 4 0), (5, .bx 5 0), (6, .bx 6 0), (8, I v8)] [(4, .box [I o4_0, I o4_1, I o4_2]), (5, .box [I o5_0, I o5_1, I o5_2]), (6, .box [I o6_0, I o6_1, I o6_2, I o6_3])]) :=
  fun v0 v8 o4_0 o4_1 o4_2 o5_0 o5_1 o5_2 o6_0 o6_1 o6_2 o6_3 r h =>
    bind_cases h fun r1 h1 h =>
    bind_cases h fun r2 h2 h =>
    bind_cases h fun r3 h3 h =>
    bind_cases h fun r4 h4 h =>
    fin_fin Go.Proofs.Try.func107 mix 1000 [.call [] (spec_l01Power.calls h1), .call [] (spec_l01Power.calls h2), .call [] (spec_l01Power.calls h3), .call [] (spec_l01Power.calls h4), .fin 100000 [6, 13, 14, 15] [(6, 6), (13, 13)] (spec_l09Paired.l8_ok fuelN 0 0 o6_0 o6_1 o6_2 o6_3 (W ((W (o5_1 * r1)) * r4)) (W ((W ((W (r3 * r1)) * r2)) - (W ((W (o4_1 * o5_1)) * r4)))) (W ((W (r1 * r2)) * r4)) (W ((W ((W (0 - o4_1)) * r2)) * r4)) r h)] (by kernel_rfl)

theorem spec_l09Paired.calls {a0 : Int} {a1 : Siii} {a2 : Siii} {r : (Siiii × Bool)} (h : spec_l09Paired.f a0 a1 a2 = some r) : Eng.Fn Go.Proofs.Try.prog 107 [I a0, .ag (Siii.cells a1), .ag (Siii.cells a2)] [] [] (.tu [.ag (Siiii.cells r.1), B r.2]) :=
  fn_fin Go.Proofs.Try.func107 (c := bodyOf Go.Proofs.Try.f107) (by kernel_rfl) (by kernel_rfl) <|
    ifE_cases h
      (fun h1 h =>
        leaf h fun e => by subst e; exact fin_ret Go.Proofs.Try.func107 mix 1000 [.br h1] (by kernel_rfl))
      (fun h1 h =>
        ifE_cases h
          (fun h2 h =>
            leaf h fun e => by subst e; exact fin_ret Go.Proofs.Try.func107 mix 1000 [.br h1, .br h2] (by kernel_rfl))
          (fun h2 h =>
            ifE_cases h
              (fun h3 h =>
                ifE_cases h
                  (fun h4 h =>
                    leaf h fun e => by subst e; exact fin_ret Go.Proofs.Try.func107 mix 1000 [.br h1, .br h2, .br h3, .br h4] (by kernel_rfl))
                  (fun h4 h =>
                    fin_fin Go.Proofs.Try.func107 mix 1000 [.br h1, .br h2, .br h3, .br h4, .fin 4 [0, 4, 5, 6, 8] [(4, 4), (5, 5), (6, 6)] (spec_l09Paired.j4_ok a0 (W ((W (a1.c0 + a2.c0)) - 1)) a1.c0 a1.c1 a1.c2 a2.c0 a2.c1 a2.c2 0 0 0 0 r h)] (by kernel_rfl)))
              (fun h3 h =>
                fin_fin Go.Proofs.Try.func107 mix 1000 [.br h1, .br h2, .br h3, .fin 4 [0, 4, 5, 6, 8] [(4, 4), (5, 5), (6, 6)] (spec_l09Paired.j4_ok a0 (W ((W (a1.c0 + a2.c0)) - 1)) a1.c0 a1.c1 a1.c2 a2.c0 a2.c1 a2.c2 0 0 0 0 r h)] (by kernel_rfl))))

theorem spec_PairedMover.calls {a0 : Int} {a1 : Siii} {a2 : Siii} {r : (Siiii × Int)} (h : spec_PairedMover.f a0 a1 a2 = some r) : Eng.Fn Go.Proofs.Try.prog 43 [I a0, .ag (Siii.cells a1), .ag (Siii.cells a2)] [] [] (.tu [.ag (Siiii.cells r.1), I r.2]) :=
  fn_fin Go.Proofs.Try.func43 (c := bodyOf Go.Proofs.Try.f43) (by kernel_rfl) (by kernel_rfl) <|
    bind_cases h fun r1 h1 h =>
    ifE_cases h
      (fun h2 h =>
        leaf h fun e => by subst e; exact fin_ret Go.Proofs.Try.func43 mix 1000 [.call [] (spec_l01Code.calls h1), .br h2] (by kernel_rfl))
      (fun h2 h =>
        bind_cases h fun r2 h3 h =>
        ifE_cases h
          (fun h4 h =>
            leaf h fun e => by subst e; exact fin_ret Go.Proofs.Try.func43 mix 1000 [.call [] (spec_l01Code.calls h1), .br h2, .call [] (spec_l01Holds.calls h3), .br h4] (by kernel_rfl))
          (fun h4 h =>
            bind_cases h fun r3 h5 h =>
            ifE_cases h
              (fun h6 h =>
                leaf h fun e => by subst e; exact fin_ret Go.Proofs.Try.func43 mix 1000 [.call [] (spec_l01Code.calls h1), .br h2, .call [] (spec_l01Holds.calls h3), .br h4, .call [] (spec_l01Holds.calls h5), .br h6] (by kernel_rfl))
              (fun h6 h =>
                bind_cases h fun r4 h7 h =>
                ifE_cases h
                  (fun h8 h =>
                    leaf h fun e => by subst e; exact fin_ret Go.Proofs.Try.func43 mix 1000 [.call [] (spec_l01Code.calls h1), .br h2, .call [] (spec_l01Holds.calls h3), .br h4, .call [] (spec_l01Holds.calls h5), .br h6, .call [] (spec_l09Paired.calls h7), .br h8] (by kernel_rfl))
                  (fun h8 h =>
                    leaf h fun e => by subst e; exact fin_ret Go.Proofs.Try.func43 mix 1000 [.call [] (spec_l01Code.calls h1), .br h2, .call [] (spec_l01Holds.calls h3), .br h4, .call [] (spec_l01Holds.calls h5), .br h6, .call [] (spec_l09Paired.calls h7), .br h8] (by kernel_rfl)))))

theorem impl_apartSides.j3_ok : ∀ (v0 : Int) (o4_0 : Int) (o4_1 : Int) (o4_2 : Int) (o4_3 : Bool) (o5_0 : Int) (o5_1 : Int) (o5_2 : Int) (o5_3 : Bool) (r : Bool), (impl_apartSides.j3) v0 o4_0 o4_1 o4_2 o4_3 o5_0 o5_1 o5_2 o5_3 = some r → Eng.Fin Go.Proofs.Try.prog 112 [] [] (B r) (itsR 3 (bodyOf Go.Proofs.Try.f112)) (mkS 38 [(0, I v0), (4, .bx 4 0), (5, .bx 5 0)] [(4, .box [I o4_0, I o4_1, I o4_2, B o4_3]), (5, .box [I o5_0, I o5_1, I o5_2, B o5_3])]) :=
  fun v0 o4_0 o4_1 o4_2 o4_3 o5_0 o5_1 o5_2 o5_3 r h =>
    ifE_cases h
      (fun h1 h =>
        bind_cases h fun r1 h2 h =>
        leaf h fun e => by subst e; exact fin_ret Go.Proofs.Try.func112 mix 1000 [.br h1, .call [] (impl_holds.calls h2)] (by kernel_rfl))
      (fun h1 h =>
        ifE_cases h
          (fun h3 h =>
            bind_cases h fun r2 h4 h =>
            leaf h fun e => by subst e; exact fin_ret Go.Proofs.Try.func112 mix 1000 [.br h1, .br h3, .call [] (impl_holds.calls h4)] (by kernel_rfl))
          (fun h3 h =>
            bind_cases h fun r3 h5 h =>
            leaf h fun e => by subst e; exact fin_ret Go.Proofs.Try.func112 mix 1000 [.br h1, .br h3, .call [] (impl_apart.calls h5)] (by kernel_rfl)))

theorem impl_apartSides.calls {a0 : Int} {a1 : Siiib} {a2 : Siiib} {r : Bool} (h : impl_apartSides.f a0 a1 a2 = some r) : Eng.Fn Go.Proofs.Try.prog 112 [I a0, .ag (Siiib.cells a1), .ag (Siiib.cells a2)] [] [] (B r) :=
  fn_fin Go.Proofs.Try.func112 (c := bodyOf Go.Proofs.Try.f112) (by kernel_rfl) (by kernel_rfl) <|
    ifE_cases h
      (fun h1 h =>
        ifE_cases h
          (fun h2 h =>
            leaf h fun e => by subst e; exact fin_ret Go.Proofs.Try.func112 mix 1000 [.br h1, .br h2] (by kernel_rfl))
          (fun h2 h =>
            fin_fin Go.Proofs.Try.func112 mix 1000 [.br h1, .br h2, .fin 3 [0, 4, 5] [(4, 4), (5, 5)] (impl_apartSides.j3_ok a0 a1.c0 a1.c1 a1.c2 a1.c3 a2.c0 a2.c1 a2.c2 a2.c3 r h)] (by kernel_rfl)))
      (fun h1 h =>
        fin_fin Go.Proofs.Try.func112 mix 1000 [.br h1, .fin 3 [0, 4, 5] [(4, 4), (5, 5)] (impl_apartSides.j3_ok a0 a1.c0 a1.c1 a1.c2 a1.c3 a2.c0 a2.c1 a2.c2 a2.c3 r h)] (by kernel_rfl))

theorem impl_opposite.calls {a0 : Siiib} {r : Siiib} (h : impl_opposite.f a0 = some r) : Eng.Fn Go.Proofs.Try.prog 185 [.ag (Siiib.cells a0)] [] [] (.ag (Siiib.cells r)) :=
  fn_fin Go.Proofs.Try.func185 (c := bodyOf Go.Proofs.Try.f185) (by kernel_rfl) (by kernel_rfl) <|
    leaf h fun e => by subst e; exact fin_ret Go.Proofs.Try.func185 mix 1000 [] (by kernel_rfl)

theorem impl_isFree.l5_ok (rec2 : Int → (List Siiii) → (List Siiib) → (List Siiib) → Int → Int → Option (Bool × Int)) (rec2H : ∀ (v0 : Int) (v1 : (List Siiii)) (v2 : (List Siiib)) (v16 : (List Siiib)) (v17 : Int) (v18 : Int) (r : (Bool × Int)), rec2 v0 v1 v2 v16 v17 v18 = some r → Eng.Fin Go.Proofs.Try.prog 164 [] [] (.tu [B r.1, I r.2]) (itsL 2 (bodyOf Go.Proofs.Try.f164)) (mkS 70 [(0, I v0), (1, R true 4 Siiii.cells v1), (2, R true 4 Siiib.cells v2), (16, R true 4 Siiib.cells v16), (17, I v17), (18, I v18)] [])) (k : Nat) : ∀ (v0 : Int) (v1 : (List Siiii)) (v2 : (List Siiib)) (v16 : (List Siiib)) (v17 : Int) (v18 : Int) (v25 : (List Siiib)) (v26 : Int) (v27 : Int) (o9_0 : Int) (o9_1 : Int) (o9_2 : Int) (o9_3 : Bool) (r : (Bool × Int)), (impl_isFree.l5 rec2 k) v0 v1 v2 v16 v17 v18 v25 v26 v27 o9_0 o9_1 o9_2 o9_3 = some r → Eng.Fin Go.Proofs.Try.prog 164 [] [] (.tu [B r.1, I r.2]) (itsL 5 (bodyOf Go.Proofs.Try.f164)) (mkS 70 [(0, I v0), (1, R true 4 Siiii.cells v1), (2, R true 4 Siiib.cells v2), (9, .bx 9 0), (16, R true 4 Siiib.cells v16), (17, I v17), (18, I v18), (25, R true 4 Siiib.cells v25), (26, I v26), (27, I v27)] [(9, .box [I o9_0, I o9_1, I o9_2, B o9_3])]) := by
  induction k with
  | zero => intro v0 v1 v2 v16 v17 v18 v25 v26 v27 o9_0 o9_1 o9_2 o9_3 r h; exact nomatch h
  | succ k ih =>
    exact fun v0 v1 v2 v16 v17 v18 v25 v26 v27 o9_0 o9_1 o9_2 o9_3 r h =>
      ifE_cases h
        (fun h1 h =>
          bind_cases h fun e3 h2 h =>
          bind_cases h fun r4 h3 h =>
          ifE_cases h
            (fun h4 h =>
              leaf h fun e => by subst e; exact fin_ret Go.Proofs.Try.func164 mix 1000 [.unroll, .br h1, .el (getE_el Siiib.cells h2), .call [] (impl_apartSides.calls h3), .br h4] (by kernel_rfl))
            (fun h4 h =>
              fin_fin Go.Proofs.Try.func164 mix 1000 [.unroll, .br h1, .el (getE_el Siiib.cells h2), .call [] (impl_apartSides.calls h3), .br h4, .fin 100000 [0, 1, 2, 9, 16, 17, 18, 25, 26, 27] [(9, 9)] (ih v0 v1 v2 v16 v17 v18 v25 v26 (W (v27 + 1)) o9_0 o9_1 o9_2 o9_3 r h)] (by kernel_rfl)))
        (fun h1 h =>
          fin_fin Go.Proofs.Try.func164 mix 1000 [.unroll, .br h1, .fin 100000 [0, 1, 2, 16, 17, 18] [] (rec2H v0 v1 v2 v16 v17 (W (v18 + 1)) r h)] (by kernel_rfl))

theorem impl_isFree.l12_ok (k : Nat) : ∀ (v0 : Int) (v2 : (List Siiib)) (v38 : (List Siiii)) (v39 : Int) (v40 : Int) (r : (Bool × Int)), (impl_isFree.l12 k) v0 v2 v38 v39 v40 = some r → Eng.Fin Go.Proofs.Try.prog 164 [] [] (.tu [B r.1, I r.2]) (itsL 12 (bodyOf Go.Proofs.Try.f164)) (mkS 70 [(0, I v0), (2, R true 4 Siiib.cells v2), (38, R true 4 Siiii.cells v38), (39, I v39), (40, I v40)] []) := by
  induction k with
  | zero => intro v0 v2 v38 v39 v40 r h; exact nomatch h
  | succ k ih =>
    exact fun v0 v2 v38 v39 v40 r h =>
      ifE_cases h
        (fun h1 h =>
          bind_cases h fun e5 h2 h =>
          bind_cases h fun e6 h3 h =>
          bind_cases h fun r7 h4 h =>
          bind_cases h fun r8 h5 h =>
          ifE_cases h
            (fun h6 h =>
              leaf h fun e => by subst e; exact fin_ret Go.Proofs.Try.func164 mix 1000 [.unroll, .br h1, .el (getE_el Siiii.cells h2), .el (getE_el Siiib.cells h3), .call [] (impl_opposite.calls h4), .call [] (impl_moveSide.calls h5), .br h6] (by kernel_rfl))
            (fun h6 h =>
              bind_cases h fun e9 h7 h =>
              ifE_cases h
                (fun h8 h =>
                  leaf h fun e => by subst e; exact fin_ret Go.Proofs.Try.func164 mix 1000 [.unroll, .br h1, .el (getE_el Siiii.cells h2), .el (getE_el Siiib.cells h3), .call [] (impl_opposite.calls h4), .call [] (impl_moveSide.calls h5), .br h6, .el (getE_el Siiib.cells h7), .br h8] (by kernel_rfl))
                (fun h8 h =>
                  fin_fin Go.Proofs.Try.func164 mix 1000 [.unroll, .br h1, .el (getE_el Siiii.cells h2), .el (getE_el Siiib.cells h3), .call [] (impl_opposite.calls h4), .call [] (impl_moveSide.calls h5), .br h6, .el (getE_el Siiib.cells h7), .br h8, .fin 100000 [0, 2, 38, 39, 40] [] (ih v0 v2 v38 v39 (W (v40 + 1)) r h)] (by kernel_rfl))))
        (fun h1 h =>
          leaf h fun e => by subst e; exact fin_ret Go.Proofs.Try.func164 mix 1000 [.unroll, .br h1] (by kernel_rfl))

theorem impl_isFree.l2_ok (k : Nat) : ∀ (v0 : Int) (v1 : (List Siiii)) (v2 : (List Siiib)) (v16 : (List Siiib)) (v17 : Int) (v18 : Int) (r : (Bool × Int)), (impl_isFree.l2 k) v0 v1 v2 v16 v17 v18 = some r → Eng.Fin Go.Proofs.Try.prog 164 [] [] (.tu [B r.1, I r.2]) (itsL 2 (bodyOf Go.Proofs.Try.f164)) (mkS 70 [(0, I v0), (1, R true 4 Siiii.cells v1), (2, R true 4 Siiib.cells v2), (16, R true 4 Siiib.cells v16), (17, I v17), (18, I v18)] []) := by
  induction k with
  | zero => intro v0 v1 v2 v16 v17 v18 r h; exact nomatch h
  | succ k ih =>
    exact fun v0 v1 v2 v16 v17 v18 r h =>
      ifE_cases h
        (fun h1 h =>
          bind_cases h fun e1 h2 h =>
          bind_cases h fun l2 h3 h =>
          fin_fin Go.Proofs.Try.func164 mix 1000 [.unroll, .br h1, .el (getE_el Siiib.cells h2), .seg (getS_seg Siiib.cells h3), .fin 100000 [0, 1, 2, 9, 16, 17, 18, 25, 26, 27] [(9, 9)] (impl_isFree.l5_ok (impl_isFree.l2 k) ih fuelN v0 v1 v2 v16 v17 v18 l2 (l2.length : Int) 0 e1.c0 e1.c1 e1.c2 e1.c3 r h)] (by kernel_rfl))
        (fun h1 h =>
          fin_fin Go.Proofs.Try.func164 mix 1000 [.unroll, .br h1, .fin 100000 [0, 2, 38, 39, 40] [] (impl_isFree.l12_ok fuelN v0 v2 v1 (v1.length : Int) 0 r h)] (by kernel_rfl))

theorem impl_isFree.calls {a0 : Int} {a1 : (List Siiii)} {a2 : (List Siiib)} {r : (Bool × Int)} (h : impl_isFree.f a0 a1 a2 = some r) : Eng.Fn Go.Proofs.Try.prog 164 [I a0, R true 4 Siiii.cells a1, R true 4 Siiib.cells a2] [] [] (.tu [B r.1, I r.2]) :=
  fn_fin Go.Proofs.Try.func164 (c := bodyOf Go.Proofs.Try.f164) (by kernel_rfl) (by kernel_rfl) <|
    fin_fin Go.Proofs.Try.func164 mix 1000 [.fin 100000 [0, 1, 2, 16, 17, 18] [] (impl_isFree.l2_ok fuelN a0 a1 a2 a2 (a2.length : Int) 0 r h)] (by kernel_rfl)

theorem impl_freeCode.calls {a0 : Int} {a1 : (List Siiii)} {a2 : (List Siiib)} {r : (Bool × Int)} (h : impl_freeCode.f a0 a1 a2 = some r) : Eng.Fn Go.Proofs.Try.prog 108 [I a0, R true 4 Siiii.cells a1, R true 4 Siiib.cells a2] [] [] (.tu [B r.1, I r.2]) :=
  fn_fin Go.Proofs.Try.func108 (c := bodyOf Go.Proofs.Try.f108) (by kernel_rfl) (by kernel_rfl) <|
    bind_cases h fun r1 h1 h =>
    ifE_cases h
      (fun h2 h =>
        leaf h fun e => by subst e; exact fin_ret Go.Proofs.Try.func108 mix 1000 [.call [] (impl_areSides.calls h1), .br h2] (by kernel_rfl))
      (fun h2 h =>
        bind_cases h fun r2 h3 h =>
        ifE_cases h
          (fun h4 h =>
            leaf h fun e => by subst e; exact fin_ret Go.Proofs.Try.func108 mix 1000 [.call [] (impl_areSides.calls h1), .br h2, .call [] (impl_areMatrices.calls h3), .br h4] (by kernel_rfl))
          (fun h4 h =>
            ifE_cases h
              (fun h5 h =>
                leaf h fun e => by subst e; exact fin_ret Go.Proofs.Try.func108 mix 1000 [.call [] (impl_areSides.calls h1), .br h2, .call [] (impl_areMatrices.calls h3), .br h4, .br h5] (by kernel_rfl))
              (fun h5 h =>
                ifE_cases h
                  (fun h6 h =>
                    leaf h fun e => by subst e; exact fin_ret Go.Proofs.Try.func108 mix 1000 [.call [] (impl_areSides.calls h1), .br h2, .call [] (impl_areMatrices.calls h3), .br h4, .br h5, .br h6] (by kernel_rfl))
                  (fun h6 h =>
                    ifE_cases h
                      (fun h7 h =>
                        leaf h fun e => by subst e; exact fin_ret Go.Proofs.Try.func108 mix 1000 [.call [] (impl_areSides.calls h1), .br h2, .call [] (impl_areMatrices.calls h3), .br h4, .br h5, .br h6, .br h7] (by kernel_rfl))
                      (fun h7 h =>
                        bind_cases h fun r3 h8 h =>
                        leaf h fun e => by subst e; exact fin_ret Go.Proofs.Try.func108 mix 1000 [.call [] (impl_areSides.calls h1), .br h2, .call [] (impl_areMatrices.calls h3), .br h4, .br h5, .br h6, .br h7, .call [] (impl_isFree.calls h8)] (by kernel_rfl))))))

theorem impl_IsFree.calls {a0 : Int} {a1 : (List Siiii)} {a2 : (List Siiib)} {r : (Bool × Int)} (h : impl_IsFree.f a0 a1 a2 = some r) : Eng.Fn Go.Proofs.Try.prog 44 [I a0, R true 4 Siiii.cells a1, R true 4 Siiib.cells a2] [] [] (.tu [B r.1, I r.2]) :=
  fn_fin Go.Proofs.Try.func44 (c := bodyOf Go.Proofs.Try.f44) (by kernel_rfl) (by kernel_rfl) <|
    bind_cases h fun r1 h1 h =>
    leaf h fun e => by subst e; exact fin_ret Go.Proofs.Try.func44 mix 1000 [.call [] (impl_freeCode.calls h1)] (by kernel_rfl)

theorem spec_l01EndOf.j6_ok : ∀ (v0 : Int) (v1 : Int) (v6 : Int) (o4_0 : Int) (o4_1 : Int) (r : (Sii × Bool)), (spec_l01EndOf.j6) v0 v1 v6 o4_0 o4_1 = some r → Eng.Fin Go.Proofs.Try.prog 166 [] [] (.tu [.ag (Sii.cells r.1), B r.2]) (itsR 6 (bodyOf Go.Proofs.Try.f166)) (mkS 38 [(0, I v0), (1, I v1), (4, .bx 4 0), (6, I v6)] [(4, .box [I o4_0, I o4_1])]) :=
  fun v0 v1 v6 o4_0 o4_1 r h =>
    guardE_cases h fun h1 h =>
    guardE_cases h fun h2 h =>
    ifE_cases h
      (fun h3 h =>
        leaf h fun e => by subst e; exact fin_ret Go.Proofs.Try.func166 mix 1000 [.nz h1, .nz h2, .br h3] (by kernel_rfl))
      (fun h3 h =>
        leaf h fun e => by subst e; exact fin_ret Go.Proofs.Try.func166 mix 1000 [.nz h1, .nz h2, .br h3] (by kernel_rfl))

theorem spec_l01EndOf.calls {a0 : Int} {a1 : Int} {r : (Sii × Bool)} (h : spec_l01EndOf.f a0 a1 = some r) : Eng.Fn Go.Proofs.Try.prog 166 [I a0, I a1] [] [] (.tu [.ag (Sii.cells r.1), B r.2]) :=
  fn_fin Go.Proofs.Try.func166 (c := bodyOf Go.Proofs.Try.f166) (by kernel_rfl) (by kernel_rfl) <|
    ifE_cases h
      (fun h1 h =>
        leaf h fun e => by subst e; exact fin_ret Go.Proofs.Try.func166 mix 1000 [.br h1] (by kernel_rfl))
      (fun h1 h =>
        bind_cases h fun r1 h2 h =>
        ifE_cases h
          (fun h3 h =>
            fin_fin Go.Proofs.Try.func166 mix 1000 [.br h1, .call [] (spec_l01Gcd.calls h2), .br h3, .fin 6 [0, 1, 4, 6] [(4, 4)] (spec_l01EndOf.j6_ok a0 a1 (W (0 - r1)) 0 0 r h)] (by kernel_rfl))
          (fun h3 h =>
            fin_fin Go.Proofs.Try.func166 mix 1000 [.br h1, .call [] (spec_l01Gcd.calls h2), .br h3, .fin 6 [0, 1, 4, 6] [(4, 4)] (spec_l01EndOf.j6_ok a0 a1 r1 0 0 r h)] (by kernel_rfl)))

theorem spec_l01DrawEnd.j5_ok (a0 : SLu8eiu64) : ∀ (v8 : Int) (o2000_0 : (List Int)) (o2000_1 : Int) (o2000_2 : Int) (o2_0 : Int) (o2_1 : Int) (r : (Sii × SLu8eiu64)), (spec_l01DrawEnd.j5) v8 o2000_0 o2000_1 o2000_2 o2_0 o2_1 = some r → Eng.Fin Go.Proofs.Try.prog 165 [(2000, .box [R true 1 (cK .u8) a0.c0, I a0.c1, K .u64 a0.c2])] [(2000, .box (SLu8eiu64.cells r.2))] (.ag (Sii.cells r.1)) (itsR 5 (bodyOf Go.Proofs.Try.f165)) (mkS 56 [(0, .bx 2000 0), (2, .bx 2 0), (8, I v8)] [(2000, .box [R true 1 (cK .u8) o2000_0, I o2000_1, K .u64 o2000_2]), (2, .box [I o2_0, I o2_1])]) :=
  fun v8 o2000_0 o2000_1 o2000_2 o2_0 o2_1 r h =>
    ifE_cases h
      (fun h1 h =>
        bind_cases h fun r2 h2 h =>
        bind_cases h fun r3 h3 h =>
        leaf h fun e => by subst e; exact fin_ret Go.Proofs.Try.func165 mix 1000 [.br h1, .call [(2000, 2000)] (spec_l01Pick.calls h2), .call [(2000, 2000)] (spec_l01Pick.calls h3)] (by kernel_rfl))
      (fun h1 h =>
        bind_cases h fun r4 h4 h =>
        bind_cases h fun r5 h5 h =>
        bind_cases h fun r6 h6 h =>
        bind_cases h fun r7 h7 h =>
        bind_cases h fun r8 h8 h =>
        bind_cases h fun r9 h9 h =>
        bind_cases h fun r10 h10 h =>
        bind_cases h fun r11 h11 h =>
        bind_cases h fun r12 h12 h =>
        bind_cases h fun r13 h13 h =>
        bind_cases h fun r14 h14 h =>
        bind_cases h fun r15 h15 h =>
        leaf h fun e => by subst e; exact fin_ret Go.Proofs.Try.func165 mix 1000 [.br h1, .call [(2000, 2000)] (spec_l01Next.calls h4), .call [(2000, 2000)] (spec_l01Next.calls h5), .call [(2000, 2000)] (spec_l01Next.calls h6), .call [(2000, 2000)] (spec_l01Pick.calls h7), .call [(2000, 2000)] (spec_l01Next.calls h8), .call [(2000, 2000)] (spec_l01Next.calls h9), .call [] (spec_l01Power.calls h10), .call [(2000, 2000)] (spec_l01Next.calls h11), .call [] (spec_l01Power.calls h12), .call [(2000, 2000)] (spec_l01Next.calls h13), .call [(2000, 2000)] (spec_l01Pick.calls h14), .call [] (spec_l01EndOf.calls h15)] (by kernel_rfl))

theorem spec_l01DrawEnd.calls {a0 : SLu8eiu64} {r : (Sii × SLu8eiu64)} (h : spec_l01DrawEnd.f a0 = some r) : Eng.Fn Go.Proofs.Try.prog 165 [.bx 2000 0] [(2000, .box [R true 1 (cK .u8) a0.c0, I a0.c1, K .u64 a0.c2])] [(2000, .box (SLu8eiu64.cells r.2))] (.ag (Sii.cells r.1)) :=
  fn_fin Go.Proofs.Try.func165 (c := bodyOf Go.Proofs.Try.f165) (by kernel_rfl) (by kernel_rfl) <|
    bind_cases h fun r1 h1 h =>
    ifE_cases h
      (fun h2 h =>
        ifE_cases h
          (fun h3 h =>
            leaf h fun e => by subst e; exact fin_ret Go.Proofs.Try.func165 mix 1000 [.call [(2000, 2000)] (spec_l01Next.calls h1), .br h2, .br h3] (by kernel_rfl))
          (fun h3 h =>
            fin_fin Go.Proofs.Try.func165 mix 1000 [.call [(2000, 2000)] (spec_l01Next.calls h1), .br h2, .br h3, .fin 5 [0, 2, 8] [(2000, 2000), (2, 2)] (spec_l01DrawEnd.j5_ok a0 r1.1 r1.2.c0 r1.2.c1 r1.2.c2 0 0 r h)] (by kernel_rfl)))
      (fun h2 h =>
        ifE_cases h
          (fun h4 h =>
            leaf h fun e => by subst e; exact fin_ret Go.Proofs.Try.func165 mix 1000 [.call [(2000, 2000)] (spec_l01Next.calls h1), .br h2, .br h4] (by kernel_rfl))
          (fun h4 h =>
            fin_fin Go.Proofs.Try.func165 mix 1000 [.call [(2000, 2000)] (spec_l01Next.calls h1), .br h2, .br h4, .fin 5 [0, 2, 8] [(2000, 2000), (2, 2)] (spec_l01DrawEnd.j5_ok a0 r1.1 r1.2.c0 r1.2.c1 r1.2.c2 0 0 r h)] (by kernel_rfl)))

theorem spec_l05End.j7_ok (a0 : SLu8eiu64) : ∀ (v7 : Int) (v8 : Int) (o2000_0 : (List Int)) (o2000_1 : Int) (o2000_2 : Int) (o6_0 : Int) (o6_1 : Int) (r : (Sii × SLu8eiu64)), (spec_l05End.j7) v7 v8 o2000_0 o2000_1 o2000_2 o6_0 o6_1 = some r → Eng.Fin Go.Proofs.Try.prog 109 [(2000, .box [R true 1 (cK .u8) a0.c0, I a0.c1, K .u64 a0.c2])] [(2000, .box (SLu8eiu64.cells r.2))] (.ag (Sii.cells r.1)) (itsR 7 (bodyOf Go.Proofs.Try.f109)) (mkS 59 [(0, .bx 2000 0), (6, .bx 6 0), (7, I v7), (8, I v8)] [(2000, .box [R true 1 (cK .u8) o2000_0, I o2000_1, K .u64 o2000_2]), (6, .box [I o6_0, I o6_1])]) :=
  fun v7 v8 o2000_0 o2000_1 o2000_2 o6_0 o6_1 r h =>
    bind_cases h fun r9 h1 h =>
    ifE_cases h
      (fun h2 h =>
        bind_cases h fun r10 h3 h =>
        leaf h fun e => by subst e; exact fin_ret Go.Proofs.Try.func109 mix 1000 [.call [] (spec_l01EndOf.calls h1), .br h2, .call [(2000, 2000)] (spec_l01DrawEnd.calls h3)] (by kernel_rfl))
      (fun h2 h =>
        leaf h fun e => by subst e; exact fin_ret Go.Proofs.Try.func109 mix 1000 [.call [] (spec_l01EndOf.calls h1), .br h2] (by kernel_rfl))

theorem spec_l05End.calls {a0 : SLu8eiu64} {a1 : Int} {a2 : Siii} {r : (Sii × SLu8eiu64)} (h : spec_l05End.f a0 a1 a2 = some r) : Eng.Fn Go.Proofs.Try.prog 109 [.bx 2000 0, I a1, .ag (Siii.cells a2)] [(2000, .box [R true 1 (cK .u8) a0.c0, I a0.c1, K .u64 a0.c2])] [(2000, .box (SLu8eiu64.cells r.2))] (.ag (Sii.cells r.1)) :=
  fn_fin Go.Proofs.Try.func109 (c := bodyOf Go.Proofs.Try.f109) (by kernel_rfl) (by kernel_rfl) <|
    bind_cases h fun r1 h1 h =>
    ifE_cases h
      (fun h2 h =>
        bind_cases h fun r2 h3 h =>
        leaf h fun e => by subst e; exact fin_ret Go.Proofs.Try.func109 mix 1000 [.call [] (spec_l01Is.calls h1), .br h2, .call [(2000, 2000)] (spec_l01DrawEnd.calls h3)] (by kernel_rfl))
      (fun h2 h =>
        bind_cases h fun r3 h4 h =>
        ifE_cases h
          (fun h5 h =>
            bind_cases h fun r4 h6 h =>
            leaf h fun e => by subst e; exact fin_ret Go.Proofs.Try.func109 mix 1000 [.call [] (spec_l01Is.calls h1), .br h2, .call [(2000, 2000)] (spec_l01Next.calls h4), .br h5, .call [(2000, 2000)] (spec_l01DrawEnd.calls h6)] (by kernel_rfl))
          (fun h5 h =>
            bind_cases h fun r5 h7 h =>
            bind_cases h fun r6 h8 h =>
            ifE_cases h
              (fun h9 h =>
                bind_cases h fun r7 h10 h =>
                bind_cases h fun r8 h11 h =>
                fin_fin Go.Proofs.Try.func109 mix 1000 [.call [] (spec_l01Is.calls h1), .br h2, .call [(2000, 2000)] (spec_l01Next.calls h4), .br h5, .call [] (spec_l01Power.calls h7), .call [(2000, 2000)] (spec_l01Next.calls h8), .br h9, .call [(2000, 2000)] (spec_l01Next.calls h10), .call [] (spec_l01Power.calls h11), .fin 7 [0, 6, 7, 8] [(2000, 2000), (6, 6)] (spec_l05End.j7_ok a0 (W (a2.c1 + (W ((W (r7.1 * r8)) * r5)))) r5 r7.2.c0 r7.2.c1 r7.2.c2 0 0 r h)] (by kernel_rfl))
              (fun h9 h =>
                fin_fin Go.Proofs.Try.func109 mix 1000 [.call [] (spec_l01Is.calls h1), .br h2, .call [(2000, 2000)] (spec_l01Next.calls h4), .br h5, .call [] (spec_l01Power.calls h7), .call [(2000, 2000)] (spec_l01Next.calls h8), .br h9, .fin 7 [0, 6, 7, 8] [(2000, 2000), (6, 6)] (spec_l05End.j7_ok a0 a2.c1 r5 r6.2.c0 r6.2.c1 r6.2.c2 0 0 r h)] (by kernel_rfl))))

theorem spec_DrawSideHas.calls {a0 : (List Int)} {r : (Int × Siiib × Sii)} (h : spec_DrawSideHas.f a0 = some r) : Eng.Fn Go.Proofs.Try.prog 45 [R true 1 (cK .u8) a0] [] [] (.tu [I r.1, .ag (Siiib.cells r.2.1), .ag (Sii.cells r.2.2)]) :=
  fn_fin Go.Proofs.Try.func45 (c := bodyOf Go.Proofs.Try.f45) (by kernel_rfl) (by kernel_rfl) <|
    bind_cases h fun r1 h1 h =>
    bind_cases h fun r2 h2 h =>
    bind_cases h fun r3 h3 h =>
    bind_cases h fun r4 h4 h =>
    leaf h fun e => by subst e; exact fin_ret Go.Proofs.Try.func45 mix 1000 [.call [(9, 11)] (spec_l01From.calls h1), .call [(9, 2000)] (spec_l01Pick.calls h2), .call [(9, 2000)] (spec_l09Side.calls h3), .call [(9, 2000)] (spec_l05End.calls h4)] (by kernel_rfl)

theorem spec_l01End.calls {a0 : Sii} {r : Bool} (h : spec_l01End.f a0 = some r) : Eng.Fn Go.Proofs.Try.prog 110 [.ag (Sii.cells a0)] [] [] (B r) :=
  fn_fin Go.Proofs.Try.func110 (c := bodyOf Go.Proofs.Try.f110) (by kernel_rfl) (by kernel_rfl) <|
    ifE_cases h
      (fun h1 h =>
        leaf h fun e => by subst e; exact fin_ret Go.Proofs.Try.func110 mix 1000 [.br h1] (by kernel_rfl))
      (fun h1 h =>
        bind_cases h fun r1 h2 h =>
        ifE_cases h
          (fun h3 h =>
            bind_cases h fun r2 h4 h =>
            ifE_cases h
              (fun h5 h =>
                bind_cases h fun r3 h6 h =>
                leaf h fun e => by subst e; exact fin_ret Go.Proofs.Try.func110 mix 1000 [.br h1, .call [] (spec_l01In.calls h2), .br h3, .call [] (spec_l01In.calls h4), .br h5, .call [] (spec_l01Gcd.calls h6)] (by kernel_rfl))
              (fun h5 h =>
                leaf h fun e => by subst e; exact fin_ret Go.Proofs.Try.func110 mix 1000 [.br h1, .call [] (spec_l01In.calls h2), .br h3, .call [] (spec_l01In.calls h4), .br h5] (by kernel_rfl)))
          (fun h3 h =>
            leaf h fun e => by subst e; exact fin_ret Go.Proofs.Try.func110 mix 1000 [.br h1, .call [] (spec_l01In.calls h2), .br h3] (by kernel_rfl)))

theorem spec_l02Meet.calls {a0 : Int} {a1 : Siii} {a2 : Sii} {r : Int} (h : spec_l02Meet.f a0 a1 a2 = some r) : Eng.Fn Go.Proofs.Try.prog 167 [I a0, .ag (Siii.cells a1), .ag (Sii.cells a2)] [] [] (I r) :=
  fn_fin Go.Proofs.Try.func167 (c := bodyOf Go.Proofs.Try.f167) (by kernel_rfl) (by kernel_rfl) <|
    bind_cases h fun r1 h1 h =>
    ifE_cases h
      (fun h2 h =>
        leaf h fun e => by subst e; exact fin_ret Go.Proofs.Try.func167 mix 1000 [.call [] (spec_l01Power.calls h1), .br h2] (by kernel_rfl))
      (fun h2 h =>
        bind_cases h fun r2 h3 h =>
        bind_cases h fun r3 h4 h =>
        leaf h fun e => by subst e; exact fin_ret Go.Proofs.Try.func167 mix 1000 [.call [] (spec_l01Power.calls h1), .br h2, .call [] (spec_l01Val.calls h3), .call [] (spec_l01Val.calls h4)] (by kernel_rfl))

theorem spec_l09Has.calls {a0 : Int} {a1 : Siiib} {a2 : Sii} {r : Bool} (h : spec_l09Has.f a0 a1 a2 = some r) : Eng.Fn Go.Proofs.Try.prog 111 [I a0, .ag (Siiib.cells a1), .ag (Sii.cells a2)] [] [] (B r) :=
  fn_fin Go.Proofs.Try.func111 (c := bodyOf Go.Proofs.Try.f111) (by kernel_rfl) (by kernel_rfl) <|
    ifE_cases h
      (fun h1 h =>
        leaf h fun e => by subst e; exact fin_ret Go.Proofs.Try.func111 mix 1000 [.br h1] (by kernel_rfl))
      (fun h1 h =>
        bind_cases h fun r1 h2 h =>
        leaf h fun e => by subst e; exact fin_ret Go.Proofs.Try.func111 mix 1000 [.br h1, .call [] (spec_l02Meet.calls h2)] (by kernel_rfl))

theorem spec_SideHas.calls {a0 : Int} {a1 : Siiib} {a2 : Sii} {r : (Bool × Int)} (h : spec_SideHas.f a0 a1 a2 = some r) : Eng.Fn Go.Proofs.Try.prog 46 [I a0, .ag (Siiib.cells a1), .ag (Sii.cells a2)] [] [] (.tu [B r.1, I r.2]) :=
  fn_fin Go.Proofs.Try.func46 (c := bodyOf Go.Proofs.Try.f46) (by kernel_rfl) (by kernel_rfl) <|
    bind_cases h fun r1 h1 h =>
    ifE_cases h
      (fun h2 h =>
        leaf h fun e => by subst e; exact fin_ret Go.Proofs.Try.func46 mix 1000 [.call [] (spec_l09Code.calls h1), .br h2] (by kernel_rfl))
      (fun h2 h =>
        bind_cases h fun r2 h3 h =>
        ifE_cases h
          (fun h4 h =>
            leaf h fun e => by subst e; exact fin_ret Go.Proofs.Try.func46 mix 1000 [.call [] (spec_l09Code.calls h1), .br h2, .call [] (spec_l01End.calls h3), .br h4] (by kernel_rfl))
          (fun h4 h =>
            bind_cases h fun r3 h5 h =>
            leaf h fun e => by subst e; exact fin_ret Go.Proofs.Try.func46 mix 1000 [.call [] (spec_l09Code.calls h1), .br h2, .call [] (spec_l01End.calls h3), .br h4, .call [] (spec_l09Has.calls h5)] (by kernel_rfl)))

theorem spec_DrawAreApartSides.calls {a0 : (List Int)} {r : (Int × Siiib × Siiib)} (h : spec_DrawAreApartSides.f a0 = some r) : Eng.Fn Go.Proofs.Try.prog 47 [R true 1 (cK .u8) a0] [] [] (.tu [I r.1, .ag (Siiib.cells r.2.1), .ag (Siiib.cells r.2.2)]) :=
  fn_fin Go.Proofs.Try.func47 (c := bodyOf Go.Proofs.Try.f47) (by kernel_rfl) (by kernel_rfl) <|
    guardE_cases h fun h1 h =>
    bind_cases h fun r1 h2 h =>
    bind_cases h fun r2 h3 h =>
    bind_cases h fun r3 h4 h =>
    bind_cases h fun r4 h5 h =>
    leaf h fun e => by subst e; exact fin_ret Go.Proofs.Try.func47 mix 1000 [.le h1, .cat (cat_of (cK .u8) [4] a0), .call [(12, 11)] (spec_l01From.calls h2), .call [] (spec_l01Two.calls h3), .call [(12, 2000)] (spec_l01Next.calls h4), .call [(12, 2000)] (spec_l01Next.calls h5)] (by kernel_rfl)

theorem impl_AreApartSides.calls {a0 : Int} {a1 : Siiib} {a2 : Siiib} {r : (Bool × Int)} (h : impl_AreApartSides.f a0 a1 a2 = some r) : Eng.Fn Go.Proofs.Try.prog 48 [I a0, .ag (Siiib.cells a1), .ag (Siiib.cells a2)] [] [] (.tu [B r.1, I r.2]) :=
  fn_fin Go.Proofs.Try.func48 (c := bodyOf Go.Proofs.Try.f48) (by kernel_rfl) (by kernel_rfl) <|
    bind_cases h fun r1 h1 h =>
    ifE_cases h
      (fun h2 h =>
        leaf h fun e => by subst e; exact fin_ret Go.Proofs.Try.func48 mix 1000 [.call [] (impl_areSides.calls h1), .br h2] (by kernel_rfl))
      (fun h2 h =>
        bind_cases h fun r2 h3 h =>
        leaf h fun e => by subst e; exact fin_ret Go.Proofs.Try.func48 mix 1000 [.call [] (impl_areSides.calls h1), .br h2, .call [] (impl_apartSides.calls h3)] (by kernel_rfl))

theorem spec_l09Apart.j3_ok : ∀ (v0 : Int) (o4_0 : Int) (o4_1 : Int) (o4_2 : Int) (o4_3 : Bool) (o5_0 : Int) (o5_1 : Int) (o5_2 : Int) (o5_3 : Bool) (r : Bool), (spec_l09Apart.j3) v0 o4_0 o4_1 o4_2 o4_3 o5_0 o5_1 o5_2 o5_3 = some r → Eng.Fin Go.Proofs.Try.prog 113 [] [] (B r) (itsR 3 (bodyOf Go.Proofs.Try.f113)) (mkS 48 [(0, I v0), (4, .bx 4 0), (5, .bx 5 0)] [(4, .box [I o4_0, I o4_1, I o4_2, B o4_3]), (5, .box [I o5_0, I o5_1, I o5_2, B o5_3])]) :=
  fun v0 o4_0 o4_1 o4_2 o4_3 o5_0 o5_1 o5_2 o5_3 r h =>
    ifE_cases h
      (fun h1 h =>
        bind_cases h fun r1 h2 h =>
        leaf h fun e => by subst e; exact fin_ret Go.Proofs.Try.func113 mix 1000 [.br h1, .call [] (spec_l01Holds.calls h2)] (by kernel_rfl))
      (fun h1 h =>
        ifE_cases h
          (fun h3 h =>
            bind_cases h fun r2 h4 h =>
            leaf h fun e => by subst e; exact fin_ret Go.Proofs.Try.func113 mix 1000 [.br h1, .br h3, .call [] (spec_l01Holds.calls h4)] (by kernel_rfl))
          (fun h3 h =>
            bind_cases h fun r3 h5 h =>
            ifE_cases h
              (fun h6 h =>
                bind_cases h fun r4 h7 h =>
                leaf h fun e => by subst e; exact fin_ret Go.Proofs.Try.func113 mix 1000 [.br h1, .br h3, .call [] (spec_l01Holds.calls h5), .br h6, .call [] (spec_l01Holds.calls h7)] (by kernel_rfl))
              (fun h6 h =>
                leaf h fun e => by subst e; exact fin_ret Go.Proofs.Try.func113 mix 1000 [.br h1, .br h3, .call [] (spec_l01Holds.calls h5), .br h6] (by kernel_rfl))))

theorem spec_l09Apart.calls {a0 : Int} {a1 : Siiib} {a2 : Siiib} {r : Bool} (h : spec_l09Apart.f a0 a1 a2 = some r) : Eng.Fn Go.Proofs.Try.prog 113 [I a0, .ag (Siiib.cells a1), .ag (Siiib.cells a2)] [] [] (B r) :=
  fn_fin Go.Proofs.Try.func113 (c := bodyOf Go.Proofs.Try.f113) (by kernel_rfl) (by kernel_rfl) <|
    ifE_cases h
      (fun h1 h =>
        ifE_cases h
          (fun h2 h =>
            leaf h fun e => by subst e; exact fin_ret Go.Proofs.Try.func113 mix 1000 [.br h1, .br h2] (by kernel_rfl))
          (fun h2 h =>
            fin_fin Go.Proofs.Try.func113 mix 1000 [.br h1, .br h2, .fin 3 [0, 4, 5] [(4, 4), (5, 5)] (spec_l09Apart.j3_ok a0 a1.c0 a1.c1 a1.c2 a1.c3 a2.c0 a2.c1 a2.c2 a2.c3 r h)] (by kernel_rfl)))
      (fun h1 h =>
        fin_fin Go.Proofs.Try.func113 mix 1000 [.br h1, .fin 3 [0, 4, 5] [(4, 4), (5, 5)] (spec_l09Apart.j3_ok a0 a1.c0 a1.c1 a1.c2 a1.c3 a2.c0 a2.c1 a2.c2 a2.c3 r h)] (by kernel_rfl))

theorem spec_AreApartSides.calls {a0 : Int} {a1 : Siiib} {a2 : Siiib} {r : (Bool × Int)} (h : spec_AreApartSides.f a0 a1 a2 = some r) : Eng.Fn Go.Proofs.Try.prog 49 [I a0, .ag (Siiib.cells a1), .ag (Siiib.cells a2)] [] [] (.tu [B r.1, I r.2]) :=
  fn_fin Go.Proofs.Try.func49 (c := bodyOf Go.Proofs.Try.f49) (by kernel_rfl) (by kernel_rfl) <|
    bind_cases h fun r1 h1 h =>
    ifE_cases h
      (fun h2 h =>
        leaf h fun e => by subst e; exact fin_ret Go.Proofs.Try.func49 mix 1000 [.call [] (spec_l09Code.calls h1), .br h2] (by kernel_rfl))
      (fun h2 h =>
        bind_cases h fun r2 h3 h =>
        leaf h fun e => by subst e; exact fin_ret Go.Proofs.Try.func49 mix 1000 [.call [] (spec_l09Code.calls h1), .br h2, .call [] (spec_l09Apart.calls h3)] (by kernel_rfl))

theorem laws_FnSides.j33_ok : ∀ (v0 : (List Int)) (r : Bool), (laws_FnSides.j33) v0 = some r → Eng.Fin Go.Proofs.Try.prog 5 [] [] (B r) (itsR 33 (bodyOf Go.Proofs.Try.f5)) (mkS 280 [(0, R true 1 (cK .u8) v0)] []) :=
  fun v0 r h =>
    bind_cases h fun r19 h1 h =>
    bind_cases h fun r20 h2 h =>
    bind_cases h fun r21 h3 h =>
    bind_cases h fun r22 h4 h =>
    bind_cases h fun r23 h5 h =>
    bind_cases h fun r24 h6 h =>
    bind_cases h fun r25 h7 h =>
    ifE_cases h
      (fun h8 h =>
        ifE_cases h
          (fun h9 h =>
            ifE_cases h
              (fun h10 h =>
                ifE_cases h
                  (fun h11 h =>
                    ifE_cases h
                      (fun h12 h =>
                        leaf h fun e => by subst e; exact fin_ret Go.Proofs.Try.func5 mix 1000 [.call [] (spec_DrawSideHas.calls h1), .call [] (impl_SideHas.calls h2), .call [] (spec_SideHas.calls h3), .call [] (spec_DrawAreApartSides.calls h4), .call [] (impl_AreApartSides.calls h5), .call [] (spec_AreApartSides.calls h6), .call [] (impl_AreApartSides.calls h7), .br h8, .br h9, .br h10, .br h11, .br h12] (by kernel_rfl))
                      (fun h12 h =>
                        leaf h fun e => by subst e; exact fin_ret Go.Proofs.Try.func5 mix 1000 [.call [] (spec_DrawSideHas.calls h1), .call [] (impl_SideHas.calls h2), .call [] (spec_SideHas.calls h3), .call [] (spec_DrawAreApartSides.calls h4), .call [] (impl_AreApartSides.calls h5), .call [] (spec_AreApartSides.calls h6), .call [] (impl_AreApartSides.calls h7), .br h8, .br h9, .br h10, .br h11, .br h12] (by kernel_rfl)))
                  (fun h11 h =>
                    leaf h fun e => by subst e; exact fin_ret Go.Proofs.Try.func5 mix 1000 [.call [] (spec_DrawSideHas.calls h1), .call [] (impl_SideHas.calls h2), .call [] (spec_SideHas.calls h3), .call [] (spec_DrawAreApartSides.calls h4), .call [] (impl_AreApartSides.calls h5), .call [] (spec_AreApartSides.calls h6), .call [] (impl_AreApartSides.calls h7), .br h8, .br h9, .br h10, .br h11] (by kernel_rfl)))
              (fun h10 h =>
                leaf h fun e => by subst e; exact fin_ret Go.Proofs.Try.func5 mix 1000 [.call [] (spec_DrawSideHas.calls h1), .call [] (impl_SideHas.calls h2), .call [] (spec_SideHas.calls h3), .call [] (spec_DrawAreApartSides.calls h4), .call [] (impl_AreApartSides.calls h5), .call [] (spec_AreApartSides.calls h6), .call [] (impl_AreApartSides.calls h7), .br h8, .br h9, .br h10] (by kernel_rfl)))
          (fun h9 h =>
            leaf h fun e => by subst e; exact fin_ret Go.Proofs.Try.func5 mix 1000 [.call [] (spec_DrawSideHas.calls h1), .call [] (impl_SideHas.calls h2), .call [] (spec_SideHas.calls h3), .call [] (spec_DrawAreApartSides.calls h4), .call [] (impl_AreApartSides.calls h5), .call [] (spec_AreApartSides.calls h6), .call [] (impl_AreApartSides.calls h7), .br h8, .br h9] (by kernel_rfl)))
      (fun h8 h =>
        leaf h fun e => by subst e; exact fin_ret Go.Proofs.Try.func5 mix 1000 [.call [] (spec_DrawSideHas.calls h1), .call [] (impl_SideHas.calls h2), .call [] (spec_SideHas.calls h3), .call [] (spec_DrawAreApartSides.calls h4), .call [] (impl_AreApartSides.calls h5), .call [] (spec_AreApartSides.calls h6), .call [] (impl_AreApartSides.calls h7), .br h8] (by kernel_rfl))

theorem laws_FnSides.l16_ok (k : Nat) : ∀ (v0 : (List Int)) (v3 : Int) (v14 : Int) (o4_0 : Int) (o4_1 : Int) (o4_2 : Int) (o4_3 : Int) (o5_0 : Int) (o5_1 : Int) (o5_2 : Int) (o5_3 : Bool) (o6_0 : Int) (o6_1 : Int) (o6_2 : Int) (o6_3 : Bool) (o1013 : (List Sii)) (r : Bool), (laws_FnSides.l16 k) v0 v3 v14 o4_0 o4_1 o4_2 o4_3 o5_0 o5_1 o5_2 o5_3 o6_0 o6_1 o6_2 o6_3 o1013 = some r → Eng.Fin Go.Proofs.Try.prog 5 [] [] (B r) (itsL 16 (bodyOf Go.Proofs.Try.f5)) (mkS 280 [(0, R true 1 (cK .u8) v0), (3, I v3), (4, .bx 4 0), (5, .bx 5 0), (6, .bx 6 0), (13, .ow 1013), (14, I v14)] [(4, .box [I o4_0, I o4_1, I o4_2, I o4_3]), (5, .box [I o5_0, I o5_1, I o5_2, B o5_3]), (6, .box [I o6_0, I o6_1, I o6_2, B o6_3]), (1013, Row true 64 2 Sii.cells o1013)]) := by
  induction k with
  | zero => intro v0 v3 v14 o4_0 o4_1 o4_2 o4_3 o5_0 o5_1 o5_2 o5_3 o6_0 o6_1 o6_2 o6_3 o1013 r h; exact nomatch h
  | succ k ih =>
    exact fun v0 v3 v14 o4_0 o4_1 o4_2 o4_3 o5_0 o5_1 o5_2 o5_3 o6_0 o6_1 o6_2 o6_3 o1013 r h =>
      ifE_cases h
        (fun h1 h =>
          bind_cases h fun e10 h2 h =>
          bind_cases h fun r11 h3 h =>
          ifE_cases h
            (fun h4 h =>
              fin_fin Go.Proofs.Try.func5 mix 1000 [.unroll, .br h1, .ib (getE_ib h2), .el (getE_pw Sii.cells h2), .call [] (impl_MoveEnd.calls h3), .br h4, .fin 100000 [0, 3, 4, 5, 6, 13, 14] [(4, 4), (5, 5), (6, 6), (1013, 1013)] (ih v0 v3 (W (v14 + 1)) o4_0 o4_1 o4_2 o4_3 o5_0 o5_1 o5_2 o5_3 o6_0 o6_1 o6_2 o6_3 o1013 r h)] (by kernel_rfl))
            (fun h4 h =>
              bind_cases h fun e12 h5 h =>
              bind_cases h fun r13 h6 h =>
              bind_cases h fun r14 h7 h =>
              ifE_cases h
                (fun h8 h =>
                  leaf h fun e => by subst e; exact fin_ret Go.Proofs.Try.func5 mix 1000 [.unroll, .br h1, .ib (getE_ib h2), .el (getE_pw Sii.cells h2), .call [] (impl_MoveEnd.calls h3), .br h4, .ib (getE_ib h5), .el (getE_pw Sii.cells h5), .call [] (impl_SideHas.calls h6), .call [] (impl_SideHas.calls h7), .br h8] (by kernel_rfl))
                (fun h8 h =>
                  ifE_cases h
                    (fun h9 h =>
                      leaf h fun e => by subst e; exact fin_ret Go.Proofs.Try.func5 mix 1000 [.unroll, .br h1, .ib (getE_ib h2), .el (getE_pw Sii.cells h2), .call [] (impl_MoveEnd.calls h3), .br h4, .ib (getE_ib h5), .el (getE_pw Sii.cells h5), .call [] (impl_SideHas.calls h6), .call [] (impl_SideHas.calls h7), .br h8, .br h9] (by kernel_rfl))
                    (fun h9 h =>
                      ifE_cases h
                        (fun h10 h =>
                          leaf h fun e => by subst e; exact fin_ret Go.Proofs.Try.func5 mix 1000 [.unroll, .br h1, .ib (getE_ib h2), .el (getE_pw Sii.cells h2), .call [] (impl_MoveEnd.calls h3), .br h4, .ib (getE_ib h5), .el (getE_pw Sii.cells h5), .call [] (impl_SideHas.calls h6), .call [] (impl_SideHas.calls h7), .br h8, .br h9, .br h10] (by kernel_rfl))
                        (fun h10 h =>
                          fin_fin Go.Proofs.Try.func5 mix 1000 [.unroll, .br h1, .ib (getE_ib h2), .el (getE_pw Sii.cells h2), .call [] (impl_MoveEnd.calls h3), .br h4, .ib (getE_ib h5), .el (getE_pw Sii.cells h5), .call [] (impl_SideHas.calls h6), .call [] (impl_SideHas.calls h7), .br h8, .br h9, .br h10, .fin 100000 [0, 3, 4, 5, 6, 13, 14] [(4, 4), (5, 5), (6, 6), (1013, 1013)] (ih v0 v3 (W (v14 + 1)) o4_0 o4_1 o4_2 o4_3 o5_0 o5_1 o5_2 o5_3 o6_0 o6_1 o6_2 o6_3 o1013 r h)] (by kernel_rfl))))))
        (fun h1 h =>
          bind_cases h fun r15 h11 h =>
          bind_cases h fun r16 h12 h =>
          bind_cases h fun r17 h13 h =>
          ifE_cases h
            (fun h14 h =>
              leaf h fun e => by subst e; exact fin_ret Go.Proofs.Try.func5 mix 1000 [.unroll, .br h1, .call [] (spec_DrawPairedMover.calls h11), .call [] (impl_PairedMover.calls h12), .call [] (spec_PairedMover.calls h13), .br h14] (by kernel_rfl))
            (fun h14 h =>
              ifE_cases h
                (fun h15 h =>
                  leaf h fun e => by subst e; exact fin_ret Go.Proofs.Try.func5 mix 1000 [.unroll, .br h1, .call [] (spec_DrawPairedMover.calls h11), .call [] (impl_PairedMover.calls h12), .call [] (spec_PairedMover.calls h13), .br h14, .br h15] (by kernel_rfl))
                (fun h15 h =>
                  ifE_cases h
                    (fun h16 h =>
                      bind_cases h fun r18 h17 h =>
                      ifE_cases h
                        (fun h18 h =>
                          leaf h fun e => by subst e; exact fin_ret Go.Proofs.Try.func5 mix 1000 [.unroll, .br h1, .call [] (spec_DrawPairedMover.calls h11), .call [] (impl_PairedMover.calls h12), .call [] (spec_PairedMover.calls h13), .br h14, .br h15, .br h16, .call [] (impl_IsFree.calls h17), .br h18] (by kernel_rfl))
                        (fun h18 h =>
                          ifE_cases h
                            (fun h19 h =>
                              leaf h fun e => by subst e; exact fin_ret Go.Proofs.Try.func5 mix 1000 [.unroll, .br h1, .call [] (spec_DrawPairedMover.calls h11), .call [] (impl_PairedMover.calls h12), .call [] (spec_PairedMover.calls h13), .br h14, .br h15, .br h16, .call [] (impl_IsFree.calls h17), .br h18, .br h19] (by kernel_rfl))
                            (fun h19 h =>
                              fin_fin Go.Proofs.Try.func5 mix 1000 [.unroll, .br h1, .call [] (spec_DrawPairedMover.calls h11), .call [] (impl_PairedMover.calls h12), .call [] (spec_PairedMover.calls h13), .br h14, .br h15, .br h16, .call [] (impl_IsFree.calls h17), .br h18, .br h19, .fin 33 [0] [] (laws_FnSides.j33_ok v0 r h)] (by kernel_rfl))))
                    (fun h16 h =>
                      fin_fin Go.Proofs.Try.func5 mix 1000 [.unroll, .br h1, .call [] (spec_DrawPairedMover.calls h11), .call [] (impl_PairedMover.calls h12), .call [] (spec_PairedMover.calls h13), .br h14, .br h15, .br h16, .fin 33 [0] [] (laws_FnSides.j33_ok v0 r h)] (by kernel_rfl)))))

theorem laws_FnSides.calls {a0 : (List Int)} {r : Bool} (h : laws_FnSides.f a0 = some r) : Eng.Fn Go.Proofs.Try.prog 5 [R true 1 (cK .u8) a0] [] [] (B r) :=
  fn_fin Go.Proofs.Try.func5 (c := bodyOf Go.Proofs.Try.f5) (by kernel_rfl) (by kernel_rfl) <|
    bind_cases h fun r1 h1 h =>
    ifE_cases h
      (fun h2 h =>
        leaf h fun e => by subst e; exact fin_ret Go.Proofs.Try.func5 mix 1000 [.call [] (laws_big.calls h1), .br h2] (by kernel_rfl))
      (fun h2 h =>
        bind_cases h fun r2 h3 h =>
        bind_cases h fun r3 h4 h =>
        bind_cases h fun r4 h5 h =>
        ifE_cases h
          (fun h6 h =>
            leaf h fun e => by subst e; exact fin_ret Go.Proofs.Try.func5 mix 1000 [.call [] (laws_big.calls h1), .br h2, .call [] (spec_DrawMoveSide.calls h3), .call [] (impl_MoveSide.calls h4), .call [] (spec_MoveSide.calls h5), .br h6] (by kernel_rfl))
          (fun h6 h =>
            ifE_cases h
              (fun h7 h =>
                leaf h fun e => by subst e; exact fin_ret Go.Proofs.Try.func5 mix 1000 [.call [] (laws_big.calls h1), .br h2, .call [] (spec_DrawMoveSide.calls h3), .call [] (impl_MoveSide.calls h4), .call [] (spec_MoveSide.calls h5), .br h6, .br h7] (by kernel_rfl))
              (fun h7 h =>
                ifE_cases h
                  (fun h8 h =>
                    bind_cases h fun r5 h9 h =>
                    ifE_cases h
                      (fun h10 h =>
                        leaf h fun e => by subst e; exact fin_ret Go.Proofs.Try.func5 mix 1000 [.call [] (laws_big.calls h1), .br h2, .call [] (spec_DrawMoveSide.calls h3), .call [] (impl_MoveSide.calls h4), .call [] (spec_MoveSide.calls h5), .br h6, .br h7, .br h8, .call [] (impl_MoveSide.calls h9), .br h10] (by kernel_rfl))
                      (fun h10 h =>
                        ifE_cases h
                          (fun h11 h =>
                            leaf h fun e => by subst e; exact fin_ret Go.Proofs.Try.func5 mix 1000 [.call [] (laws_big.calls h1), .br h2, .call [] (spec_DrawMoveSide.calls h3), .call [] (impl_MoveSide.calls h4), .call [] (spec_MoveSide.calls h5), .br h6, .br h7, .br h8, .call [] (impl_MoveSide.calls h9), .br h10, .br h11] (by kernel_rfl))
                          (fun h11 h =>
                            ifE_cases h
                              (fun h12 h =>
                                leaf h fun e => by subst e; exact fin_ret Go.Proofs.Try.func5 mix 1000 [.call [] (laws_big.calls h1), .br h2, .call [] (spec_DrawMoveSide.calls h3), .call [] (impl_MoveSide.calls h4), .call [] (spec_MoveSide.calls h5), .br h6, .br h7, .br h8, .call [] (impl_MoveSide.calls h9), .br h10, .br h11, .br h12] (by kernel_rfl))
                              (fun h12 h =>
                                fin_fin Go.Proofs.Try.func5 mix 1000 [.call [] (laws_big.calls h1), .br h2, .call [] (spec_DrawMoveSide.calls h3), .call [] (impl_MoveSide.calls h4), .call [] (spec_MoveSide.calls h5), .br h6, .br h7, .br h8, .call [] (impl_MoveSide.calls h9), .br h10, .br h11, .br h12, .fin 100000 [0, 3, 4, 5, 6, 13, 14] [(4, 4), (5, 5), (6, 6), (111, 1013)] (laws_FnSides.l16_ok fuelN a0 r2.1 0 r2.2.1.c0 r2.2.1.c1 r2.2.1.c2 r2.2.1.c3 r2.2.2.c0 r2.2.2.c1 r2.2.2.c2 r2.2.2.c3 r3.1.c0 r3.1.c1 r3.1.c2 r3.1.c3 [(⟨0, 1⟩ : Sii), (⟨1, 0⟩ : Sii), (⟨1, 1⟩ : Sii), (⟨3, 2⟩ : Sii), (⟨(-5), 3⟩ : Sii)] r h)] (by kernel_rfl)))))
                  (fun h8 h =>
                    bind_cases h fun r6 h13 h =>
                    bind_cases h fun r7 h14 h =>
                    bind_cases h fun r8 h15 h =>
                    ifE_cases h
                      (fun h16 h =>
                        leaf h fun e => by subst e; exact fin_ret Go.Proofs.Try.func5 mix 1000 [.call [] (laws_big.calls h1), .br h2, .call [] (spec_DrawMoveSide.calls h3), .call [] (impl_MoveSide.calls h4), .call [] (spec_MoveSide.calls h5), .br h6, .br h7, .br h8, .call [] (spec_DrawPairedMover.calls h13), .call [] (impl_PairedMover.calls h14), .call [] (spec_PairedMover.calls h15), .br h16] (by kernel_rfl))
                      (fun h16 h =>
                        ifE_cases h
                          (fun h17 h =>
                            leaf h fun e => by subst e; exact fin_ret Go.Proofs.Try.func5 mix 1000 [.call [] (laws_big.calls h1), .br h2, .call [] (spec_DrawMoveSide.calls h3), .call [] (impl_MoveSide.calls h4), .call [] (spec_MoveSide.calls h5), .br h6, .br h7, .br h8, .call [] (spec_DrawPairedMover.calls h13), .call [] (impl_PairedMover.calls h14), .call [] (spec_PairedMover.calls h15), .br h16, .br h17] (by kernel_rfl))
                          (fun h17 h =>
                            ifE_cases h
                              (fun h18 h =>
                                bind_cases h fun r9 h19 h =>
                                ifE_cases h
                                  (fun h20 h =>
                                    leaf h fun e => by subst e; exact fin_ret Go.Proofs.Try.func5 mix 1000 [.call [] (laws_big.calls h1), .br h2, .call [] (spec_DrawMoveSide.calls h3), .call [] (impl_MoveSide.calls h4), .call [] (spec_MoveSide.calls h5), .br h6, .br h7, .br h8, .call [] (spec_DrawPairedMover.calls h13), .call [] (impl_PairedMover.calls h14), .call [] (spec_PairedMover.calls h15), .br h16, .br h17, .br h18, .call [] (impl_IsFree.calls h19), .br h20] (by kernel_rfl))
                                  (fun h20 h =>
                                    ifE_cases h
                                      (fun h21 h =>
                                        leaf h fun e => by subst e; exact fin_ret Go.Proofs.Try.func5 mix 1000 [.call [] (laws_big.calls h1), .br h2, .call [] (spec_DrawMoveSide.calls h3), .call [] (impl_MoveSide.calls h4), .call [] (spec_MoveSide.calls h5), .br h6, .br h7, .br h8, .call [] (spec_DrawPairedMover.calls h13), .call [] (impl_PairedMover.calls h14), .call [] (spec_PairedMover.calls h15), .br h16, .br h17, .br h18, .call [] (impl_IsFree.calls h19), .br h20, .br h21] (by kernel_rfl))
                                      (fun h21 h =>
                                        fin_fin Go.Proofs.Try.func5 mix 1000 [.call [] (laws_big.calls h1), .br h2, .call [] (spec_DrawMoveSide.calls h3), .call [] (impl_MoveSide.calls h4), .call [] (spec_MoveSide.calls h5), .br h6, .br h7, .br h8, .call [] (spec_DrawPairedMover.calls h13), .call [] (impl_PairedMover.calls h14), .call [] (spec_PairedMover.calls h15), .br h16, .br h17, .br h18, .call [] (impl_IsFree.calls h19), .br h20, .br h21, .fin 33 [0] [] (laws_FnSides.j33_ok a0 r h)] (by kernel_rfl))))
                              (fun h18 h =>
                                fin_fin Go.Proofs.Try.func5 mix 1000 [.call [] (laws_big.calls h1), .br h2, .call [] (spec_DrawMoveSide.calls h3), .call [] (impl_MoveSide.calls h4), .call [] (spec_MoveSide.calls h5), .br h6, .br h7, .br h8, .call [] (spec_DrawPairedMover.calls h13), .call [] (impl_PairedMover.calls h14), .call [] (spec_PairedMover.calls h15), .br h16, .br h17, .br h18, .fin 33 [0] [] (laws_FnSides.j33_ok a0 r h)] (by kernel_rfl))))))))

end Go.CTry
