import Derived.Test.YtdfepbmcglnhcaaGreatPtF
import Derived.Test.YtdfepbmcglnhcaaGreatPtCA
section
set_option linter.unusedVariables false
set_option maxRecDepth 100000
open Go Go.Eng
namespace Go.CTryz
open Go.Gn
theorem spec_l01Bad.calls {a0 : SLu8eiu64} {a1 : Siii} {r : (Siii × SLu8eiu64)} (h : spec_l01Bad.f a0 a1 = some r) : Eng.Fn Go.Proofs.Tryz.prog 275 [.bx 2000 0, .ag (Siii.cells a1)] [(2000, .box [R true 1 (cK .u8) a0.c0, I a0.c1, K .u64 a0.c2])] [(2000, .box (SLu8eiu64.cells r.2))] (.ag (Siii.cells r.1)) :=
  fn_fin Go.Proofs.Tryz.func275 (c := bodyOf Go.Proofs.Tryz.f275) (by kernel_rfl) (by kernel_rfl) <|
    bind_cases h fun r1 h1 h =>
    ifE_cases h
      (fun h2 h =>
        bind_cases h fun r2 h3 h =>
        leaf h fun e => by subst e; exact fin_ret Go.Proofs.Tryz.func275 mix 1000 [.call [(2000, 2000)] (spec_l01Next.calls h1), .br h2, .call [(2000, 2000)] (spec_l01Pick.calls h3)] (by kernel_rfl))
      (fun h2 h =>
        ifE_cases h
          (fun h4 h =>
            bind_cases h fun r3 h5 h =>
            leaf h fun e => by subst e; exact fin_ret Go.Proofs.Tryz.func275 mix 1000 [.call [(2000, 2000)] (spec_l01Next.calls h1), .br h2, .br h4, .call [(2000, 2000)] (spec_l01Pick.calls h5)] (by kernel_rfl))
          (fun h4 h =>
            ifE_cases h
              (fun h6 h =>
                bind_cases h fun r4 h7 h =>
                leaf h fun e => by subst e; exact fin_ret Go.Proofs.Tryz.func275 mix 1000 [.call [(2000, 2000)] (spec_l01Next.calls h1), .br h2, .br h4, .br h6, .call [(2000, 2000)] (spec_l01Pick.calls h7)] (by kernel_rfl))
              (fun h6 h =>
                leaf h fun e => by subst e; exact fin_ret Go.Proofs.Tryz.func275 mix 1000 [.call [(2000, 2000)] (spec_l01Next.calls h1), .br h2, .br h4, .br h6] (by kernel_rfl))))

theorem spec_l01Draw.calls {a0 : SLu8eiu64} {a1 : Int} {r : (Siii × SLu8eiu64)} (h : spec_l01Draw.f a0 a1 = some r) : Eng.Fn Go.Proofs.Tryz.prog 244 [.bx 2000 0, I a1] [(2000, .box [R true 1 (cK .u8) a0.c0, I a0.c1, K .u64 a0.c2])] [(2000, .box (SLu8eiu64.cells r.2))] (.ag (Siii.cells r.1)) :=
  fn_fin Go.Proofs.Tryz.func244 (c := bodyOf Go.Proofs.Tryz.f244) (by kernel_rfl) (by kernel_rfl) <|
    bind_cases h fun r1 h1 h =>
    bind_cases h fun r2 h2 h =>
    bind_cases h fun r3 h3 h =>
    ifE_cases h
      (fun h4 h =>
        leaf h fun e => by subst e; exact fin_ret Go.Proofs.Tryz.func244 mix 1000 [.call [(2000, 2000)] (spec_l01Next.calls h1), .call [(2000, 2000)] (spec_l01Pick.calls h2), .call [(2000, 2000)] (spec_l01Next.calls h3), .br h4] (by kernel_rfl))
      (fun h4 h =>
        bind_cases h fun r4 h5 h =>
        bind_cases h fun r5 h6 h =>
        bind_cases h fun r6 h7 h =>
        bind_cases h fun r7 h8 h =>
        bind_cases h fun r8 h9 h =>
        bind_cases h fun r9 h10 h =>
        bind_cases h fun r10 h11 h =>
        ifE_cases h
          (fun h12 h =>
            leaf h fun e => by subst e; exact fin_ret Go.Proofs.Tryz.func244 mix 1000 [.call [(2000, 2000)] (spec_l01Next.calls h1), .call [(2000, 2000)] (spec_l01Pick.calls h2), .call [(2000, 2000)] (spec_l01Next.calls h3), .br h4, .call [(2000, 2000)] (spec_l01Next.calls h5), .call [(2000, 2000)] (spec_l01Next.calls h6), .call [(2000, 2000)] (spec_l01Pick.calls h7), .call [(2000, 2000)] (spec_l01Next.calls h8), .call [(2000, 2000)] (spec_l01Pick.calls h9), .call [] (spec_l01Power.calls h10), .call [] (spec_l01Of.calls h11), .br h12] (by kernel_rfl))
          (fun h12 h =>
            leaf h fun e => by subst e; exact fin_ret Go.Proofs.Tryz.func244 mix 1000 [.call [(2000, 2000)] (spec_l01Next.calls h1), .call [(2000, 2000)] (spec_l01Pick.calls h2), .call [(2000, 2000)] (spec_l01Next.calls h3), .br h4, .call [(2000, 2000)] (spec_l01Next.calls h5), .call [(2000, 2000)] (spec_l01Next.calls h6), .call [(2000, 2000)] (spec_l01Pick.calls h7), .call [(2000, 2000)] (spec_l01Next.calls h8), .call [(2000, 2000)] (spec_l01Pick.calls h9), .call [] (spec_l01Power.calls h10), .call [] (spec_l01Of.calls h11), .br h12] (by kernel_rfl)))

theorem spec_l09Side.calls {a0 : SLu8eiu64} {a1 : Int} {r : (Siiib × SLu8eiu64)} (h : spec_l09Side.f a0 a1 = some r) : Eng.Fn Go.Proofs.Tryz.prog 251 [.bx 2000 0, I a1] [(2000, .box [R true 1 (cK .u8) a0.c0, I a0.c1, K .u64 a0.c2])] [(2000, .box (SLu8eiu64.cells r.2))] (.ag (Siiib.cells r.1)) :=
  fn_fin Go.Proofs.Tryz.func251 (c := bodyOf Go.Proofs.Tryz.f251) (by kernel_rfl) (by kernel_rfl) <|
    bind_cases h fun r1 h1 h =>
    bind_cases h fun r2 h2 h =>
    bind_cases h fun r3 h3 h =>
    leaf h fun e => by subst e; exact fin_ret Go.Proofs.Tryz.func251 mix 1000 [.call [(2000, 2000)] (spec_l01Draw.calls h1), .call [(2000, 2000)] (spec_l01Bad.calls h2), .call [(2000, 2000)] (spec_l01Next.calls h3)] (by kernel_rfl)

theorem impl_areSides.l2_ok (k : Nat) : ∀ (v0 : Int) (v7 : (List Siiib)) (v8 : Int) (v9 : Int) (r : Bool), (impl_areSides.l2 k) v0 v7 v8 v9 = some r → Eng.Fin Go.Proofs.Tryz.prog 169 [] [] (B r) (itsL 2 (bodyOf Go.Proofs.Tryz.f169)) (mkS 21 [(0, I v0), (7, R true 4 Siiib.cells v7), (8, I v8), (9, I v9)] []) := by
  induction k with
  | zero => intro v0 v7 v8 v9 r h; exact nomatch h
  | succ k ih =>
    exact fun v0 v7 v8 v9 r h =>
      ifE_cases h
        (fun h1 h =>
          bind_cases h fun e1 h2 h =>
          bind_cases h fun r2 h3 h =>
          ifE_cases h
            (fun h4 h =>
              leaf h fun e => by subst e; exact fin_ret Go.Proofs.Tryz.func169 mix 1000 [.unroll, .br h1, .el (getE_el Siiib.cells h2), .call [] (impl_IsBall.calls h3), .br h4] (by kernel_rfl))
            (fun h4 h =>
              fin_fin Go.Proofs.Tryz.func169 mix 1000 [.unroll, .br h1, .el (getE_el Siiib.cells h2), .call [] (impl_IsBall.calls h3), .br h4, .fin 100000 [0, 7, 8, 9] [] (ih v0 v7 v8 (W (v9 + 1)) r h)] (by kernel_rfl)))
        (fun h1 h =>
          bind_cases h fun r3 h5 h =>
          leaf h fun e => by subst e; exact fin_ret Go.Proofs.Tryz.func169 mix 1000 [.unroll, .br h1, .call [] (impl_isPrime.calls h5)] (by kernel_rfl))

theorem impl_areSides.calls {a0 : Int} {a1 : (List Siiib)} {r : Bool} (h : impl_areSides.f a0 a1 = some r) : Eng.Fn Go.Proofs.Tryz.prog 169 [I a0, R true 4 Siiib.cells a1] [] [] (B r) :=
  fn_fin Go.Proofs.Tryz.func169 (c := bodyOf Go.Proofs.Tryz.f169) (by kernel_rfl) (by kernel_rfl) <|
    fin_fin Go.Proofs.Tryz.func169 mix 1000 [.fin 100000 [0, 7, 8, 9] [] (impl_areSides.l2_ok fuelN a0 a1 (a1.length : Int) 0 r h)] (by kernel_rfl)

theorem impl_moveSide.j8_ok : ∀ (v0 : Int) (v10 : Int) (v11 : Int) (v12 : Int) (o5_0 : Int) (o5_1 : Int) (o5_2 : Int) (o5_3 : Bool) (o6_0 : Int) (o6_1 : Int) (o6_2 : Int) (o6_3 : Bool) (r : (Siiib × Bool)), (impl_moveSide.j8) v0 v10 v11 v12 o5_0 o5_1 o5_2 o5_3 o6_0 o6_1 o6_2 o6_3 = some r → Eng.Fin Go.Proofs.Tryz.prog 160 [] [] (.tu [.ag (Siiib.cells r.1), B r.2]) (itsR 8 (bodyOf Go.Proofs.Tryz.f160)) (mkS 120 [(0, I v0), (5, .bx 5 0), (6, .bx 6 0), (10, I v10), (11, I v11), (12, I v12)] [(5, .box [I o5_0, I o5_1, I o5_2, B o5_3]), (6, .box [I o6_0, I o6_1, I o6_2, B o6_3])]) :=
  fun v0 v10 v11 v12 o5_0 o5_1 o5_2 o5_3 o6_0 o6_1 o6_2 o6_3 r h =>
    bind_cases h fun r8 h1 h =>
    bind_cases h fun r9 h2 h =>
    leaf h fun e => by subst e; exact fin_ret Go.Proofs.Tryz.func160 mix 1000 [.call [] (impl_valuation.calls h1), .call [] (impl_ballAt.calls h2)] (by kernel_rfl)

theorem impl_moveSide.calls {a0 : Int} {a1 : Siiii} {a2 : Siiib} {r : (Siiib × Bool)} (h : impl_moveSide.f a0 a1 a2 = some r) : Eng.Fn Go.Proofs.Tryz.prog 160 [I a0, .ag (Siiii.cells a1), .ag (Siiib.cells a2)] [] [] (.tu [.ag (Siiib.cells r.1), B r.2]) :=
  fn_fin Go.Proofs.Tryz.func160 (c := bodyOf Go.Proofs.Tryz.f160) (by kernel_rfl) (by kernel_rfl) <|
    bind_cases h fun r1 h1 h =>
    bind_cases h fun r2 h2 h =>
    bind_cases h fun r3 h3 h =>
    bind_cases h fun r4 h4 h =>
    bind_cases h fun r5 h5 h =>
    ifE_cases h
      (fun h6 h =>
        bind_cases h fun r6 h7 h =>
        ifE_cases h
          (fun h8 h =>
            bind_cases h fun r7 h9 h =>
            leaf h fun e => by subst e; exact fin_ret Go.Proofs.Tryz.func160 mix 1000 [.call [] (impl_mark.calls h1), .call [] (impl_power.calls h2), .call [] (impl_determinant.calls h3), .call [] (impl_valuation.calls h4), .call [] (impl_valuation.calls h5), .br h6, .call [] (impl_valuation.calls h7), .br h8, .call [] (impl_ballAt.calls h9)] (by kernel_rfl))
          (fun h8 h =>
            fin_fin Go.Proofs.Tryz.func160 mix 1000 [.call [] (impl_mark.calls h1), .call [] (impl_power.calls h2), .call [] (impl_determinant.calls h3), .call [] (impl_valuation.calls h4), .call [] (impl_valuation.calls h5), .br h6, .call [] (impl_valuation.calls h7), .br h8, .fin 8 [0, 5, 6, 10, 11, 12] [(5, 5), (6, 6)] (impl_moveSide.j8_ok a0 (W ((W (a1.c0 * r1)) + (W (a1.c1 * r2)))) (W ((W (a1.c2 * r1)) + (W (a1.c3 * r2)))) r4 a2.c0 a2.c1 a2.c2 a2.c3 0 0 0 false r h)] (by kernel_rfl)))
      (fun h6 h =>
        fin_fin Go.Proofs.Tryz.func160 mix 1000 [.call [] (impl_mark.calls h1), .call [] (impl_power.calls h2), .call [] (impl_determinant.calls h3), .call [] (impl_valuation.calls h4), .call [] (impl_valuation.calls h5), .br h6, .fin 8 [0, 5, 6, 10, 11, 12] [(5, 5), (6, 6)] (impl_moveSide.j8_ok a0 (W ((W (a1.c0 * r1)) + (W (a1.c1 * r2)))) (W ((W (a1.c2 * r1)) + (W (a1.c3 * r2)))) r4 a2.c0 a2.c1 a2.c2 a2.c3 0 0 0 false r h)] (by kernel_rfl))

theorem spec_l09Code.l4_ok (k : Nat) : ∀ (v0 : Int) (v1 : (List Siiib)) (v5 : Int) (r : Int), (spec_l09Code.l4 k) v0 v1 v5 = some r → Eng.Fin Go.Proofs.Tryz.prog 253 [] [] (I r) (itsL 4 (bodyOf Go.Proofs.Tryz.f253)) (mkS 23 [(0, I v0), (1, R true 4 Siiib.cells v1), (5, I v5)] []) := by
  induction k with
  | zero => intro v0 v1 v5 r h; exact nomatch h
  | succ k ih =>
    exact fun v0 v1 v5 r h =>
      ifE_cases h
        (fun h1 h =>
          bind_cases h fun e2 h2 h =>
          bind_cases h fun r3 h3 h =>
          ifE_cases h
            (fun h4 h =>
              leaf h fun e => by subst e; exact fin_ret Go.Proofs.Tryz.func253 mix 1000 [.unroll, .br h1, .el (getE_el Siiib.cells h2), .call [] (spec_l01Is.calls h3), .br h4] (by kernel_rfl))
            (fun h4 h =>
              fin_fin Go.Proofs.Tryz.func253 mix 1000 [.unroll, .br h1, .el (getE_el Siiib.cells h2), .call [] (spec_l01Is.calls h3), .br h4, .fin 100000 [0, 1, 5] [] (ih v0 v1 (W (v5 + 1)) r h)] (by kernel_rfl)))
        (fun h1 h =>
          leaf h fun e => by subst e; exact fin_ret Go.Proofs.Tryz.func253 mix 1000 [.unroll, .br h1] (by kernel_rfl))

theorem spec_l09Code.calls {a0 : Int} {a1 : (List Siiib)} {r : Int} (h : spec_l09Code.f a0 a1 = some r) : Eng.Fn Go.Proofs.Tryz.prog 253 [I a0, R true 4 Siiib.cells a1] [] [] (I r) :=
  fn_fin Go.Proofs.Tryz.func253 (c := bodyOf Go.Proofs.Tryz.f253) (by kernel_rfl) (by kernel_rfl) <|
    bind_cases h fun r1 h1 h =>
    ifE_cases h
      (fun h2 h =>
        leaf h fun e => by subst e; exact fin_ret Go.Proofs.Tryz.func253 mix 1000 [.call [] (spec_l01Prime.calls h1), .br h2] (by kernel_rfl))
      (fun h2 h =>
        fin_fin Go.Proofs.Tryz.func253 mix 1000 [.call [] (spec_l01Prime.calls h1), .br h2, .fin 100000 [0, 1, 5] [] (spec_l09Code.l4_ok fuelN a0 a1 0 r h)] (by kernel_rfl))

theorem spec_l09Move.j6_ok : ∀ (v0 : Int) (v9 : Int) (v10 : Int) (v11 : Int) (v12 : Int) (v13 : Bool) (o4_0 : Int) (o4_1 : Int) (o4_2 : Int) (o4_3 : Int) (o5_0 : Int) (o5_1 : Int) (o5_2 : Int) (o5_3 : Bool) (o6_0 : Int) (o6_1 : Int) (o6_2 : Int) (o6_3 : Bool) (r : (Siiib × Bool)), (spec_l09Move.j6) v0 v9 v10 v11 v12 v13 o4_0 o4_1 o4_2 o4_3 o5_0 o5_1 o5_2 o5_3 o6_0 o6_1 o6_2 o6_3 = some r → Eng.Fin Go.Proofs.Tryz.prog 167 [] [] (.tu [.ag (Siiib.cells r.1), B r.2]) (itsR 6 (bodyOf Go.Proofs.Tryz.f167)) (mkS 148 [(0, I v0), (4, .bx 4 0), (5, .bx 5 0), (6, .bx 6 0), (9, I v9), (10, I v10), (11, I v11), (12, I v12), (13, B v13)] [(4, .box [I o4_0, I o4_1, I o4_2, I o4_3]), (5, .box [I o5_0, I o5_1, I o5_2, B o5_3]), (6, .box [I o6_0, I o6_1, I o6_2, B o6_3])]) :=
  fun v0 v9 v10 v11 v12 v13 o4_0 o4_1 o4_2 o4_3 o5_0 o5_1 o5_2 o5_3 o6_0 o6_1 o6_2 o6_3 r h =>
    ifE_cases h
      (fun h1 h =>
        bind_cases h fun r5 h2 h =>
        bind_cases h fun r6 h3 h =>
        leaf h fun e => by subst e; exact fin_ret Go.Proofs.Tryz.func167 mix 1000 [.br h1, .call [] (spec_l01Val.calls h2), .call [] (spec_l01Of.calls h3)] (by kernel_rfl))
      (fun h1 h =>
        bind_cases h fun r7 h4 h =>
        bind_cases h fun r8 h5 h =>
        leaf h fun e => by subst e; exact fin_ret Go.Proofs.Tryz.func167 mix 1000 [.br h1, .call [] (spec_l01Val.calls h4), .call [] (spec_l01Of.calls h5)] (by kernel_rfl))

theorem spec_l09Move.calls {a0 : Int} {a1 : Siiii} {a2 : Siiib} {r : (Siiib × Bool)} (h : spec_l09Move.f a0 a1 a2 = some r) : Eng.Fn Go.Proofs.Tryz.prog 167 [I a0, .ag (Siiii.cells a1), .ag (Siiib.cells a2)] [] [] (.tu [.ag (Siiib.cells r.1), B r.2]) :=
  fn_fin Go.Proofs.Tryz.func167 (c := bodyOf Go.Proofs.Tryz.f167) (by kernel_rfl) (by kernel_rfl) <|
    bind_cases h fun r1 h1 h =>
    bind_cases h fun r2 h2 h =>
    ifE_cases h
      (fun h3 h =>
        ifE_cases h
          (fun h4 h =>
            fin_fin Go.Proofs.Tryz.func167 mix 1000 [.call [] (spec_l01Power.calls h1), .call [] (spec_l01Val.calls h2), .br h3, .br h4, .fin 6 [0, 4, 5, 6, 9, 10, 11, 12, 13] [(4, 4), (5, 5), (6, 6)] (spec_l09Move.j6_ok a0 r2 (W ((W (a1.c0 * a2.c1)) + (W (a1.c1 * r1)))) (W ((W (a1.c2 * a2.c1)) + (W (a1.c3 * r1)))) a1.c2 true a1.c0 a1.c1 a1.c2 a1.c3 a2.c0 a2.c1 a2.c2 a2.c3 0 0 0 false r h)] (by kernel_rfl))
          (fun h4 h =>
            bind_cases h fun r3 h5 h =>
            bind_cases h fun r4 h6 h =>
            fin_fin Go.Proofs.Tryz.func167 mix 1000 [.call [] (spec_l01Power.calls h1), .call [] (spec_l01Val.calls h2), .br h3, .br h4, .call [] (spec_l01Val.calls h5), .call [] (spec_l01Val.calls h6), .fin 6 [0, 4, 5, 6, 9, 10, 11, 12, 13] [(4, 4), (5, 5), (6, 6)] (spec_l09Move.j6_ok a0 r2 (W ((W (a1.c0 * a2.c1)) + (W (a1.c1 * r1)))) (W ((W (a1.c2 * a2.c1)) + (W (a1.c3 * r1)))) a1.c2 (decide ((W (r3 - a2.c2)) ≥ (W (r4 + a2.c0)))) a1.c0 a1.c1 a1.c2 a1.c3 a2.c0 a2.c1 a2.c2 a2.c3 0 0 0 false r h)] (by kernel_rfl)))
      (fun h3 h =>
        fin_fin Go.Proofs.Tryz.func167 mix 1000 [.call [] (spec_l01Power.calls h1), .call [] (spec_l01Val.calls h2), .br h3, .fin 6 [0, 4, 5, 6, 9, 10, 11, 12, 13] [(4, 4), (5, 5), (6, 6)] (spec_l09Move.j6_ok a0 r2 (W ((W (a1.c0 * a2.c1)) + (W (a1.c1 * r1)))) (W ((W (a1.c2 * a2.c1)) + (W (a1.c3 * r1)))) a1.c2 false a1.c0 a1.c1 a1.c2 a1.c3 a2.c0 a2.c1 a2.c2 a2.c3 0 0 0 false r h)] (by kernel_rfl))

theorem impl_IsEnd.calls {a0 : Sii} {r : Bool} (h : impl_IsEnd.f a0 = some r) : Eng.Fn Go.Proofs.Tryz.prog 173 [.ag (Sii.cells a0)] [] [] (B r) :=
  fn_fin Go.Proofs.Tryz.func173 (c := bodyOf Go.Proofs.Tryz.f173) (by kernel_rfl) (by kernel_rfl) <|
    ifE_cases h
      (fun h1 h =>
        leaf h fun e => by subst e; exact fin_ret Go.Proofs.Tryz.func173 mix 1000 [.br h1] (by kernel_rfl))
      (fun h1 h =>
        bind_cases h fun r1 h2 h =>
        ifE_cases h
          (fun h3 h =>
            ifE_cases h
              (fun h4 h =>
                bind_cases h fun r2 h5 h =>
                leaf h fun e => by subst e; exact fin_ret Go.Proofs.Tryz.func173 mix 1000 [.br h1, .call [] (impl_within.calls h2), .br h3, .br h4, .call [] (impl_gcd.calls h5)] (by kernel_rfl))
              (fun h4 h =>
                leaf h fun e => by subst e; exact fin_ret Go.Proofs.Tryz.func173 mix 1000 [.br h1, .call [] (impl_within.calls h2), .br h3, .br h4] (by kernel_rfl)))
          (fun h3 h =>
            leaf h fun e => by subst e; exact fin_ret Go.Proofs.Tryz.func173 mix 1000 [.br h1, .call [] (impl_within.calls h2), .br h3] (by kernel_rfl)))

theorem impl_fittedEnd.calls {a0 : Sii} {a1 : Bool} {r : (Sii × Int)} (h : impl_fittedEnd.f a0 a1 = some r) : Eng.Fn Go.Proofs.Tryz.prog 179 [.ag (Sii.cells a0), B a1] [] [] (.tu [.ag (Sii.cells r.1), I r.2]) :=
  fn_fin Go.Proofs.Tryz.func179 (c := bodyOf Go.Proofs.Tryz.f179) (by kernel_rfl) (by kernel_rfl) <|
    ifE_cases h
      (fun h1 h =>
        leaf h fun e => by subst e; exact fin_ret Go.Proofs.Tryz.func179 mix 1000 [.br h1] (by kernel_rfl))
      (fun h1 h =>
        leaf h fun e => by subst e; exact fin_ret Go.Proofs.Tryz.func179 mix 1000 [.br h1] (by kernel_rfl))

theorem impl_endAt.j6_ok : ∀ (v0 : Int) (v1 : Int) (v6 : Int) (o4_0 : Int) (o4_1 : Int) (r : (Sii × Bool)), (impl_endAt.j6) v0 v1 v6 o4_0 o4_1 = some r → Eng.Fin Go.Proofs.Tryz.prog 258 [] [] (.tu [.ag (Sii.cells r.1), B r.2]) (itsR 6 (bodyOf Go.Proofs.Tryz.f258)) (mkS 28 [(0, I v0), (1, I v1), (4, .bx 4 0), (6, I v6)] [(4, .box [I o4_0, I o4_1])]) :=
  fun v0 v1 v6 o4_0 o4_1 r h =>
    guardE_cases h fun h1 h =>
    guardE_cases h fun h2 h =>
    bind_cases h fun r2 h3 h =>
    leaf h fun e => by subst e; exact fin_ret Go.Proofs.Tryz.func258 mix 1000 [.nz h1, .nz h2, .call [] (impl_IsEnd.calls h3)] (by kernel_rfl)

theorem impl_endAt.calls {a0 : Int} {a1 : Int} {r : (Sii × Bool)} (h : impl_endAt.f a0 a1 = some r) : Eng.Fn Go.Proofs.Tryz.prog 258 [I a0, I a1] [] [] (.tu [.ag (Sii.cells r.1), B r.2]) :=
  fn_fin Go.Proofs.Tryz.func258 (c := bodyOf Go.Proofs.Tryz.f258) (by kernel_rfl) (by kernel_rfl) <|
    ifE_cases h
      (fun h1 h =>
        leaf h fun e => by subst e; exact fin_ret Go.Proofs.Tryz.func258 mix 1000 [.br h1] (by kernel_rfl))
      (fun h1 h =>
        bind_cases h fun r1 h2 h =>
        ifE_cases h
          (fun h3 h =>
            fin_fin Go.Proofs.Tryz.func258 mix 1000 [.br h1, .call [] (impl_gcd.calls h2), .br h3, .fin 6 [0, 1, 4, 6] [(4, 4)] (impl_endAt.j6_ok a0 a1 (W (0 - r1)) 0 0 r h)] (by kernel_rfl))
          (fun h3 h =>
            fin_fin Go.Proofs.Tryz.func258 mix 1000 [.br h1, .call [] (impl_gcd.calls h2), .br h3, .fin 6 [0, 1, 4, 6] [(4, 4)] (impl_endAt.j6_ok a0 a1 r1 0 0 r h)] (by kernel_rfl)))

theorem impl_moveEnd.calls {a0 : Siiii} {a1 : Sii} {r : (Sii × Bool)} (h : impl_moveEnd.f a0 a1 = some r) : Eng.Fn Go.Proofs.Tryz.prog 175 [.ag (Siiii.cells a0), .ag (Sii.cells a1)] [] [] (.tu [.ag (Sii.cells r.1), B r.2]) :=
  fn_fin Go.Proofs.Tryz.func175 (c := bodyOf Go.Proofs.Tryz.f175) (by kernel_rfl) (by kernel_rfl) <|
    bind_cases h fun r1 h1 h =>
    leaf h fun e => by subst e; exact fin_ret Go.Proofs.Tryz.func175 mix 1000 [.call [] (impl_endAt.calls h1)] (by kernel_rfl)

theorem impl_MoveEnd.calls {a0 : Siiii} {a1 : Sii} {r : (Sii × Int)} (h : impl_MoveEnd.f a0 a1 = some r) : Eng.Fn Go.Proofs.Tryz.prog 58 [.ag (Siiii.cells a0), .ag (Sii.cells a1)] [] [] (.tu [.ag (Sii.cells r.1), I r.2]) :=
  fn_fin Go.Proofs.Tryz.func58 (c := bodyOf Go.Proofs.Tryz.f58) (by kernel_rfl) (by kernel_rfl) <|
    bind_cases h fun r1 h1 h =>
    ifE_cases h
      (fun h2 h =>
        leaf h fun e => by subst e; exact fin_ret Go.Proofs.Tryz.func58 mix 1000 [.call [] (impl_IsMatrix.calls h1), .br h2] (by kernel_rfl))
      (fun h2 h =>
        bind_cases h fun r2 h3 h =>
        ifE_cases h
          (fun h4 h =>
            leaf h fun e => by subst e; exact fin_ret Go.Proofs.Tryz.func58 mix 1000 [.call [] (impl_IsMatrix.calls h1), .br h2, .call [] (impl_IsEnd.calls h3), .br h4] (by kernel_rfl))
          (fun h4 h =>
            bind_cases h fun r3 h5 h =>
            bind_cases h fun r4 h6 h =>
            leaf h fun e => by subst e; exact fin_ret Go.Proofs.Tryz.func58 mix 1000 [.call [] (impl_IsMatrix.calls h1), .br h2, .call [] (impl_IsEnd.calls h3), .br h4, .call [] (impl_moveEnd.calls h5), .call [] (impl_fittedEnd.calls h6)] (by kernel_rfl)))

theorem impl_nearness.calls {a0 : Int} {a1 : Siii} {a2 : Int} {a3 : Int} {r : Int} (h : impl_nearness.f a0 a1 a2 a3 = some r) : Eng.Fn Go.Proofs.Tryz.prog 294 [I a0, .ag (Siii.cells a1), I a2, I a3] [] [] (I r) :=
  fn_fin Go.Proofs.Tryz.func294 (c := bodyOf Go.Proofs.Tryz.f294) (by kernel_rfl) (by kernel_rfl) <|
    bind_cases h fun r1 h1 h =>
    bind_cases h fun r2 h2 h =>
    ifE_cases h
      (fun h3 h =>
        leaf h fun e => by subst e; exact fin_ret Go.Proofs.Tryz.func294 mix 1000 [.call [] (impl_power.calls h1), .call [] (impl_mark.calls h2), .br h3] (by kernel_rfl))
      (fun h3 h =>
        bind_cases h fun r3 h4 h =>
        bind_cases h fun r4 h5 h =>
        leaf h fun e => by subst e; exact fin_ret Go.Proofs.Tryz.func294 mix 1000 [.call [] (impl_power.calls h1), .call [] (impl_mark.calls h2), .br h3, .call [] (impl_valuation.calls h4), .call [] (impl_valuation.calls h5)] (by kernel_rfl))

theorem impl_held.calls {a0 : Int} {a1 : Siii} {a2 : Sii} {r : Bool} (h : impl_held.f a0 a1 a2 = some r) : Eng.Fn Go.Proofs.Tryz.prog 287 [I a0, .ag (Siii.cells a1), .ag (Sii.cells a2)] [] [] (B r) :=
  fn_fin Go.Proofs.Tryz.func287 (c := bodyOf Go.Proofs.Tryz.f287) (by kernel_rfl) (by kernel_rfl) <|
    ifE_cases h
      (fun h1 h =>
        bind_cases h fun r1 h2 h =>
        leaf h fun e => by subst e; exact fin_ret Go.Proofs.Tryz.func287 mix 1000 [.br h1, .call [] (impl_nearness.calls h2)] (by kernel_rfl))
      (fun h1 h =>
        leaf h fun e => by subst e; exact fin_ret Go.Proofs.Tryz.func287 mix 1000 [.br h1] (by kernel_rfl))

theorem impl_sideHas.calls {a0 : Int} {a1 : Siiib} {a2 : Sii} {r : Bool} (h : impl_sideHas.f a0 a1 a2 = some r) : Eng.Fn Go.Proofs.Tryz.prog 257 [I a0, .ag (Siiib.cells a1), .ag (Sii.cells a2)] [] [] (B r) :=
  fn_fin Go.Proofs.Tryz.func257 (c := bodyOf Go.Proofs.Tryz.f257) (by kernel_rfl) (by kernel_rfl) <|
    bind_cases h fun r1 h1 h =>
    leaf h fun e => by subst e; exact fin_ret Go.Proofs.Tryz.func257 mix 1000 [.call [] (impl_held.calls h1)] (by kernel_rfl)

theorem spec_l01DrawPrime.calls {a0 : SLu8eiu64} {r : (Int × SLu8eiu64)} (h : spec_l01DrawPrime.f a0 = some r) : Eng.Fn Go.Proofs.Tryz.prog 213 [.bx 2000 0] [(2000, .box [R true 1 (cK .u8) a0.c0, I a0.c1, K .u64 a0.c2])] [(2000, .box (SLu8eiu64.cells r.2))] (I r.1) :=
  fn_fin Go.Proofs.Tryz.func213 (c := bodyOf Go.Proofs.Tryz.f213) (by kernel_rfl) (by kernel_rfl) <|
    bind_cases h fun r1 h1 h =>
    leaf h fun e => by subst e; exact fin_ret Go.Proofs.Tryz.func213 mix 1000 [.call [(2000, 2000)] (spec_l01Pick.calls h1)] (by kernel_rfl)

theorem spec_l01Spoil.calls {a0 : SLu8eiu64} {r : (Int × Siii × SLu8eiu64)} (h : spec_l01Spoil.f a0 = some r) : Eng.Fn Go.Proofs.Tryz.prog 219 [.bx 2000 0] [(2000, .box [R true 1 (cK .u8) a0.c0, I a0.c1, K .u64 a0.c2])] [(2000, .box (SLu8eiu64.cells r.2.2))] (.tu [I r.1, .ag (Siii.cells r.2.1)]) :=
  fn_fin Go.Proofs.Tryz.func219 (c := bodyOf Go.Proofs.Tryz.f219) (by kernel_rfl) (by kernel_rfl) <|
    bind_cases h fun r1 h1 h =>
    bind_cases h fun r2 h2 h =>
    bind_cases h fun r3 h3 h =>
    bind_cases h fun r4 h4 h =>
    ifE_cases h
      (fun h5 h =>
        bind_cases h fun r5 h6 h =>
        leaf h fun e => by subst e; exact fin_ret Go.Proofs.Tryz.func219 mix 1000 [.call [(2000, 2000)] (spec_l01DrawPrime.calls h1), .call [(2000, 2000)] (spec_l01Draw.calls h2), .call [(2000, 2000)] (spec_l01Bad.calls h3), .call [(2000, 2000)] (spec_l01Next.calls h4), .br h5, .call [(2000, 2000)] (spec_l01Pick.calls h6)] (by kernel_rfl))
      (fun h5 h =>
        leaf h fun e => by subst e; exact fin_ret Go.Proofs.Tryz.func219 mix 1000 [.call [(2000, 2000)] (spec_l01DrawPrime.calls h1), .call [(2000, 2000)] (spec_l01Draw.calls h2), .call [(2000, 2000)] (spec_l01Bad.calls h3), .call [(2000, 2000)] (spec_l01Next.calls h4), .br h5] (by kernel_rfl))

theorem spec_l01Parent.calls {a0 : Int} {a1 : Siii} {r : (Siii × Bool)} (h : spec_l01Parent.f a0 a1 = some r) : Eng.Fn Go.Proofs.Tryz.prog 261 [I a0, .ag (Siii.cells a1)] [] [] (.tu [.ag (Siii.cells r.1), B r.2]) :=
  fn_fin Go.Proofs.Tryz.func261 (c := bodyOf Go.Proofs.Tryz.f261) (by kernel_rfl) (by kernel_rfl) <|
    bind_cases h fun r1 h1 h =>
    bind_cases h fun r2 h2 h =>
    leaf h fun e => by subst e; exact fin_ret Go.Proofs.Tryz.func261 mix 1000 [.call [] (spec_l01Power.calls h1), .call [] (spec_l01Of.calls h2)] (by kernel_rfl)

theorem spec_l09Paired.j22_ok (rec19 : Int → Int → Int → Int → Int → Int → Int → Int → Int → Int → Option (Siiii × Bool)) (rec19H : ∀ (v14 : Int) (v17 : Int) (o6_0 : Int) (o6_1 : Int) (o6_2 : Int) (o6_3 : Int) (o13_0 : Int) (o13_1 : Int) (o13_2 : Int) (o13_3 : Int) (r : (Siiii × Bool)), rec19 v14 v17 o6_0 o6_1 o6_2 o6_3 o13_0 o13_1 o13_2 o13_3 = some r → Eng.Fin Go.Proofs.Tryz.prog 250 [] [] (.tu [.ag (Siiii.cells r.1), B r.2]) (itsL 19 (bodyOf Go.Proofs.Tryz.f250)) (mkS 153 [(6, .bx 6 0), (13, .bx 13 0), (14, I v14), (17, I v17)] [(6, .box [I o6_0, I o6_1, I o6_2, I o6_3]), (13, .box [I o13_0, I o13_1, I o13_2, I o13_3])])) : ∀ (v14 : Int) (v17 : Int) (o6_0 : Int) (o6_1 : Int) (o6_2 : Int) (o6_3 : Int) (o13_0 : Int) (o13_1 : Int) (o13_2 : Int) (o13_3 : Int) (r : (Siiii × Bool)), (spec_l09Paired.j22 rec19) v14 v17 o6_0 o6_1 o6_2 o6_3 o13_0 o13_1 o13_2 o13_3 = some r → Eng.Fin Go.Proofs.Tryz.prog 250 [] [] (.tu [.ag (Siiii.cells r.1), B r.2]) (itsR 22 (bodyOf Go.Proofs.Tryz.f250)) (mkS 153 [(6, .bx 6 0), (13, .bx 13 0), (14, I v14), (17, I v17)] [(6, .box [I o6_0, I o6_1, I o6_2, I o6_3]), (13, .box [I o13_0, I o13_1, I o13_2, I o13_3])]) :=
  fun v14 v17 o6_0 o6_1 o6_2 o6_3 o13_0 o13_1 o13_2 o13_3 r h =>
    ifE_cases h
      (fun h1 h =>
        bind_cases h fun r13 h2 h =>
        ifE_cases h
          (fun h3 h =>
            leaf h fun e => by subst e; exact fin_ret Go.Proofs.Tryz.func250 mix 1000 [.num (eq_of h1), .call [] (spec_l01In.calls h2), .br h3] (by kernel_rfl))
          (fun h3 h =>
            fin_fin Go.Proofs.Tryz.func250 mix 1000 [.num (eq_of h1), .call [] (spec_l01In.calls h2), .br h3, .fin 100000 [6, 13, 14, 17] [(6, 6), (13, 13)] (rec19H v14 (W (v17 + 1)) o6_0 o6_1 o6_2 o6_3 o13_0 o13_1 o13_2 o13_3 r h)] (by kernel_rfl)))
      (fun h1 h =>
        ifE_cases h
          (fun h4 h =>
            bind_cases h fun r14 h5 h =>
            ifE_cases h
              (fun h6 h =>
                leaf h fun e => by subst e; exact fin_ret Go.Proofs.Tryz.func250 mix 1000 [.num (eq_of h4), .call [] (spec_l01In.calls h5), .br h6] (by kernel_rfl))
              (fun h6 h =>
                fin_fin Go.Proofs.Tryz.func250 mix 1000 [.num (eq_of h4), .call [] (spec_l01In.calls h5), .br h6, .fin 100000 [6, 13, 14, 17] [(6, 6), (13, 13)] (rec19H v14 (W (v17 + 1)) o6_0 o6_1 o6_2 o6_3 o13_0 o13_1 o13_2 o13_3 r h)] (by kernel_rfl)))
          (fun h4 h =>
            ifE_cases h
              (fun h7 h =>
                bind_cases h fun r15 h8 h =>
                ifE_cases h
                  (fun h9 h =>
                    leaf h fun e => by subst e; exact fin_ret Go.Proofs.Tryz.func250 mix 1000 [.num (eq_of h7), .call [] (spec_l01In.calls h8), .br h9] (by kernel_rfl))
                  (fun h9 h =>
                    fin_fin Go.Proofs.Tryz.func250 mix 1000 [.num (eq_of h7), .call [] (spec_l01In.calls h8), .br h9, .fin 100000 [6, 13, 14, 17] [(6, 6), (13, 13)] (rec19H v14 (W (v17 + 1)) o6_0 o6_1 o6_2 o6_3 o13_0 o13_1 o13_2 o13_3 r h)] (by kernel_rfl)))
              (fun h7 h =>
                ifE_cases h
                  (fun h10 h =>
                    bind_cases h fun r16 h11 h =>
                    ifE_cases h
                      (fun h12 h =>
                        leaf h fun e => by subst e; exact fin_ret Go.Proofs.Tryz.func250 mix 1000 [.num (eq_of h10), .call [] (spec_l01In.calls h11), .br h12] (by kernel_rfl))
                      (fun h12 h =>
                        fin_fin Go.Proofs.Tryz.func250 mix 1000 [.num (eq_of h10), .call [] (spec_l01In.calls h11), .br h12, .fin 100000 [6, 13, 14, 17] [(6, 6), (13, 13)] (rec19H v14 (W (v17 + 1)) o6_0 o6_1 o6_2 o6_3 o13_0 o13_1 o13_2 o13_3 r h)] (by kernel_rfl)))
                  (fun h10 h =>
                    nomatch h))))

theorem spec_l09Paired.l19_ok (k : Nat) : ∀ (v14 : Int) (v17 : Int) (o6_0 : Int) (o6_1 : Int) (o6_2 : Int) (o6_3 : Int) (o13_0 : Int) (o13_1 : Int) (o13_2 : Int) (o13_3 : Int) (r : (Siiii × Bool)), (spec_l09Paired.l19 k) v14 v17 o6_0 o6_1 o6_2 o6_3 o13_0 o13_1 o13_2 o13_3 = some r → Eng.Fin Go.Proofs.Tryz.prog 250 [] [] (.tu [.ag (Siiii.cells r.1), B r.2]) (itsL 19 (bodyOf Go.Proofs.Tryz.f250)) (mkS 153 [(6, .bx 6 0), (13, .bx 13 0), (14, I v14), (17, I v17)] [(6, .box [I o6_0, I o6_1, I o6_2, I o6_3]), (13, .box [I o13_0, I o13_1, I o13_2, I o13_3])]) := by
  induction k with
  | zero => intro v14 v17 o6_0 o6_1 o6_2 o6_3 o13_0 o13_1 o13_2 o13_3 r h; exact nomatch h
  | succ k ih =>
    exact fun v14 v17 o6_0 o6_1 o6_2 o6_3 o13_0 o13_1 o13_2 o13_3 r h =>
      ifE_cases h
        (fun h1 h =>
          ifE_cases h
            (fun h2 h =>
              guardE_cases h fun h3 h =>
              fin_fin Go.Proofs.Tryz.func250 mix 1000 [.unroll, .br h1, .num (eq_of h2), .nz h3, .num (eq_of h2), .fin 22 [6, 13, 14, 17] [(6, 6), (13, 13)] (spec_l09Paired.j22_ok (spec_l09Paired.l19 k) ih v14 v17 o6_0 o6_1 o6_2 o6_3 (W (Int.tdiv o13_0 v14)) o13_1 o13_2 o13_3 r h)] (by kernel_rfl))
            (fun h2 h =>
              ifE_cases h
                (fun h4 h =>
                  guardE_cases h fun h5 h =>
                  fin_fin Go.Proofs.Tryz.func250 mix 1000 [.unroll, .br h1, .num (eq_of h4), .nz h5, .num (eq_of h4), .fin 22 [6, 13, 14, 17] [(6, 6), (13, 13)] (spec_l09Paired.j22_ok (spec_l09Paired.l19 k) ih v14 v17 o6_0 o6_1 o6_2 o6_3 o13_0 (W (Int.tdiv o13_1 v14)) o13_2 o13_3 r h)] (by kernel_rfl))
                (fun h4 h =>
                  ifE_cases h
                    (fun h6 h =>
                      guardE_cases h fun h7 h =>
                      fin_fin Go.Proofs.Tryz.func250 mix 1000 [.unroll, .br h1, .num (eq_of h6), .nz h7, .num (eq_of h6), .fin 22 [6, 13, 14, 17] [(6, 6), (13, 13)] (spec_l09Paired.j22_ok (spec_l09Paired.l19 k) ih v14 v17 o6_0 o6_1 o6_2 o6_3 o13_0 o13_1 (W (Int.tdiv o13_2 v14)) o13_3 r h)] (by kernel_rfl))
                    (fun h6 h =>
                      ifE_cases h
                        (fun h8 h =>
                          guardE_cases h fun h9 h =>
                          fin_fin Go.Proofs.Tryz.func250 mix 1000 [.unroll, .br h1, .num (eq_of h8), .nz h9, .num (eq_of h8), .fin 22 [6, 13, 14, 17] [(6, 6), (13, 13)] (spec_l09Paired.j22_ok (spec_l09Paired.l19 k) ih v14 v17 o6_0 o6_1 o6_2 o6_3 o13_0 o13_1 o13_2 (W (Int.tdiv o13_3 v14)) r h)] (by kernel_rfl))
                        (fun h8 h =>
                          nomatch h)))))
        (fun h1 h =>
          leaf h fun e => by subst e; exact fin_ret Go.Proofs.Tryz.func250 mix 1000 [.unroll, .br h1] (by kernel_rfl))

theorem spec_l09Paired.l13_ok (k : Nat) : ∀ (v14 : Int) (v16 : Int) (o6_0 : Int) (o6_1 : Int) (o6_2 : Int) (o6_3 : Int) (o13_0 : Int) (o13_1 : Int) (o13_2 : Int) (o13_3 : Int) (r : (Siiii × Bool)), (spec_l09Paired.l13 k) v14 v16 o6_0 o6_1 o6_2 o6_3 o13_0 o13_1 o13_2 o13_3 = some r → Eng.Fin Go.Proofs.Tryz.prog 250 [] [] (.tu [.ag (Siiii.cells r.1), B r.2]) (itsL 13 (bodyOf Go.Proofs.Tryz.f250)) (mkS 153 [(6, .bx 6 0), (13, .bx 13 0), (14, I v14), (16, I v16)] [(6, .box [I o6_0, I o6_1, I o6_2, I o6_3]), (13, .box [I o13_0, I o13_1, I o13_2, I o13_3])]) := by
  induction k with
  | zero => intro v14 v16 o6_0 o6_1 o6_2 o6_3 o13_0 o13_1 o13_2 o13_3 r h; exact nomatch h
  | succ k ih =>
    exact fun v14 v16 o6_0 o6_1 o6_2 o6_3 o13_0 o13_1 o13_2 o13_3 r h =>
      ifE_cases h
        (fun h1 h =>
          ifE_cases h
            (fun h2 h =>
              ifE_cases h
                (fun h3 h =>
                  ifE_cases h
                    (fun h4 h =>
                      fin_fin Go.Proofs.Tryz.func250 mix 1000 [.unroll, .br h1, .num (eq_of h2), .br h3, .num (eq_of h2), .br h4, .fin 100000 [6, 13, 14, 17] [(6, 6), (13, 13)] (spec_l09Paired.l19_ok fuelN (W (0 - v14)) 0 o6_0 o6_1 o6_2 o6_3 o13_0 o13_1 o13_2 o13_3 r h)] (by kernel_rfl))
                    (fun h4 h =>
                      fin_fin Go.Proofs.Tryz.func250 mix 1000 [.unroll, .br h1, .num (eq_of h2), .br h3, .num (eq_of h2), .br h4, .fin 100000 [6, 13, 14, 17] [(6, 6), (13, 13)] (spec_l09Paired.l19_ok fuelN v14 0 o6_0 o6_1 o6_2 o6_3 o13_0 o13_1 o13_2 o13_3 r h)] (by kernel_rfl)))
                (fun h3 h =>
                  fin_fin Go.Proofs.Tryz.func250 mix 1000 [.unroll, .br h1, .num (eq_of h2), .br h3, .fin 100000 [6, 13, 14, 16] [(6, 6), (13, 13)] (ih v14 (W (v16 + 1)) o6_0 o6_1 o6_2 o6_3 o13_0 o13_1 o13_2 o13_3 r h)] (by kernel_rfl)))
            (fun h2 h =>
              ifE_cases h
                (fun h5 h =>
                  ifE_cases h
                    (fun h6 h =>
                      ifE_cases h
                        (fun h7 h =>
                          fin_fin Go.Proofs.Tryz.func250 mix 1000 [.unroll, .br h1, .num (eq_of h5), .br h6, .num (eq_of h5), .br h7, .fin 100000 [6, 13, 14, 17] [(6, 6), (13, 13)] (spec_l09Paired.l19_ok fuelN (W (0 - v14)) 0 o6_0 o6_1 o6_2 o6_3 o13_0 o13_1 o13_2 o13_3 r h)] (by kernel_rfl))
                        (fun h7 h =>
                          fin_fin Go.Proofs.Tryz.func250 mix 1000 [.unroll, .br h1, .num (eq_of h5), .br h6, .num (eq_of h5), .br h7, .fin 100000 [6, 13, 14, 17] [(6, 6), (13, 13)] (spec_l09Paired.l19_ok fuelN v14 0 o6_0 o6_1 o6_2 o6_3 o13_0 o13_1 o13_2 o13_3 r h)] (by kernel_rfl)))
                    (fun h6 h =>
                      fin_fin Go.Proofs.Tryz.func250 mix 1000 [.unroll, .br h1, .num (eq_of h5), .br h6, .fin 100000 [6, 13, 14, 16] [(6, 6), (13, 13)] (ih v14 (W (v16 + 1)) o6_0 o6_1 o6_2 o6_3 o13_0 o13_1 o13_2 o13_3 r h)] (by kernel_rfl)))
                (fun h5 h =>
                  ifE_cases h
                    (fun h8 h =>
                      ifE_cases h
                        (fun h9 h =>
                          ifE_cases h
                            (fun h10 h =>
                              fin_fin Go.Proofs.Tryz.func250 mix 1000 [.unroll, .br h1, .num (eq_of h8), .br h9, .num (eq_of h8), .br h10, .fin 100000 [6, 13, 14, 17] [(6, 6), (13, 13)] (spec_l09Paired.l19_ok fuelN (W (0 - v14)) 0 o6_0 o6_1 o6_2 o6_3 o13_0 o13_1 o13_2 o13_3 r h)] (by kernel_rfl))
                            (fun h10 h =>
                              fin_fin Go.Proofs.Tryz.func250 mix 1000 [.unroll, .br h1, .num (eq_of h8), .br h9, .num (eq_of h8), .br h10, .fin 100000 [6, 13, 14, 17] [(6, 6), (13, 13)] (spec_l09Paired.l19_ok fuelN v14 0 o6_0 o6_1 o6_2 o6_3 o13_0 o13_1 o13_2 o13_3 r h)] (by kernel_rfl)))
                        (fun h9 h =>
                          fin_fin Go.Proofs.Tryz.func250 mix 1000 [.unroll, .br h1, .num (eq_of h8), .br h9, .fin 100000 [6, 13, 14, 16] [(6, 6), (13, 13)] (ih v14 (W (v16 + 1)) o6_0 o6_1 o6_2 o6_3 o13_0 o13_1 o13_2 o13_3 r h)] (by kernel_rfl)))
                    (fun h8 h =>
                      ifE_cases h
                        (fun h11 h =>
                          ifE_cases h
                            (fun h12 h =>
                              ifE_cases h
                                (fun h13 h =>
                                  fin_fin Go.Proofs.Tryz.func250 mix 1000 [.unroll, .br h1, .num (eq_of h11), .br h12, .num (eq_of h11), .br h13, .fin 100000 [6, 13, 14, 17] [(6, 6), (13, 13)] (spec_l09Paired.l19_ok fuelN (W (0 - v14)) 0 o6_0 o6_1 o6_2 o6_3 o13_0 o13_1 o13_2 o13_3 r h)] (by kernel_rfl))
                                (fun h13 h =>
                                  fin_fin Go.Proofs.Tryz.func250 mix 1000 [.unroll, .br h1, .num (eq_of h11), .br h12, .num (eq_of h11), .br h13, .fin 100000 [6, 13, 14, 17] [(6, 6), (13, 13)] (spec_l09Paired.l19_ok fuelN v14 0 o6_0 o6_1 o6_2 o6_3 o13_0 o13_1 o13_2 o13_3 r h)] (by kernel_rfl)))
                            (fun h12 h =>
                              fin_fin Go.Proofs.Tryz.func250 mix 1000 [.unroll, .br h1, .num (eq_of h11), .br h12, .fin 100000 [6, 13, 14, 16] [(6, 6), (13, 13)] (ih v14 (W (v16 + 1)) o6_0 o6_1 o6_2 o6_3 o13_0 o13_1 o13_2 o13_3 r h)] (by kernel_rfl)))
                        (fun h11 h =>
                          nomatch h)))))
        (fun h1 h =>
          fin_fin Go.Proofs.Tryz.func250 mix 1000 [.unroll, .br h1, .fin 100000 [6, 13, 14, 17] [(6, 6), (13, 13)] (spec_l09Paired.l19_ok fuelN v14 0 o6_0 o6_1 o6_2 o6_3 o13_0 o13_1 o13_2 o13_3 r h)] (by kernel_rfl))

theorem spec_l09Paired.l8_ok (k : Nat) : ∀ (v14 : Int) (v15 : Int) (o6_0 : Int) (o6_1 : Int) (o6_2 : Int) (o6_3 : Int) (o13_0 : Int) (o13_1 : Int) (o13_2 : Int) (o13_3 : Int) (r : (Siiii × Bool)), (spec_l09Paired.l8 k) v14 v15 o6_0 o6_1 o6_2 o6_3 o13_0 o13_1 o13_2 o13_3 = some r → Eng.Fin Go.Proofs.Tryz.prog 250 [] [] (.tu [.ag (Siiii.cells r.1), B r.2]) (itsL 8 (bodyOf Go.Proofs.Tryz.f250)) (mkS 153 [(6, .bx 6 0), (13, .bx 13 0), (14, I v14), (15, I v15)] [(6, .box [I o6_0, I o6_1, I o6_2, I o6_3]), (13, .box [I o13_0, I o13_1, I o13_2, I o13_3])]) := by
  induction k with
  | zero => intro v14 v15 o6_0 o6_1 o6_2 o6_3 o13_0 o13_1 o13_2 o13_3 r h; exact nomatch h
  | succ k ih =>
    exact fun v14 v15 o6_0 o6_1 o6_2 o6_3 o13_0 o13_1 o13_2 o13_3 r h =>
      ifE_cases h
        (fun h1 h =>
          ifE_cases h
            (fun h2 h =>
              ifE_cases h
                (fun h3 h =>
                  bind_cases h fun r5 h4 h =>
                  fin_fin Go.Proofs.Tryz.func250 mix 1000 [.unroll, .br h1, .num (eq_of h2), .br h3, .num (eq_of h2), .call [] (spec_l01Gcd.calls h4), .fin 100000 [6, 13, 14, 15] [(6, 6), (13, 13)] (ih r5 (W (v15 + 1)) o6_0 o6_1 o6_2 o6_3 o13_0 o13_1 o13_2 o13_3 r h)] (by kernel_rfl))
                (fun h3 h =>
                  ifE_cases h
                    (fun h5 h =>
                      bind_cases h fun r6 h6 h =>
                      fin_fin Go.Proofs.Tryz.func250 mix 1000 [.unroll, .br h1, .num (eq_of h2), .br h3, .br h5, .num (eq_of h2), .call [] (spec_l01Gcd.calls h6), .fin 100000 [6, 13, 14, 15] [(6, 6), (13, 13)] (ih r6 (W (v15 + 1)) o6_0 o6_1 o6_2 o6_3 o13_0 o13_1 o13_2 o13_3 r h)] (by kernel_rfl))
                    (fun h5 h =>
                      fin_fin Go.Proofs.Tryz.func250 mix 1000 [.unroll, .br h1, .num (eq_of h2), .br h3, .br h5, .fin 100000 [6, 13, 14, 15] [(6, 6), (13, 13)] (ih v14 (W (v15 + 1)) o6_0 o6_1 o6_2 o6_3 o13_0 o13_1 o13_2 o13_3 r h)] (by kernel_rfl))))
            (fun h2 h =>
              ifE_cases h
                (fun h7 h =>
                  ifE_cases h
                    (fun h8 h =>
                      bind_cases h fun r7 h9 h =>
                      fin_fin Go.Proofs.Tryz.func250 mix 1000 [.unroll, .br h1, .num (eq_of h7), .br h8, .num (eq_of h7), .call [] (spec_l01Gcd.calls h9), .fin 100000 [6, 13, 14, 15] [(6, 6), (13, 13)] (ih r7 (W (v15 + 1)) o6_0 o6_1 o6_2 o6_3 o13_0 o13_1 o13_2 o13_3 r h)] (by kernel_rfl))
                    (fun h8 h =>
                      ifE_cases h
                        (fun h10 h =>
                          bind_cases h fun r8 h11 h =>
                          fin_fin Go.Proofs.Tryz.func250 mix 1000 [.unroll, .br h1, .num (eq_of h7), .br h8, .br h10, .num (eq_of h7), .call [] (spec_l01Gcd.calls h11), .fin 100000 [6, 13, 14, 15] [(6, 6), (13, 13)] (ih r8 (W (v15 + 1)) o6_0 o6_1 o6_2 o6_3 o13_0 o13_1 o13_2 o13_3 r h)] (by kernel_rfl))
                        (fun h10 h =>
                          fin_fin Go.Proofs.Tryz.func250 mix 1000 [.unroll, .br h1, .num (eq_of h7), .br h8, .br h10, .fin 100000 [6, 13, 14, 15] [(6, 6), (13, 13)] (ih v14 (W (v15 + 1)) o6_0 o6_1 o6_2 o6_3 o13_0 o13_1 o13_2 o13_3 r h)] (by kernel_rfl))))
                (fun h7 h =>
                  ifE_cases h
                    (fun h12 h =>
                      ifE_cases h
                        (fun h13 h =>
                          bind_cases h fun r9 h14 h =>
                          fin_fin Go.Proofs.Tryz.func250 mix 1000 [.unroll, .br h1, .num (eq_of h12), .br h13, .num (eq_of h12), .call [] (spec_l01Gcd.calls h14), .fin 100000 [6, 13, 14, 15] [(6, 6), (13, 13)] (ih r9 (W (v15 + 1)) o6_0 o6_1 o6_2 o6_3 o13_0 o13_1 o13_2 o13_3 r h)] (by kernel_rfl))
                        (fun h13 h =>
                          ifE_cases h
                            (fun h15 h =>
                              bind_cases h fun r10 h16 h =>
                              fin_fin Go.Proofs.Tryz.func250 mix 1000 [.unroll, .br h1, .num (eq_of h12), .br h13, .br h15, .num (eq_of h12), .call [] (spec_l01Gcd.calls h16), .fin 100000 [6, 13, 14, 15] [(6, 6), (13, 13)] (ih r10 (W (v15 + 1)) o6_0 o6_1 o6_2 o6_3 o13_0 o13_1 o13_2 o13_3 r h)] (by kernel_rfl))
                            (fun h15 h =>
                              fin_fin Go.Proofs.Tryz.func250 mix 1000 [.unroll, .br h1, .num (eq_of h12), .br h13, .br h15, .fin 100000 [6, 13, 14, 15] [(6, 6), (13, 13)] (ih v14 (W (v15 + 1)) o6_0 o6_1 o6_2 o6_3 o13_0 o13_1 o13_2 o13_3 r h)] (by kernel_rfl))))
                    (fun h12 h =>
                      ifE_cases h
                        (fun h17 h =>
                          ifE_cases h
                            (fun h18 h =>
                              bind_cases h fun r11 h19 h =>
                              fin_fin Go.Proofs.Tryz.func250 mix 1000 [.unroll, .br h1, .num (eq_of h17), .br h18, .num (eq_of h17), .call [] (spec_l01Gcd.calls h19), .fin 100000 [6, 13, 14, 15] [(6, 6), (13, 13)] (ih r11 (W (v15 + 1)) o6_0 o6_1 o6_2 o6_3 o13_0 o13_1 o13_2 o13_3 r h)] (by kernel_rfl))
                            (fun h18 h =>
                              ifE_cases h
                                (fun h20 h =>
                                  bind_cases h fun r12 h21 h =>
                                  fin_fin Go.Proofs.Tryz.func250 mix 1000 [.unroll, .br h1, .num (eq_of h17), .br h18, .br h20, .num (eq_of h17), .call [] (spec_l01Gcd.calls h21), .fin 100000 [6, 13, 14, 15] [(6, 6), (13, 13)] (ih r12 (W (v15 + 1)) o6_0 o6_1 o6_2 o6_3 o13_0 o13_1 o13_2 o13_3 r h)] (by kernel_rfl))
                                (fun h20 h =>
                                  fin_fin Go.Proofs.Tryz.func250 mix 1000 [.unroll, .br h1, .num (eq_of h17), .br h18, .br h20, .fin 100000 [6, 13, 14, 15] [(6, 6), (13, 13)] (ih v14 (W (v15 + 1)) o6_0 o6_1 o6_2 o6_3 o13_0 o13_1 o13_2 o13_3 r h)] (by kernel_rfl))))
                        (fun h17 h =>
                          nomatch h)))))
        (fun h1 h =>
          fin_fin Go.Proofs.Tryz.func250 mix 1000 [.unroll, .br h1, .fin 100000 [6, 13, 14, 16] [(6, 6), (13, 13)] (spec_l09Paired.l13_ok fuelN v14 0 o6_0 o6_1 o6_2 o6_3 o13_0 o13_1 o13_2 o13_3 r h)] (by kernel_rfl))

theorem spec_l09Paired.j4_ok : ∀ (v0 : Int) (v8 : Int) (o4_0 : Int) (o4_1 : Int) (o4_2 : Int) (o5_0 : Int) (o5_1 : Int) (o5_2 : Int) (o6_0 : Int) (o6_1 : Int) (o6_2 : Int) (o6_3 : Int) (r : (Siiii × Bool)), (spec_l09Paired.j4) v0 v8 o4_0 o4_1 o4_2 o5_0 o5_1 o5_2 o6_0 o6_1 o6_2 o6_3 = some r → Eng.Fin Go.Proofs.Tryz.prog 250 [] [] (.tu [.ag (Siiii.cells r.1), B r.2]) (itsR 4 (bodyOf Go.Proofs.Tryz.f250)) (mkS 153 [(0, I v0), (4, .bx 4 0), (5, .bx 5 0), (6, .bx 6 0), (8, I v8)] [(4, .box [I o4_0, I o4_1, I o4_2]), (5, .box [I o5_0, I o5_1, I o5_2]), (6, .box [I o6_0, I o6_1, I o6_2, I o6_3])]) :=
  fun v0 v8 o4_0 o4_1 o4_2 o5_0 o5_1 o5_2 o6_0 o6_1 o6_2 o6_3 r h =>
    bind_cases h fun r1 h1 h =>
    bind_cases h fun r2 h2 h =>
    bind_cases h fun r3 h3 h =>
    bind_cases h fun r4 h4 h =>
    fin_fin Go.Proofs.Tryz.func250 mix 1000 [.call [] (spec_l01Power.calls h1), .call [] (spec_l01Power.calls h2), .call [] (spec_l01Power.calls h3), .call [] (spec_l01Power.calls h4), .fin 100000 [6, 13, 14, 15] [(6, 6), (13, 13)] (spec_l09Paired.l8_ok fuelN 0 0 o6_0 o6_1 o6_2 o6_3 (W ((W (o5_1 * r1)) * r4)) (W ((W ((W (r3 * r1)) * r2)) - (W ((W (o4_1 * o5_1)) * r4)))) (W ((W (r1 * r2)) * r4)) (W ((W ((W (0 - o4_1)) * r2)) * r4)) r h)] (by kernel_rfl)

theorem spec_l09Paired.calls {a0 : Int} {a1 : Siii} {a2 : Siii} {r : (Siiii × Bool)} (h : spec_l09Paired.f a0 a1 a2 = some r) : Eng.Fn Go.Proofs.Tryz.prog 250 [I a0, .ag (Siii.cells a1), .ag (Siii.cells a2)] [] [] (.tu [.ag (Siiii.cells r.1), B r.2]) :=
  fn_fin Go.Proofs.Tryz.func250 (c := bodyOf Go.Proofs.Tryz.f250) (by kernel_rfl) (by kernel_rfl) <|
    ifE_cases h
      (fun h1 h =>
        leaf h fun e => by subst e; exact fin_ret Go.Proofs.Tryz.func250 mix 1000 [.br h1] (by kernel_rfl))
      (fun h1 h =>
        ifE_cases h
          (fun h2 h =>
            leaf h fun e => by subst e; exact fin_ret Go.Proofs.Tryz.func250 mix 1000 [.br h1, .br h2] (by kernel_rfl))
          (fun h2 h =>
            ifE_cases h
              (fun h3 h =>
                ifE_cases h
                  (fun h4 h =>
                    leaf h fun e => by subst e; exact fin_ret Go.Proofs.Tryz.func250 mix 1000 [.br h1, .br h2, .br h3, .br h4] (by kernel_rfl))
                  (fun h4 h =>
                    fin_fin Go.Proofs.Tryz.func250 mix 1000 [.br h1, .br h2, .br h3, .br h4, .fin 4 [0, 4, 5, 6, 8] [(4, 4), (5, 5), (6, 6)] (spec_l09Paired.j4_ok a0 (W ((W (a1.c0 + a2.c0)) - 1)) a1.c0 a1.c1 a1.c2 a2.c0 a2.c1 a2.c2 0 0 0 0 r h)] (by kernel_rfl)))
              (fun h3 h =>
                fin_fin Go.Proofs.Tryz.func250 mix 1000 [.br h1, .br h2, .br h3, .fin 4 [0, 4, 5, 6, 8] [(4, 4), (5, 5), (6, 6)] (spec_l09Paired.j4_ok a0 (W ((W (a1.c0 + a2.c0)) - 1)) a1.c0 a1.c1 a1.c2 a2.c0 a2.c1 a2.c2 0 0 0 0 r h)] (by kernel_rfl))))

theorem impl_apartSides.j3_ok : ∀ (v0 : Int) (o4_0 : Int) (o4_1 : Int) (o4_2 : Int) (o4_3 : Bool) (o5_0 : Int) (o5_1 : Int) (o5_2 : Int) (o5_3 : Bool) (r : Bool), (impl_apartSides.j3) v0 o4_0 o4_1 o4_2 o4_3 o5_0 o5_1 o5_2 o5_3 = some r → Eng.Fin Go.Proofs.Tryz.prog 170 [] [] (B r) (itsR 3 (bodyOf Go.Proofs.Tryz.f170)) (mkS 38 [(0, I v0), (4, .bx 4 0), (5, .bx 5 0)] [(4, .box [I o4_0, I o4_1, I o4_2, B o4_3]), (5, .box [I o5_0, I o5_1, I o5_2, B o5_3])]) :=
  fun v0 o4_0 o4_1 o4_2 o4_3 o5_0 o5_1 o5_2 o5_3 r h =>
    ifE_cases h
      (fun h1 h =>
        bind_cases h fun r1 h2 h =>
        leaf h fun e => by subst e; exact fin_ret Go.Proofs.Tryz.func170 mix 1000 [.br h1, .call [] (impl_holds.calls h2)] (by kernel_rfl))
      (fun h1 h =>
        ifE_cases h
          (fun h3 h =>
            bind_cases h fun r2 h4 h =>
            leaf h fun e => by subst e; exact fin_ret Go.Proofs.Tryz.func170 mix 1000 [.br h1, .br h3, .call [] (impl_holds.calls h4)] (by kernel_rfl))
          (fun h3 h =>
            bind_cases h fun r3 h5 h =>
            leaf h fun e => by subst e; exact fin_ret Go.Proofs.Tryz.func170 mix 1000 [.br h1, .br h3, .call [] (impl_apart.calls h5)] (by kernel_rfl)))

theorem impl_apartSides.calls {a0 : Int} {a1 : Siiib} {a2 : Siiib} {r : Bool} (h : impl_apartSides.f a0 a1 a2 = some r) : Eng.Fn Go.Proofs.Tryz.prog 170 [I a0, .ag (Siiib.cells a1), .ag (Siiib.cells a2)] [] [] (B r) :=
  fn_fin Go.Proofs.Tryz.func170 (c := bodyOf Go.Proofs.Tryz.f170) (by kernel_rfl) (by kernel_rfl) <|
    ifE_cases h
      (fun h1 h =>
        ifE_cases h
          (fun h2 h =>
            leaf h fun e => by subst e; exact fin_ret Go.Proofs.Tryz.func170 mix 1000 [.br h1, .br h2] (by kernel_rfl))
          (fun h2 h =>
            fin_fin Go.Proofs.Tryz.func170 mix 1000 [.br h1, .br h2, .fin 3 [0, 4, 5] [(4, 4), (5, 5)] (impl_apartSides.j3_ok a0 a1.c0 a1.c1 a1.c2 a1.c3 a2.c0 a2.c1 a2.c2 a2.c3 r h)] (by kernel_rfl)))
      (fun h1 h =>
        fin_fin Go.Proofs.Tryz.func170 mix 1000 [.br h1, .fin 3 [0, 4, 5] [(4, 4), (5, 5)] (impl_apartSides.j3_ok a0 a1.c0 a1.c1 a1.c2 a1.c3 a2.c0 a2.c1 a2.c2 a2.c3 r h)] (by kernel_rfl))

theorem impl_opposite.calls {a0 : Siiib} {r : Siiib} (h : impl_opposite.f a0 = some r) : Eng.Fn Go.Proofs.Tryz.prog 286 [.ag (Siiib.cells a0)] [] [] (.ag (Siiib.cells r)) :=
  fn_fin Go.Proofs.Tryz.func286 (c := bodyOf Go.Proofs.Tryz.f286) (by kernel_rfl) (by kernel_rfl) <|
    leaf h fun e => by subst e; exact fin_ret Go.Proofs.Tryz.func286 mix 1000 [] (by kernel_rfl)

theorem impl_isFree.l5_ok (rec2 : Int → (List Siiii) → (List Siiib) → (List Siiib) → Int → Int → Option (Bool × Int)) (rec2H : ∀ (v0 : Int) (v1 : (List Siiii)) (v2 : (List Siiib)) (v16 : (List Siiib)) (v17 : Int) (v18 : Int) (r : (Bool × Int)), rec2 v0 v1 v2 v16 v17 v18 = some r → Eng.Fin Go.Proofs.Tryz.prog 252 [] [] (.tu [B r.1, I r.2]) (itsL 2 (bodyOf Go.Proofs.Tryz.f252)) (mkS 70 [(0, I v0), (1, R true 4 Siiii.cells v1), (2, R true 4 Siiib.cells v2), (16, R true 4 Siiib.cells v16), (17, I v17), (18, I v18)] [])) (k : Nat) : ∀ (v0 : Int) (v1 : (List Siiii)) (v2 : (List Siiib)) (v16 : (List Siiib)) (v17 : Int) (v18 : Int) (v25 : (List Siiib)) (v26 : Int) (v27 : Int) (o9_0 : Int) (o9_1 : Int) (o9_2 : Int) (o9_3 : Bool) (r : (Bool × Int)), (impl_isFree.l5 rec2 k) v0 v1 v2 v16 v17 v18 v25 v26 v27 o9_0 o9_1 o9_2 o9_3 = some r → Eng.Fin Go.Proofs.Tryz.prog 252 [] [] (.tu [B r.1, I r.2]) (itsL 5 (bodyOf Go.Proofs.Tryz.f252)) (mkS 70 [(0, I v0), (1, R true 4 Siiii.cells v1), (2, R true 4 Siiib.cells v2), (9, .bx 9 0), (16, R true 4 Siiib.cells v16), (17, I v17), (18, I v18), (25, R true 4 Siiib.cells v25), (26, I v26), (27, I v27)] [(9, .box [I o9_0, I o9_1, I o9_2, B o9_3])]) := by
  induction k with
  | zero => intro v0 v1 v2 v16 v17 v18 v25 v26 v27 o9_0 o9_1 o9_2 o9_3 r h; exact nomatch h
  | succ k ih =>
    exact fun v0 v1 v2 v16 v17 v18 v25 v26 v27 o9_0 o9_1 o9_2 o9_3 r h =>
      ifE_cases h
        (fun h1 h =>
          bind_cases h fun e3 h2 h =>
          bind_cases h fun r4 h3 h =>
          ifE_cases h
            (fun h4 h =>
              leaf h fun e => by subst e; exact fin_ret Go.Proofs.Tryz.func252 mix 1000 [.unroll, .br h1, .el (getE_el Siiib.cells h2), .call [] (impl_apartSides.calls h3), .br h4] (by kernel_rfl))
            (fun h4 h =>
              fin_fin Go.Proofs.Tryz.func252 mix 1000 [.unroll, .br h1, .el (getE_el Siiib.cells h2), .call [] (impl_apartSides.calls h3), .br h4, .fin 100000 [0, 1, 2, 9, 16, 17, 18, 25, 26, 27] [(9, 9)] (ih v0 v1 v2 v16 v17 v18 v25 v26 (W (v27 + 1)) o9_0 o9_1 o9_2 o9_3 r h)] (by kernel_rfl)))
        (fun h1 h =>
          fin_fin Go.Proofs.Tryz.func252 mix 1000 [.unroll, .br h1, .fin 100000 [0, 1, 2, 16, 17, 18] [] (rec2H v0 v1 v2 v16 v17 (W (v18 + 1)) r h)] (by kernel_rfl))

theorem impl_isFree.l12_ok (k : Nat) : ∀ (v0 : Int) (v2 : (List Siiib)) (v38 : (List Siiii)) (v39 : Int) (v40 : Int) (r : (Bool × Int)), (impl_isFree.l12 k) v0 v2 v38 v39 v40 = some r → Eng.Fin Go.Proofs.Tryz.prog 252 [] [] (.tu [B r.1, I r.2]) (itsL 12 (bodyOf Go.Proofs.Tryz.f252)) (mkS 70 [(0, I v0), (2, R true 4 Siiib.cells v2), (38, R true 4 Siiii.cells v38), (39, I v39), (40, I v40)] []) := by
  induction k with
  | zero => intro v0 v2 v38 v39 v40 r h; exact nomatch h
  | succ k ih =>
    exact fun v0 v2 v38 v39 v40 r h =>
      ifE_cases h
        (fun h1 h =>
          bind_cases h fun e5 h2 h =>
          bind_cases h fun e6 h3 h =>
          bind_cases h fun r7 h4 h =>
          bind_cases h fun r8 h5 h =>
          ifE_cases h
            (fun h6 h =>
              leaf h fun e => by subst e; exact fin_ret Go.Proofs.Tryz.func252 mix 1000 [.unroll, .br h1, .el (getE_el Siiii.cells h2), .el (getE_el Siiib.cells h3), .call [] (impl_opposite.calls h4), .call [] (impl_moveSide.calls h5), .br h6] (by kernel_rfl))
            (fun h6 h =>
              bind_cases h fun e9 h7 h =>
              ifE_cases h
                (fun h8 h =>
                  leaf h fun e => by subst e; exact fin_ret Go.Proofs.Tryz.func252 mix 1000 [.unroll, .br h1, .el (getE_el Siiii.cells h2), .el (getE_el Siiib.cells h3), .call [] (impl_opposite.calls h4), .call [] (impl_moveSide.calls h5), .br h6, .el (getE_el Siiib.cells h7), .br h8] (by kernel_rfl))
                (fun h8 h =>
                  fin_fin Go.Proofs.Tryz.func252 mix 1000 [.unroll, .br h1, .el (getE_el Siiii.cells h2), .el (getE_el Siiib.cells h3), .call [] (impl_opposite.calls h4), .call [] (impl_moveSide.calls h5), .br h6, .el (getE_el Siiib.cells h7), .br h8, .fin 100000 [0, 2, 38, 39, 40] [] (ih v0 v2 v38 v39 (W (v40 + 1)) r h)] (by kernel_rfl))))
        (fun h1 h =>
          leaf h fun e => by subst e; exact fin_ret Go.Proofs.Tryz.func252 mix 1000 [.unroll, .br h1] (by kernel_rfl))

theorem impl_isFree.l2_ok (k : Nat) : ∀ (v0 : Int) (v1 : (List Siiii)) (v2 : (List Siiib)) (v16 : (List Siiib)) (v17 : Int) (v18 : Int) (r : (Bool × Int)), (impl_isFree.l2 k) v0 v1 v2 v16 v17 v18 = some r → Eng.Fin Go.Proofs.Tryz.prog 252 [] [] (.tu [B r.1, I r.2]) (itsL 2 (bodyOf Go.Proofs.Tryz.f252)) (mkS 70 [(0, I v0), (1, R true 4 Siiii.cells v1), (2, R true 4 Siiib.cells v2), (16, R true 4 Siiib.cells v16), (17, I v17), (18, I v18)] []) := by
  induction k with
  | zero => intro v0 v1 v2 v16 v17 v18 r h; exact nomatch h
  | succ k ih =>
    exact fun v0 v1 v2 v16 v17 v18 r h =>
      ifE_cases h
        (fun h1 h =>
          bind_cases h fun e1 h2 h =>
          bind_cases h fun l2 h3 h =>
          fin_fin Go.Proofs.Tryz.func252 mix 1000 [.unroll, .br h1, .el (getE_el Siiib.cells h2), .seg (getS_seg Siiib.cells h3), .fin 100000 [0, 1, 2, 9, 16, 17, 18, 25, 26, 27] [(9, 9)] (impl_isFree.l5_ok (impl_isFree.l2 k) ih fuelN v0 v1 v2 v16 v17 v18 l2 (l2.length : Int) 0 e1.c0 e1.c1 e1.c2 e1.c3 r h)] (by kernel_rfl))
        (fun h1 h =>
          fin_fin Go.Proofs.Tryz.func252 mix 1000 [.unroll, .br h1, .fin 100000 [0, 2, 38, 39, 40] [] (impl_isFree.l12_ok fuelN v0 v2 v1 (v1.length : Int) 0 r h)] (by kernel_rfl))

theorem impl_isFree.calls {a0 : Int} {a1 : (List Siiii)} {a2 : (List Siiib)} {r : (Bool × Int)} (h : impl_isFree.f a0 a1 a2 = some r) : Eng.Fn Go.Proofs.Tryz.prog 252 [I a0, R true 4 Siiii.cells a1, R true 4 Siiib.cells a2] [] [] (.tu [B r.1, I r.2]) :=
  fn_fin Go.Proofs.Tryz.func252 (c := bodyOf Go.Proofs.Tryz.f252) (by kernel_rfl) (by kernel_rfl) <|
    fin_fin Go.Proofs.Tryz.func252 mix 1000 [.fin 100000 [0, 1, 2, 16, 17, 18] [] (impl_isFree.l2_ok fuelN a0 a1 a2 a2 (a2.length : Int) 0 r h)] (by kernel_rfl)

theorem impl_freeCode.calls {a0 : Int} {a1 : (List Siiii)} {a2 : (List Siiib)} {r : (Bool × Int)} (h : impl_freeCode.f a0 a1 a2 = some r) : Eng.Fn Go.Proofs.Tryz.prog 156 [I a0, R true 4 Siiii.cells a1, R true 4 Siiib.cells a2] [] [] (.tu [B r.1, I r.2]) :=
  fn_fin Go.Proofs.Tryz.func156 (c := bodyOf Go.Proofs.Tryz.f156) (by kernel_rfl) (by kernel_rfl) <|
    bind_cases h fun r1 h1 h =>
    ifE_cases h
      (fun h2 h =>
        leaf h fun e => by subst e; exact fin_ret Go.Proofs.Tryz.func156 mix 1000 [.call [] (impl_areSides.calls h1), .br h2] (by kernel_rfl))
      (fun h2 h =>
        bind_cases h fun r2 h3 h =>
        ifE_cases h
          (fun h4 h =>
            leaf h fun e => by subst e; exact fin_ret Go.Proofs.Tryz.func156 mix 1000 [.call [] (impl_areSides.calls h1), .br h2, .call [] (impl_areMatrices.calls h3), .br h4] (by kernel_rfl))
          (fun h4 h =>
            ifE_cases h
              (fun h5 h =>
                leaf h fun e => by subst e; exact fin_ret Go.Proofs.Tryz.func156 mix 1000 [.call [] (impl_areSides.calls h1), .br h2, .call [] (impl_areMatrices.calls h3), .br h4, .br h5] (by kernel_rfl))
              (fun h5 h =>
                ifE_cases h
                  (fun h6 h =>
                    leaf h fun e => by subst e; exact fin_ret Go.Proofs.Tryz.func156 mix 1000 [.call [] (impl_areSides.calls h1), .br h2, .call [] (impl_areMatrices.calls h3), .br h4, .br h5, .br h6] (by kernel_rfl))
                  (fun h6 h =>
                    ifE_cases h
                      (fun h7 h =>
                        leaf h fun e => by subst e; exact fin_ret Go.Proofs.Tryz.func156 mix 1000 [.call [] (impl_areSides.calls h1), .br h2, .call [] (impl_areMatrices.calls h3), .br h4, .br h5, .br h6, .br h7] (by kernel_rfl))
                      (fun h7 h =>
                        bind_cases h fun r3 h8 h =>
                        leaf h fun e => by subst e; exact fin_ret Go.Proofs.Tryz.func156 mix 1000 [.call [] (impl_areSides.calls h1), .br h2, .call [] (impl_areMatrices.calls h3), .br h4, .br h5, .br h6, .br h7, .call [] (impl_isFree.calls h8)] (by kernel_rfl))))))

theorem impl_IsFree.calls {a0 : Int} {a1 : (List Siiii)} {a2 : (List Siiib)} {r : (Bool × Int)} (h : impl_IsFree.f a0 a1 a2 = some r) : Eng.Fn Go.Proofs.Tryz.prog 60 [I a0, R true 4 Siiii.cells a1, R true 4 Siiib.cells a2] [] [] (.tu [B r.1, I r.2]) :=
  fn_fin Go.Proofs.Tryz.func60 (c := bodyOf Go.Proofs.Tryz.f60) (by kernel_rfl) (by kernel_rfl) <|
    bind_cases h fun r1 h1 h =>
    leaf h fun e => by subst e; exact fin_ret Go.Proofs.Tryz.func60 mix 1000 [.call [] (impl_freeCode.calls h1)] (by kernel_rfl)

theorem spec_l01EndOf.j6_ok : ∀ (v0 : Int) (v1 : Int) (v6 : Int) (o4_0 : Int) (o4_1 : Int) (r : (Sii × Bool)), (spec_l01EndOf.j6) v0 v1 v6 o4_0 o4_1 = some r → Eng.Fin Go.Proofs.Tryz.prog 255 [] [] (.tu [.ag (Sii.cells r.1), B r.2]) (itsR 6 (bodyOf Go.Proofs.Tryz.f255)) (mkS 38 [(0, I v0), (1, I v1), (4, .bx 4 0), (6, I v6)] [(4, .box [I o4_0, I o4_1])]) :=
  fun v0 v1 v6 o4_0 o4_1 r h =>
    guardE_cases h fun h1 h =>
    guardE_cases h fun h2 h =>
    ifE_cases h
      (fun h3 h =>
        leaf h fun e => by subst e; exact fin_ret Go.Proofs.Tryz.func255 mix 1000 [.nz h1, .nz h2, .br h3] (by kernel_rfl))
      (fun h3 h =>
        leaf h fun e => by subst e; exact fin_ret Go.Proofs.Tryz.func255 mix 1000 [.nz h1, .nz h2, .br h3] (by kernel_rfl))

theorem spec_l01EndOf.calls {a0 : Int} {a1 : Int} {r : (Sii × Bool)} (h : spec_l01EndOf.f a0 a1 = some r) : Eng.Fn Go.Proofs.Tryz.prog 255 [I a0, I a1] [] [] (.tu [.ag (Sii.cells r.1), B r.2]) :=
  fn_fin Go.Proofs.Tryz.func255 (c := bodyOf Go.Proofs.Tryz.f255) (by kernel_rfl) (by kernel_rfl) <|
    ifE_cases h
      (fun h1 h =>
        leaf h fun e => by subst e; exact fin_ret Go.Proofs.Tryz.func255 mix 1000 [.br h1] (by kernel_rfl))
      (fun h1 h =>
        bind_cases h fun r1 h2 h =>
        ifE_cases h
          (fun h3 h =>
            fin_fin Go.Proofs.Tryz.func255 mix 1000 [.br h1, .call [] (spec_l01Gcd.calls h2), .br h3, .fin 6 [0, 1, 4, 6] [(4, 4)] (spec_l01EndOf.j6_ok a0 a1 (W (0 - r1)) 0 0 r h)] (by kernel_rfl))
          (fun h3 h =>
            fin_fin Go.Proofs.Tryz.func255 mix 1000 [.br h1, .call [] (spec_l01Gcd.calls h2), .br h3, .fin 6 [0, 1, 4, 6] [(4, 4)] (spec_l01EndOf.j6_ok a0 a1 r1 0 0 r h)] (by kernel_rfl)))

theorem spec_l01End.calls {a0 : Sii} {r : Bool} (h : spec_l01End.f a0 = some r) : Eng.Fn Go.Proofs.Tryz.prog 176 [.ag (Sii.cells a0)] [] [] (B r) :=
  fn_fin Go.Proofs.Tryz.func176 (c := bodyOf Go.Proofs.Tryz.f176) (by kernel_rfl) (by kernel_rfl) <|
    ifE_cases h
      (fun h1 h =>
        leaf h fun e => by subst e; exact fin_ret Go.Proofs.Tryz.func176 mix 1000 [.br h1] (by kernel_rfl))
      (fun h1 h =>
        bind_cases h fun r1 h2 h =>
        ifE_cases h
          (fun h3 h =>
            bind_cases h fun r2 h4 h =>
            ifE_cases h
              (fun h5 h =>
                bind_cases h fun r3 h6 h =>
                leaf h fun e => by subst e; exact fin_ret Go.Proofs.Tryz.func176 mix 1000 [.br h1, .call [] (spec_l01In.calls h2), .br h3, .call [] (spec_l01In.calls h4), .br h5, .call [] (spec_l01Gcd.calls h6)] (by kernel_rfl))
              (fun h5 h =>
                leaf h fun e => by subst e; exact fin_ret Go.Proofs.Tryz.func176 mix 1000 [.br h1, .call [] (spec_l01In.calls h2), .br h3, .call [] (spec_l01In.calls h4), .br h5] (by kernel_rfl)))
          (fun h3 h =>
            leaf h fun e => by subst e; exact fin_ret Go.Proofs.Tryz.func176 mix 1000 [.br h1, .call [] (spec_l01In.calls h2), .br h3] (by kernel_rfl)))

theorem spec_l02Meet.calls {a0 : Int} {a1 : Siii} {a2 : Sii} {r : Int} (h : spec_l02Meet.f a0 a1 a2 = some r) : Eng.Fn Go.Proofs.Tryz.prog 259 [I a0, .ag (Siii.cells a1), .ag (Sii.cells a2)] [] [] (I r) :=
  fn_fin Go.Proofs.Tryz.func259 (c := bodyOf Go.Proofs.Tryz.f259) (by kernel_rfl) (by kernel_rfl) <|
    bind_cases h fun r1 h1 h =>
    ifE_cases h
      (fun h2 h =>
        leaf h fun e => by subst e; exact fin_ret Go.Proofs.Tryz.func259 mix 1000 [.call [] (spec_l01Power.calls h1), .br h2] (by kernel_rfl))
      (fun h2 h =>
        bind_cases h fun r2 h3 h =>
        bind_cases h fun r3 h4 h =>
        leaf h fun e => by subst e; exact fin_ret Go.Proofs.Tryz.func259 mix 1000 [.call [] (spec_l01Power.calls h1), .br h2, .call [] (spec_l01Val.calls h3), .call [] (spec_l01Val.calls h4)] (by kernel_rfl))

theorem spec_l09Has.calls {a0 : Int} {a1 : Siiib} {a2 : Sii} {r : Bool} (h : spec_l09Has.f a0 a1 a2 = some r) : Eng.Fn Go.Proofs.Tryz.prog 177 [I a0, .ag (Siiib.cells a1), .ag (Sii.cells a2)] [] [] (B r) :=
  fn_fin Go.Proofs.Tryz.func177 (c := bodyOf Go.Proofs.Tryz.f177) (by kernel_rfl) (by kernel_rfl) <|
    ifE_cases h
      (fun h1 h =>
        leaf h fun e => by subst e; exact fin_ret Go.Proofs.Tryz.func177 mix 1000 [.br h1] (by kernel_rfl))
      (fun h1 h =>
        bind_cases h fun r1 h2 h =>
        leaf h fun e => by subst e; exact fin_ret Go.Proofs.Tryz.func177 mix 1000 [.br h1, .call [] (spec_l02Meet.calls h2)] (by kernel_rfl))

theorem impl_AreApartSides.calls {a0 : Int} {a1 : Siiib} {a2 : Siiib} {r : (Bool × Int)} (h : impl_AreApartSides.f a0 a1 a2 = some r) : Eng.Fn Go.Proofs.Tryz.prog 52 [I a0, .ag (Siiib.cells a1), .ag (Siiib.cells a2)] [] [] (.tu [B r.1, I r.2]) :=
  fn_fin Go.Proofs.Tryz.func52 (c := bodyOf Go.Proofs.Tryz.f52) (by kernel_rfl) (by kernel_rfl) <|
    bind_cases h fun r1 h1 h =>
    ifE_cases h
      (fun h2 h =>
        leaf h fun e => by subst e; exact fin_ret Go.Proofs.Tryz.func52 mix 1000 [.call [] (impl_areSides.calls h1), .br h2] (by kernel_rfl))
      (fun h2 h =>
        bind_cases h fun r2 h3 h =>
        leaf h fun e => by subst e; exact fin_ret Go.Proofs.Tryz.func52 mix 1000 [.call [] (impl_areSides.calls h1), .br h2, .call [] (impl_apartSides.calls h3)] (by kernel_rfl))

theorem spec_l09Apart.j3_ok : ∀ (v0 : Int) (o4_0 : Int) (o4_1 : Int) (o4_2 : Int) (o4_3 : Bool) (o5_0 : Int) (o5_1 : Int) (o5_2 : Int) (o5_3 : Bool) (r : Bool), (spec_l09Apart.j3) v0 o4_0 o4_1 o4_2 o4_3 o5_0 o5_1 o5_2 o5_3 = some r → Eng.Fin Go.Proofs.Tryz.prog 260 [] [] (B r) (itsR 3 (bodyOf Go.Proofs.Tryz.f260)) (mkS 48 [(0, I v0), (4, .bx 4 0), (5, .bx 5 0)] [(4, .box [I o4_0, I o4_1, I o4_2, B o4_3]), (5, .box [I o5_0, I o5_1, I o5_2, B o5_3])]) :=
  fun v0 o4_0 o4_1 o4_2 o4_3 o5_0 o5_1 o5_2 o5_3 r h =>
    ifE_cases h
      (fun h1 h =>
        bind_cases h fun r1 h2 h =>
        leaf h fun e => by subst e; exact fin_ret Go.Proofs.Tryz.func260 mix 1000 [.br h1, .call [] (spec_l01Holds.calls h2)] (by kernel_rfl))
      (fun h1 h =>
        ifE_cases h
          (fun h3 h =>
            bind_cases h fun r2 h4 h =>
            leaf h fun e => by subst e; exact fin_ret Go.Proofs.Tryz.func260 mix 1000 [.br h1, .br h3, .call [] (spec_l01Holds.calls h4)] (by kernel_rfl))
          (fun h3 h =>
            bind_cases h fun r3 h5 h =>
            ifE_cases h
              (fun h6 h =>
                bind_cases h fun r4 h7 h =>
                leaf h fun e => by subst e; exact fin_ret Go.Proofs.Tryz.func260 mix 1000 [.br h1, .br h3, .call [] (spec_l01Holds.calls h5), .br h6, .call [] (spec_l01Holds.calls h7)] (by kernel_rfl))
              (fun h6 h =>
                leaf h fun e => by subst e; exact fin_ret Go.Proofs.Tryz.func260 mix 1000 [.br h1, .br h3, .call [] (spec_l01Holds.calls h5), .br h6] (by kernel_rfl))))

theorem spec_l09Apart.calls {a0 : Int} {a1 : Siiib} {a2 : Siiib} {r : Bool} (h : spec_l09Apart.f a0 a1 a2 = some r) : Eng.Fn Go.Proofs.Tryz.prog 260 [I a0, .ag (Siiib.cells a1), .ag (Siiib.cells a2)] [] [] (B r) :=
  fn_fin Go.Proofs.Tryz.func260 (c := bodyOf Go.Proofs.Tryz.f260) (by kernel_rfl) (by kernel_rfl) <|
    ifE_cases h
      (fun h1 h =>
        ifE_cases h
          (fun h2 h =>
            leaf h fun e => by subst e; exact fin_ret Go.Proofs.Tryz.func260 mix 1000 [.br h1, .br h2] (by kernel_rfl))
          (fun h2 h =>
            fin_fin Go.Proofs.Tryz.func260 mix 1000 [.br h1, .br h2, .fin 3 [0, 4, 5] [(4, 4), (5, 5)] (spec_l09Apart.j3_ok a0 a1.c0 a1.c1 a1.c2 a1.c3 a2.c0 a2.c1 a2.c2 a2.c3 r h)] (by kernel_rfl)))
      (fun h1 h =>
        fin_fin Go.Proofs.Tryz.func260 mix 1000 [.br h1, .fin 3 [0, 4, 5] [(4, 4), (5, 5)] (spec_l09Apart.j3_ok a0 a1.c0 a1.c1 a1.c2 a1.c3 a2.c0 a2.c1 a2.c2 a2.c3 r h)] (by kernel_rfl))

end Go.CTryz
end
section
set_option linter.unusedVariables false
set_option maxRecDepth 100000
open Go Go.Eng
namespace Go.CTryz
open Go.Gn
theorem impl_moveBall.j6_ok : ∀ (v0 : Int) (o4_0 : Int) (o4_1 : Int) (o4_2 : Int) (o4_3 : Int) (o5_0 : Int) (o5_1 : Int) (o5_2 : Int) (o6_0 : Int) (o6_1 : Int) (o6_2 : Int) (o12_0 : Int) (o12_1 : Int) (r : (Siii × Bool)), (impl_moveBall.j6) v0 o4_0 o4_1 o4_2 o4_3 o5_0 o5_1 o5_2 o6_0 o6_1 o6_2 o12_0 o12_1 = some r → Eng.Fin Go.Proofs.Tryz.prog 123 [] [] (.tu [.ag (Siii.cells r.1), B r.2]) (itsR 6 (bodyOf Go.Proofs.Tryz.f123)) (mkS 91 [(0, I v0), (4, .bx 4 0), (5, .bx 5 0), (6, .bx 6 0), (12, .bx 12 0)] [(4, .box [I o4_0, I o4_1, I o4_2, I o4_3]), (5, .box [I o5_0, I o5_1, I o5_2]), (6, .box [I o6_0, I o6_1, I o6_2]), (12, .box [I o12_0, I o12_1])]) :=
  fun v0 o4_0 o4_1 o4_2 o4_3 o5_0 o5_1 o5_2 o6_0 o6_1 o6_2 o12_0 o12_1 r h =>
    bind_cases h fun r6 h1 h =>
    bind_cases h fun r7 h2 h =>
    bind_cases h fun r8 h3 h =>
    bind_cases h fun r9 h4 h =>
    leaf h fun e => by subst e; exact fin_ret Go.Proofs.Tryz.func123 mix 1000 [.call [] (impl_determinant.calls h1), .call [] (impl_valuation.calls h2), .call [] (impl_valuation.calls h3), .call [] (impl_ballAt.calls h4)] (by kernel_rfl)

theorem impl_moveBall.calls {a0 : Int} {a1 : Siiii} {a2 : Siii} {r : (Siii × Bool)} (h : impl_moveBall.f a0 a1 a2 = some r) : Eng.Fn Go.Proofs.Tryz.prog 123 [I a0, .ag (Siiii.cells a1), .ag (Siii.cells a2)] [] [] (.tu [.ag (Siii.cells r.1), B r.2]) :=
  fn_fin Go.Proofs.Tryz.func123 (c := bodyOf Go.Proofs.Tryz.f123) (by kernel_rfl) (by kernel_rfl) <|
    bind_cases h fun r1 h1 h =>
    bind_cases h fun r2 h2 h =>
    bind_cases h fun r3 h3 h =>
    bind_cases h fun r4 h4 h =>
    bind_cases h fun r5 h5 h =>
    ifE_cases h
      (fun h6 h =>
        fin_fin Go.Proofs.Tryz.func123 mix 1000 [.call [] (impl_mark.calls h1), .call [] (impl_power.calls h2), .call [] (impl_power.calls h3), .call [] (impl_valuation.calls h4), .call [] (impl_valuation.calls h5), .br h6, .fin 6 [0, 4, 5, 6, 12] [(4, 4), (5, 5), (6, 6), (12, 12)] (impl_moveBall.j6_ok a0 a1.c0 a1.c1 a1.c2 a1.c3 a2.c0 a2.c1 a2.c2 0 0 0 (W (a1.c0 * r3)) (W (a1.c2 * r3)) r h)] (by kernel_rfl))
      (fun h6 h =>
        fin_fin Go.Proofs.Tryz.func123 mix 1000 [.call [] (impl_mark.calls h1), .call [] (impl_power.calls h2), .call [] (impl_power.calls h3), .call [] (impl_valuation.calls h4), .call [] (impl_valuation.calls h5), .br h6, .fin 6 [0, 4, 5, 6, 12] [(4, 4), (5, 5), (6, 6), (12, 12)] (impl_moveBall.j6_ok a0 a1.c0 a1.c1 a1.c2 a1.c3 a2.c0 a2.c1 a2.c2 0 0 0 (W ((W (a1.c0 * r1)) + (W (a1.c1 * r2)))) (W ((W (a1.c2 * r1)) + (W (a1.c3 * r2)))) r h)] (by kernel_rfl))

theorem impl_fitted.calls {a0 : Siii} {a1 : Bool} {r : (Siii × Int)} (h : impl_fitted.f a0 a1 = some r) : Eng.Fn Go.Proofs.Tryz.prog 129 [.ag (Siii.cells a0), B a1] [] [] (.tu [.ag (Siii.cells r.1), I r.2]) :=
  fn_fin Go.Proofs.Tryz.func129 (c := bodyOf Go.Proofs.Tryz.f129) (by kernel_rfl) (by kernel_rfl) <|
    ifE_cases h
      (fun h1 h =>
        leaf h fun e => by subst e; exact fin_ret Go.Proofs.Tryz.func129 mix 1000 [.br h1] (by kernel_rfl))
      (fun h1 h =>
        leaf h fun e => by subst e; exact fin_ret Go.Proofs.Tryz.func129 mix 1000 [.br h1] (by kernel_rfl))

theorem impl_MoveBall.calls {a0 : Int} {a1 : Siiii} {a2 : Siii} {r : (Siii × Int)} (h : impl_MoveBall.f a0 a1 a2 = some r) : Eng.Fn Go.Proofs.Tryz.prog 24 [I a0, .ag (Siiii.cells a1), .ag (Siii.cells a2)] [] [] (.tu [.ag (Siii.cells r.1), I r.2]) :=
  fn_fin Go.Proofs.Tryz.func24 (c := bodyOf Go.Proofs.Tryz.f24) (by kernel_rfl) (by kernel_rfl) <|
    bind_cases h fun r1 h1 h =>
    ifE_cases h
      (fun h2 h =>
        leaf h fun e => by subst e; exact fin_ret Go.Proofs.Tryz.func24 mix 1000 [.call [] (impl_IsBall.calls h1), .br h2] (by kernel_rfl))
      (fun h2 h =>
        bind_cases h fun r2 h3 h =>
        ifE_cases h
          (fun h4 h =>
            leaf h fun e => by subst e; exact fin_ret Go.Proofs.Tryz.func24 mix 1000 [.call [] (impl_IsBall.calls h1), .br h2, .call [] (impl_IsMatrix.calls h3), .br h4] (by kernel_rfl))
          (fun h4 h =>
            bind_cases h fun r3 h5 h =>
            bind_cases h fun r4 h6 h =>
            leaf h fun e => by subst e; exact fin_ret Go.Proofs.Tryz.func24 mix 1000 [.call [] (impl_IsBall.calls h1), .br h2, .call [] (impl_IsMatrix.calls h3), .br h4, .call [] (impl_moveBall.calls h5), .call [] (impl_fitted.calls h6)] (by kernel_rfl)))

theorem spec_l04Code.calls {a0 : Int} {a1 : Siiii} {a2 : (List Siii)} {r : Int} (h : spec_l04Code.f a0 a1 a2 = some r) : Eng.Fn Go.Proofs.Tryz.prog 115 [I a0, .ag (Siiii.cells a1), R true 3 Siii.cells a2] [] [] (I r) :=
  fn_fin Go.Proofs.Tryz.func115 (c := bodyOf Go.Proofs.Tryz.f115) (by kernel_rfl) (by kernel_rfl) <|
    bind_cases h fun r1 h1 h =>
    ifE_cases h
      (fun h2 h =>
        leaf h fun e => by subst e; exact fin_ret Go.Proofs.Tryz.func115 mix 1000 [.call [] (spec_l01Code.calls h1), .br h2] (by kernel_rfl))
      (fun h2 h =>
        bind_cases h fun r2 h3 h =>
        ifE_cases h
          (fun h4 h =>
            leaf h fun e => by subst e; exact fin_ret Go.Proofs.Tryz.func115 mix 1000 [.call [] (spec_l01Code.calls h1), .br h2, .call [] (spec_l04Is.calls h3), .br h4] (by kernel_rfl))
          (fun h4 h =>
            leaf h fun e => by subst e; exact fin_ret Go.Proofs.Tryz.func115 mix 1000 [.call [] (spec_l01Code.calls h1), .br h2, .call [] (spec_l04Is.calls h3), .br h4] (by kernel_rfl)))

theorem spec_l04Move.j8_ok : ∀ (v0 : Int) (v8 : Int) (o4_0 : Int) (o4_1 : Int) (o4_2 : Int) (o4_3 : Int) (o5_0 : Int) (o5_1 : Int) (o5_2 : Int) (o6_0 : Int) (o6_1 : Int) (o6_2 : Int) (o13_0 : Int) (o13_1 : Int) (r : (Siii × Bool)), (spec_l04Move.j8) v0 v8 o4_0 o4_1 o4_2 o4_3 o5_0 o5_1 o5_2 o6_0 o6_1 o6_2 o13_0 o13_1 = some r → Eng.Fin Go.Proofs.Tryz.prog 125 [] [] (.tu [.ag (Siii.cells r.1), B r.2]) (itsR 8 (bodyOf Go.Proofs.Tryz.f125)) (mkS 118 [(0, I v0), (4, .bx 4 0), (5, .bx 5 0), (6, .bx 6 0), (8, I v8), (13, .bx 13 0)] [(4, .box [I o4_0, I o4_1, I o4_2, I o4_3]), (5, .box [I o5_0, I o5_1, I o5_2]), (6, .box [I o6_0, I o6_1, I o6_2]), (13, .box [I o13_0, I o13_1])]) :=
  fun v0 v8 o4_0 o4_1 o4_2 o4_3 o5_0 o5_1 o5_2 o6_0 o6_1 o6_2 o13_0 o13_1 r h =>
    bind_cases h fun r6 h1 h =>
    bind_cases h fun r7 h2 h =>
    bind_cases h fun r8 h3 h =>
    bind_cases h fun r9 h4 h =>
    leaf h fun e => by subst e; exact fin_ret Go.Proofs.Tryz.func125 mix 1000 [.call [] (spec_l04Det.calls h1), .call [] (spec_l01Val.calls h2), .call [] (spec_l01Val.calls h3), .call [] (spec_l01Of.calls h4)] (by kernel_rfl)

theorem spec_l04Move.j7_ok : ∀ (v0 : Int) (v8 : Int) (o4_0 : Int) (o4_1 : Int) (o4_2 : Int) (o4_3 : Int) (o5_0 : Int) (o5_1 : Int) (o5_2 : Int) (o6_0 : Int) (o6_1 : Int) (o6_2 : Int) (o12_0 : Int) (o12_1 : Int) (o13_0 : Int) (o13_1 : Int) (r : (Siii × Bool)), (spec_l04Move.j7) v0 v8 o4_0 o4_1 o4_2 o4_3 o5_0 o5_1 o5_2 o6_0 o6_1 o6_2 o12_0 o12_1 o13_0 o13_1 = some r → Eng.Fin Go.Proofs.Tryz.prog 125 [] [] (.tu [.ag (Siii.cells r.1), B r.2]) (itsR 7 (bodyOf Go.Proofs.Tryz.f125)) (mkS 118 [(0, I v0), (4, .bx 4 0), (5, .bx 5 0), (6, .bx 6 0), (8, I v8), (12, .bx 12 0), (13, .bx 13 0)] [(4, .box [I o4_0, I o4_1, I o4_2, I o4_3]), (5, .box [I o5_0, I o5_1, I o5_2]), (6, .box [I o6_0, I o6_1, I o6_2]), (12, .box [I o12_0, I o12_1]), (13, .box [I o13_0, I o13_1])]) :=
  fun v0 v8 o4_0 o4_1 o4_2 o4_3 o5_0 o5_1 o5_2 o6_0 o6_1 o6_2 o12_0 o12_1 o13_0 o13_1 r h =>
    fin_fin Go.Proofs.Tryz.func125 mix 1000 [.fin 8 [0, 4, 5, 6, 8, 13] [(4, 4), (5, 5), (6, 6), (13, 13)] (spec_l04Move.j8_ok v0 v8 o4_0 o4_1 o4_2 o4_3 o5_0 o5_1 o5_2 o6_0 o6_1 o6_2 o12_0 o12_1 r h)] (by kernel_rfl)

theorem spec_l04Move.calls {a0 : Int} {a1 : Siiii} {a2 : Siii} {r : (Siii × Bool)} (h : spec_l04Move.f a0 a1 a2 = some r) : Eng.Fn Go.Proofs.Tryz.prog 125 [I a0, .ag (Siiii.cells a1), .ag (Siii.cells a2)] [] [] (.tu [.ag (Siii.cells r.1), B r.2]) :=
  fn_fin Go.Proofs.Tryz.func125 (c := bodyOf Go.Proofs.Tryz.f125) (by kernel_rfl) (by kernel_rfl) <|
    bind_cases h fun r1 h1 h =>
    bind_cases h fun r2 h2 h =>
    bind_cases h fun r3 h3 h =>
    ifE_cases h
      (fun h4 h =>
        fin_fin Go.Proofs.Tryz.func125 mix 1000 [.call [] (spec_l01Power.calls h1), .call [] (spec_l01Power.calls h2), .call [] (spec_l01Power.calls h3), .br h4, .fin 7 [0, 4, 5, 6, 8, 12, 13] [(4, 4), (5, 5), (6, 6), (12, 12), (13, 13)] (spec_l04Move.j7_ok a0 (imax a2.c2 (W (0 - a2.c0))) a1.c0 a1.c1 a1.c2 a1.c3 a2.c0 a2.c1 a2.c2 0 0 0 (W (a1.c0 * r1)) (W (a1.c2 * r1)) (W ((W (a1.c0 * (W (a2.c1 * r3)))) + (W (a1.c1 * r2)))) (W ((W (a1.c2 * (W (a2.c1 * r3)))) + (W (a1.c3 * r2)))) r h)] (by kernel_rfl))
      (fun h4 h =>
        ifE_cases h
          (fun h5 h =>
            bind_cases h fun r4 h6 h =>
            bind_cases h fun r5 h7 h =>
            ifE_cases h
              (fun h8 h =>
                fin_fin Go.Proofs.Tryz.func125 mix 1000 [.call [] (spec_l01Power.calls h1), .call [] (spec_l01Power.calls h2), .call [] (spec_l01Power.calls h3), .br h4, .br h5, .call [] (spec_l01Val.calls h6), .call [] (spec_l01Val.calls h7), .br h8, .fin 7 [0, 4, 5, 6, 8, 12, 13] [(4, 4), (5, 5), (6, 6), (12, 12), (13, 13)] (spec_l04Move.j7_ok a0 (imax a2.c2 (W (0 - a2.c0))) a1.c0 a1.c1 a1.c2 a1.c3 a2.c0 a2.c1 a2.c2 0 0 0 (W (a1.c0 * r1)) (W (a1.c2 * r1)) (W ((W (a1.c0 * (W (a2.c1 * r3)))) + (W (a1.c1 * r2)))) (W ((W (a1.c2 * (W (a2.c1 * r3)))) + (W (a1.c3 * r2)))) r h)] (by kernel_rfl))
              (fun h8 h =>
                fin_fin Go.Proofs.Tryz.func125 mix 1000 [.call [] (spec_l01Power.calls h1), .call [] (spec_l01Power.calls h2), .call [] (spec_l01Power.calls h3), .br h4, .br h5, .call [] (spec_l01Val.calls h6), .call [] (spec_l01Val.calls h7), .br h8, .fin 8 [0, 4, 5, 6, 8, 13] [(4, 4), (5, 5), (6, 6), (13, 13)] (spec_l04Move.j8_ok a0 (imax a2.c2 (W (0 - a2.c0))) a1.c0 a1.c1 a1.c2 a1.c3 a2.c0 a2.c1 a2.c2 0 0 0 (W ((W (a1.c0 * (W (a2.c1 * r3)))) + (W (a1.c1 * r2)))) (W ((W (a1.c2 * (W (a2.c1 * r3)))) + (W (a1.c3 * r2)))) r h)] (by kernel_rfl)))
          (fun h5 h =>
            fin_fin Go.Proofs.Tryz.func125 mix 1000 [.call [] (spec_l01Power.calls h1), .call [] (spec_l01Power.calls h2), .call [] (spec_l01Power.calls h3), .br h4, .br h5, .fin 8 [0, 4, 5, 6, 8, 13] [(4, 4), (5, 5), (6, 6), (13, 13)] (spec_l04Move.j8_ok a0 (imax a2.c2 (W (0 - a2.c0))) a1.c0 a1.c1 a1.c2 a1.c3 a2.c0 a2.c1 a2.c2 0 0 0 (W ((W (a1.c0 * (W (a2.c1 * r3)))) + (W (a1.c1 * r2)))) (W ((W (a1.c2 * (W (a2.c1 * r3)))) + (W (a1.c3 * r2)))) r h)] (by kernel_rfl)))

theorem impl_joinLevel.calls {a0 : Int} {a1 : Siii} {a2 : Siii} {r : Int} (h : impl_joinLevel.f a0 a1 a2 = some r) : Eng.Fn Go.Proofs.Tryz.prog 240 [I a0, .ag (Siii.cells a1), .ag (Siii.cells a2)] [] [] (I r) :=
  fn_fin Go.Proofs.Tryz.func240 (c := bodyOf Go.Proofs.Tryz.f240) (by kernel_rfl) (by kernel_rfl) <|
    bind_cases h fun r1 h1 h =>
    bind_cases h fun r2 h2 h =>
    bind_cases h fun r3 h3 h =>
    leaf h fun e => by subst e; exact fin_ret Go.Proofs.Tryz.func240 mix 1000 [.call [] (impl_mark.calls h1), .call [] (impl_mark.calls h2), .call [] (impl_valuation.calls h3)] (by kernel_rfl)

theorem impl_distance.calls {a0 : Int} {a1 : Siii} {a2 : Siii} {r : Int} (h : impl_distance.f a0 a1 a2 = some r) : Eng.Fn Go.Proofs.Tryz.prog 131 [I a0, .ag (Siii.cells a1), .ag (Siii.cells a2)] [] [] (I r) :=
  fn_fin Go.Proofs.Tryz.func131 (c := bodyOf Go.Proofs.Tryz.f131) (by kernel_rfl) (by kernel_rfl) <|
    bind_cases h fun r1 h1 h =>
    leaf h fun e => by subst e; exact fin_ret Go.Proofs.Tryz.func131 mix 1000 [.call [] (impl_joinLevel.calls h1)] (by kernel_rfl)

theorem impl_child.calls {a0 : Int} {a1 : Siii} {a2 : Int} {r : (Siii × Bool)} (h : impl_child.f a0 a1 a2 = some r) : Eng.Fn Go.Proofs.Tryz.prog 222 [I a0, .ag (Siii.cells a1), I a2] [] [] (.tu [.ag (Siii.cells r.1), B r.2]) :=
  fn_fin Go.Proofs.Tryz.func222 (c := bodyOf Go.Proofs.Tryz.f222) (by kernel_rfl) (by kernel_rfl) <|
    bind_cases h fun r1 h1 h =>
    bind_cases h fun r2 h2 h =>
    bind_cases h fun r3 h3 h =>
    leaf h fun e => by subst e; exact fin_ret Go.Proofs.Tryz.func222 mix 1000 [.call [] (impl_mark.calls h1), .call [] (impl_power.calls h2), .call [] (impl_ofMark.calls h3)] (by kernel_rfl)

theorem spec_l02Valuation.calls {a0 : Int} {a1 : Siii} {a2 : Siii} {r : (Int × Bool)} (h : spec_l02Valuation.f a0 a1 a2 = some r) : Eng.Fn Go.Proofs.Tryz.prog 284 [I a0, .ag (Siii.cells a1), .ag (Siii.cells a2)] [] [] (.tu [I r.1, B r.2]) :=
  fn_fin Go.Proofs.Tryz.func284 (c := bodyOf Go.Proofs.Tryz.f284) (by kernel_rfl) (by kernel_rfl) <|
    bind_cases h fun r1 h1 h =>
    bind_cases h fun r2 h2 h =>
    ifE_cases h
      (fun h3 h =>
        leaf h fun e => by subst e; exact fin_ret Go.Proofs.Tryz.func284 mix 1000 [.call [] (spec_l01Power.calls h1), .call [] (spec_l01Power.calls h2), .br h3] (by kernel_rfl))
      (fun h3 h =>
        bind_cases h fun r3 h4 h =>
        leaf h fun e => by subst e; exact fin_ret Go.Proofs.Tryz.func284 mix 1000 [.call [] (spec_l01Power.calls h1), .call [] (spec_l01Power.calls h2), .br h3, .call [] (spec_l01Val.calls h4)] (by kernel_rfl))

theorem spec_l02Join.calls {a0 : Int} {a1 : Siii} {a2 : Siii} {r : Int} (h : spec_l02Join.f a0 a1 a2 = some r) : Eng.Fn Go.Proofs.Tryz.prog 236 [I a0, .ag (Siii.cells a1), .ag (Siii.cells a2)] [] [] (I r) :=
  fn_fin Go.Proofs.Tryz.func236 (c := bodyOf Go.Proofs.Tryz.f236) (by kernel_rfl) (by kernel_rfl) <|
    bind_cases h fun r1 h1 h =>
    ifE_cases h
      (fun h2 h =>
        leaf h fun e => by subst e; exact fin_ret Go.Proofs.Tryz.func236 mix 1000 [.call [] (spec_l02Valuation.calls h1), .br h2] (by kernel_rfl))
      (fun h2 h =>
        leaf h fun e => by subst e; exact fin_ret Go.Proofs.Tryz.func236 mix 1000 [.call [] (spec_l02Valuation.calls h1), .br h2] (by kernel_rfl))

theorem impl_parent.calls {a0 : Int} {a1 : Siii} {r : (Siii × Bool)} (h : impl_parent.f a0 a1 = some r) : Eng.Fn Go.Proofs.Tryz.prog 285 [I a0, .ag (Siii.cells a1)] [] [] (.tu [.ag (Siii.cells r.1), B r.2]) :=
  fn_fin Go.Proofs.Tryz.func285 (c := bodyOf Go.Proofs.Tryz.f285) (by kernel_rfl) (by kernel_rfl) <|
    bind_cases h fun r1 h1 h =>
    bind_cases h fun r2 h2 h =>
    leaf h fun e => by subst e; exact fin_ret Go.Proofs.Tryz.func285 mix 1000 [.call [] (impl_mark.calls h1), .call [] (impl_ofMark.calls h2)] (by kernel_rfl)

theorem impl_neighbour.calls {a0 : Int} {a1 : Siii} {a2 : Int} {r : (Siii × Bool)} (h : impl_neighbour.f a0 a1 a2 = some r) : Eng.Fn Go.Proofs.Tryz.prog 239 [I a0, .ag (Siii.cells a1), I a2] [] [] (.tu [.ag (Siii.cells r.1), B r.2]) :=
  fn_fin Go.Proofs.Tryz.func239 (c := bodyOf Go.Proofs.Tryz.f239) (by kernel_rfl) (by kernel_rfl) <|
    ifE_cases h
      (fun h1 h =>
        bind_cases h fun r1 h2 h =>
        leaf h fun e => by subst e; exact fin_ret Go.Proofs.Tryz.func239 mix 1000 [.br h1, .call [] (impl_parent.calls h2)] (by kernel_rfl))
      (fun h1 h =>
        bind_cases h fun r2 h3 h =>
        leaf h fun e => by subst e; exact fin_ret Go.Proofs.Tryz.func239 mix 1000 [.br h1, .call [] (impl_child.calls h3)] (by kernel_rfl))

theorem spec_l01Child.j9_ok : ∀ (v0 : Int) (v8 : Int) (v9 : Int) (o4_0 : Int) (o4_1 : Int) (o4_2 : Int) (o6_0 : Int) (o6_1 : Int) (o6_2 : Int) (r : (Siii × Bool)), (spec_l01Child.j9) v0 v8 v9 o4_0 o4_1 o4_2 o6_0 o6_1 o6_2 = some r → Eng.Fin Go.Proofs.Tryz.prog 267 [] [] (.tu [.ag (Siii.cells r.1), B r.2]) (itsR 9 (bodyOf Go.Proofs.Tryz.f267)) (mkS 71 [(0, I v0), (4, .bx 4 0), (6, .bx 6 0), (8, I v8), (9, I v9)] [(4, .box [I o4_0, I o4_1, I o4_2]), (6, .box [I o6_0, I o6_1, I o6_2])]) :=
  fun v0 v8 v9 o4_0 o4_1 o4_2 o6_0 o6_1 o6_2 r h =>
    bind_cases h fun r5 h1 h =>
    leaf h fun e => by subst e; exact fin_ret Go.Proofs.Tryz.func267 mix 1000 [.call [] (spec_l01Of.calls h1)] (by kernel_rfl)

theorem spec_l01Child.calls {a0 : Int} {a1 : Siii} {a2 : Int} {r : (Siii × Bool)} (h : spec_l01Child.f a0 a1 a2 = some r) : Eng.Fn Go.Proofs.Tryz.prog 267 [I a0, .ag (Siii.cells a1), I a2] [] [] (.tu [.ag (Siii.cells r.1), B r.2]) :=
  fn_fin Go.Proofs.Tryz.func267 (c := bodyOf Go.Proofs.Tryz.f267) (by kernel_rfl) (by kernel_rfl) <|
    ifE_cases h
      (fun h1 h =>
        leaf h fun e => by subst e; exact fin_ret Go.Proofs.Tryz.func267 mix 1000 [.br h1] (by kernel_rfl))
      (fun h1 h =>
        bind_cases h fun r1 h2 h =>
        ifE_cases h
          (fun h3 h =>
            bind_cases h fun r2 h4 h =>
            fin_fin Go.Proofs.Tryz.func267 mix 1000 [.br h1, .call [] (spec_l01Power.calls h2), .br h3, .call [] (spec_l01Power.calls h4), .fin 9 [0, 4, 6, 8, 9] [(4, 4), (6, 6)] (spec_l01Child.j9_ok a0 (W (a1.c1 + (W ((W (a2 * r1)) * r2)))) r1 a1.c0 a1.c1 a1.c2 0 0 0 r h)] (by kernel_rfl))
          (fun h3 h =>
            bind_cases h fun r3 h5 h =>
            guardE_cases h fun h6 h =>
            bind_cases h fun r4 h7 h =>
            guardE_cases h fun h8 h =>
            fin_fin Go.Proofs.Tryz.func267 mix 1000 [.br h1, .call [] (spec_l01Power.calls h2), .br h3, .call [] (spec_l01Power.calls h5), .nz h6, .call [] (spec_l01Power.calls h7), .nz h8, .fin 9 [0, 4, 6, 8, 9] [(4, 4), (6, 6)] (spec_l01Child.j9_ok a0 (W ((W (a1.c1 * (W (Int.tdiv (imax r1 r3) r1)))) + (W (a2 * (W (Int.tdiv (imax r1 r3) r4)))))) (imax r1 r3) a1.c0 a1.c1 a1.c2 0 0 0 r h)] (by kernel_rfl)))

end Go.CTryz
end
