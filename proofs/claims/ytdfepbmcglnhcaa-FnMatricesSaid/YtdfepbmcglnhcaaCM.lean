import Derived.Test.YtdfepbmcglnhcaaFM
import Derived.Test.YtdfepbmcglnhcaaProg
set_option linter.unusedVariables false
set_option maxRecDepth 100000
open Go Go.Eng
namespace Go.GenTry
theorem mix : Go.Proofs.Try.prog.follows .mixedOrders = true := by kernel_rfl
theorem laws_big.calls {a0 : (List Int)} {r : Bool} (h : laws_big.f a0 = some r) : Eng.Fn Go.Proofs.Try.prog 9 [R true 1 (cK .u8) a0] [] [] (B r) :=
  fn_fin Go.Proofs.Try.func9 (c := bodyOf Go.Proofs.Try.f9) (by kernel_rfl) (by kernel_rfl) <|
    leaf h fun e => by subst e; exact fin_ret Go.Proofs.Try.func9 mix 1000 [] (by kernel_rfl)

theorem spec_l01From.l3_ok (k : Nat) : ∀ (v0 : (List Int)) (v4 : Int) (o11_0 : (List Int)) (o11_1 : Int) (o11_2 : Int) (r : SLu8eiu64), (spec_l01From.l3 k) v0 v4 o11_0 o11_1 o11_2 = some r → Eng.Fin Go.Proofs.Try.prog 63 [] [(11, .box (SLu8eiu64.cells r))] (.bx 11 0) (itsL 3 (bodyOf Go.Proofs.Try.f63)) (mkS 38 [(0, R true 1 (cK .u8) v0), (3, .bx 11 0), (4, I v4)] [(11, .box [R true 1 (cK .u8) o11_0, I o11_1, K .u64 o11_2])]) := by
  induction k with
  | zero => intro v0 v4 o11_0 o11_1 o11_2 r h; exact nomatch h
  | succ k ih =>
    exact fun v0 v4 o11_0 o11_1 o11_2 r h =>
      ifE_cases h
        (fun h1 h =>
          ifE_cases h
            (fun h2 h =>
              bind_cases h fun e1 h3 h =>
              fin_fin Go.Proofs.Try.func63 mix 1000 [.unroll, .br h1, .br h2, .el (getE_el (cK .u8) h3), .fin 100000 [0, 3, 4] [(11, 11)] (ih v0 (W (v4 + 1)) o11_0 o11_1 (IntKind.wrap .u64 ((IntKind.wrap .u64 ((IntKind.wrap .u64 (o11_2 * 1099511628211)) + (IntKind.wrap .u64 (e1)))) + 71)) r h)] (by kernel_rfl))
            (fun h2 h =>
              leaf h fun e => by subst e; exact fin_ret Go.Proofs.Try.func63 mix 1000 [.unroll, .br h1, .br h2] (by kernel_rfl)))
        (fun h1 h =>
          leaf h fun e => by subst e; exact fin_ret Go.Proofs.Try.func63 mix 1000 [.unroll, .br h1] (by kernel_rfl))

theorem spec_l01From.calls {a0 : (List Int)} {r : SLu8eiu64} (h : spec_l01From.f a0 = some r) : Eng.Fn Go.Proofs.Try.prog 63 [R true 1 (cK .u8) a0] [] [(11, .box (SLu8eiu64.cells r))] (.bx 11 0) :=
  fn_fin Go.Proofs.Try.func63 (c := bodyOf Go.Proofs.Try.f63) (by kernel_rfl) (by kernel_rfl) <|
    fin_fin Go.Proofs.Try.func63 mix 1000 [.fin 100000 [0, 3, 4] [(11, 11)] (spec_l01From.l3_ok fuelN a0 0 a0 0 (IntKind.wrap .u64 (12527 + (IntKind.wrap .u64 ((a0.length : Int))))) r h)] (by kernel_rfl)

theorem spec_l01Next.calls {a0 : SLu8eiu64} {a1 : Int} {r : (Int × SLu8eiu64)} (h : spec_l01Next.f a0 a1 = some r) : Eng.Fn Go.Proofs.Try.prog 77 [.bx 2000 0, I a1] [(2000, .box [R true 1 (cK .u8) a0.c0, I a0.c1, K .u64 a0.c2])] [(2000, .box (SLu8eiu64.cells r.2))] (I r.1) :=
  fn_fin Go.Proofs.Try.func77 (c := bodyOf Go.Proofs.Try.f77) (by kernel_rfl) (by kernel_rfl) <|
    ifE_cases h
      (fun h1 h =>
        leaf h fun e => by subst e; exact fin_ret Go.Proofs.Try.func77 mix 1000 [.br h1] (by kernel_rfl))
      (fun h1 h =>
        ifE_cases h
          (fun h2 h =>
            bind_cases h fun e1 h3 h =>
            guardE_cases h fun h4 h =>
            leaf h fun e => by subst e; exact fin_ret Go.Proofs.Try.func77 mix 1000 [.br h1, .br h2, .el (getE_el (cK .u8) h3), .nz h4] (by kernel_rfl))
          (fun h2 h =>
            guardE_cases h fun h5 h =>
            leaf h fun e => by subst e; exact fin_ret Go.Proofs.Try.func77 mix 1000 [.br h1, .br h2, .nz h5] (by kernel_rfl)))

theorem spec_l01Pick.calls {a0 : SLu8eiu64} {a1 : (List Int)} {r : (Int × SLu8eiu64)} (h : spec_l01Pick.f a0 a1 = some r) : Eng.Fn Go.Proofs.Try.prog 72 [.bx 2000 0, R true 1 cI a1] [(2000, .box [R true 1 (cK .u8) a0.c0, I a0.c1, K .u64 a0.c2])] [(2000, .box (SLu8eiu64.cells r.2))] (I r.1) :=
  fn_fin Go.Proofs.Try.func72 (c := bodyOf Go.Proofs.Try.f72) (by kernel_rfl) (by kernel_rfl) <|
    bind_cases h fun r1 h1 h =>
    bind_cases h fun e2 h2 h =>
    leaf h fun e => by subst e; exact fin_ret Go.Proofs.Try.func72 mix 1000 [.call [(2000, 2000)] (spec_l01Next.calls h1), .el (getE_el cI h2)] (by kernel_rfl)

theorem spec_l04Det.calls {a0 : Siiii} {r : Int} (h : spec_l04Det.f a0 = some r) : Eng.Fn Go.Proofs.Try.prog 139 [.ag (Siiii.cells a0)] [] [] (I r) :=
  fn_fin Go.Proofs.Try.func139 (c := bodyOf Go.Proofs.Try.f139) (by kernel_rfl) (by kernel_rfl) <|
    leaf h fun e => by subst e; exact fin_ret Go.Proofs.Try.func139 mix 1000 [] (by kernel_rfl)

theorem spec_l04Draw.l6_ok (a0 : SLu8eiu64) (rec3 : Int → (List Int) → Int → Int → Int → Int → Int → Int → Int → Int → Int → Int → Option (Siiii × SLu8eiu64)) (rec3H : ∀ (v4 : Int) (o2000_0 : (List Int)) (o2000_1 : Int) (o2000_2 : Int) (o2_0 : Int) (o2_1 : Int) (o2_2 : Int) (o2_3 : Int) (o3_0 : Int) (o3_1 : Int) (o3_2 : Int) (o3_3 : Int) (r : (Siiii × SLu8eiu64)), rec3 v4 o2000_0 o2000_1 o2000_2 o2_0 o2_1 o2_2 o2_3 o3_0 o3_1 o3_2 o3_3 = some r → Eng.Fin Go.Proofs.Try.prog 64 [(2000, .box [R true 1 (cK .u8) a0.c0, I a0.c1, K .u64 a0.c2])] [(2000, .box (SLu8eiu64.cells r.2))] (.ag (Siiii.cells r.1)) (itsL 3 (bodyOf Go.Proofs.Try.f64)) (mkS 91 [(0, .bx 2000 0), (2, .bx 2 0), (3, .bx 3 0), (4, I v4)] [(2000, .box [R true 1 (cK .u8) o2000_0, I o2000_1, K .u64 o2000_2]), (2, .box [I o2_0, I o2_1, I o2_2, I o2_3]), (3, .box [I o3_0, I o3_1, I o3_2, I o3_3])])) (k : Nat) : ∀ (v4 : Int) (v5 : Int) (o2000_0 : (List Int)) (o2000_1 : Int) (o2000_2 : Int) (o2_0 : Int) (o2_1 : Int) (o2_2 : Int) (o2_3 : Int) (o3_0 : Int) (o3_1 : Int) (o3_2 : Int) (o3_3 : Int) (r : (Siiii × SLu8eiu64)), (spec_l04Draw.l6 rec3 k) v4 v5 o2000_0 o2000_1 o2000_2 o2_0 o2_1 o2_2 o2_3 o3_0 o3_1 o3_2 o3_3 = some r → Eng.Fin Go.Proofs.Try.prog 64 [(2000, .box [R true 1 (cK .u8) a0.c0, I a0.c1, K .u64 a0.c2])] [(2000, .box (SLu8eiu64.cells r.2))] (.ag (Siiii.cells r.1)) (itsL 6 (bodyOf Go.Proofs.Try.f64)) (mkS 91 [(0, .bx 2000 0), (2, .bx 2 0), (3, .bx 3 0), (4, I v4), (5, I v5)] [(2000, .box [R true 1 (cK .u8) o2000_0, I o2000_1, K .u64 o2000_2]), (2, .box [I o2_0, I o2_1, I o2_2, I o2_3]), (3, .box [I o3_0, I o3_1, I o3_2, I o3_3])]) := by
  induction k with
  | zero => intro v4 v5 o2000_0 o2000_1 o2000_2 o2_0 o2_1 o2_2 o2_3 o3_0 o3_1 o3_2 o3_3 r h; exact nomatch h
  | succ k ih =>
    exact fun v4 v5 o2000_0 o2000_1 o2000_2 o2_0 o2_1 o2_2 o2_3 o3_0 o3_1 o3_2 o3_3 r h =>
      ifE_cases h
        (fun h1 h =>
          bind_cases h fun r17 h2 h =>
          ifE_cases h
            (fun h3 h =>
              ifE_cases h
                (fun h4 h =>
                  fin_fin Go.Proofs.Try.func64 mix 1000 [.unroll, .br h1, .nz (y := 2) (by decide), .nz (y := 2) (by decide), .call [(2000, 2000)] (spec_l01Next.calls h2), .num (eq_of h3), .num (eq_of h4), .fin 100000 [0, 2, 3, 4, 5] [(2000, 2000), (2, 2), (3, 3)] (ih v4 (W (v5 + 1)) r17.2.c0 r17.2.c1 r17.2.c2 o2_0 o2_1 o2_2 o2_3 (W (r17.1 - 5)) o3_1 o3_2 o3_3 r h)] (by kernel_rfl))
                (fun h4 h =>
                  ifE_cases h
                    (fun h5 h =>
                      fin_fin Go.Proofs.Try.func64 mix 1000 [.unroll, .br h1, .nz (y := 2) (by decide), .nz (y := 2) (by decide), .call [(2000, 2000)] (spec_l01Next.calls h2), .num (eq_of h3), .num (eq_of h5), .fin 100000 [0, 2, 3, 4, 5] [(2000, 2000), (2, 2), (3, 3)] (ih v4 (W (v5 + 1)) r17.2.c0 r17.2.c1 r17.2.c2 o2_0 o2_1 o2_2 o2_3 o3_0 (W (r17.1 - 5)) o3_2 o3_3 r h)] (by kernel_rfl))
                    (fun h5 h =>
                      nomatch h)))
            (fun h3 h =>
              ifE_cases h
                (fun h6 h =>
                  ifE_cases h
                    (fun h7 h =>
                      fin_fin Go.Proofs.Try.func64 mix 1000 [.unroll, .br h1, .nz (y := 2) (by decide), .nz (y := 2) (by decide), .call [(2000, 2000)] (spec_l01Next.calls h2), .num (eq_of h6), .num (eq_of h7), .fin 100000 [0, 2, 3, 4, 5] [(2000, 2000), (2, 2), (3, 3)] (ih v4 (W (v5 + 1)) r17.2.c0 r17.2.c1 r17.2.c2 o2_0 o2_1 o2_2 o2_3 o3_0 o3_1 (W (r17.1 - 5)) o3_3 r h)] (by kernel_rfl))
                    (fun h7 h =>
                      ifE_cases h
                        (fun h8 h =>
                          fin_fin Go.Proofs.Try.func64 mix 1000 [.unroll, .br h1, .nz (y := 2) (by decide), .nz (y := 2) (by decide), .call [(2000, 2000)] (spec_l01Next.calls h2), .num (eq_of h6), .num (eq_of h8), .fin 100000 [0, 2, 3, 4, 5] [(2000, 2000), (2, 2), (3, 3)] (ih v4 (W (v5 + 1)) r17.2.c0 r17.2.c1 r17.2.c2 o2_0 o2_1 o2_2 o2_3 o3_0 o3_1 o3_2 (W (r17.1 - 5)) r h)] (by kernel_rfl))
                        (fun h8 h =>
                          nomatch h)))
                (fun h6 h =>
                  nomatch h)))
        (fun h1 h =>
          bind_cases h fun r18 h9 h =>
          ifE_cases h
            (fun h10 h =>
              bind_cases h fun r19 h11 h =>
              ifE_cases h
                (fun h12 h =>
                  bind_cases h fun r20 h13 h =>
                  bind_cases h fun r21 h14 h =>
                  bind_cases h fun r22 h15 h =>
                  ifE_cases h
                    (fun h16 h =>
                      leaf h fun e => by subst e; exact fin_ret Go.Proofs.Try.func64 mix 1000 [.unroll, .br h1, .call [] (spec_l04Det.calls h9), .br h10, .call [(2000, 2000)] (spec_l01Next.calls h11), .br h12, .call [(2000, 2000)] (spec_l01Pick.calls h13), .call [(2000, 2000)] (spec_l01Next.calls h14), .call [(2000, 2000)] (spec_l01Next.calls h15), .br h16] (by kernel_rfl))
                    (fun h16 h =>
                      ifE_cases h
                        (fun h17 h =>
                          leaf h fun e => by subst e; exact fin_ret Go.Proofs.Try.func64 mix 1000 [.unroll, .br h1, .call [] (spec_l04Det.calls h9), .br h10, .call [(2000, 2000)] (spec_l01Next.calls h11), .br h12, .call [(2000, 2000)] (spec_l01Pick.calls h13), .call [(2000, 2000)] (spec_l01Next.calls h14), .call [(2000, 2000)] (spec_l01Next.calls h15), .br h16, .br h17] (by kernel_rfl))
                        (fun h17 h =>
                          leaf h fun e => by subst e; exact fin_ret Go.Proofs.Try.func64 mix 1000 [.unroll, .br h1, .call [] (spec_l04Det.calls h9), .br h10, .call [(2000, 2000)] (spec_l01Next.calls h11), .br h12, .call [(2000, 2000)] (spec_l01Pick.calls h13), .call [(2000, 2000)] (spec_l01Next.calls h14), .call [(2000, 2000)] (spec_l01Next.calls h15), .br h16, .br h17] (by kernel_rfl))))
                (fun h12 h =>
                  ifE_cases h
                    (fun h18 h =>
                      bind_cases h fun r23 h19 h =>
                      bind_cases h fun r24 h20 h =>
                      ifE_cases h
                        (fun h21 h =>
                          leaf h fun e => by subst e; exact fin_ret Go.Proofs.Try.func64 mix 1000 [.unroll, .br h1, .call [] (spec_l04Det.calls h9), .br h10, .call [(2000, 2000)] (spec_l01Next.calls h11), .br h12, .br h18, .call [(2000, 2000)] (spec_l01Pick.calls h19), .call [(2000, 2000)] (spec_l01Next.calls h20), .br h21] (by kernel_rfl))
                        (fun h21 h =>
                          ifE_cases h
                            (fun h22 h =>
                              leaf h fun e => by subst e; exact fin_ret Go.Proofs.Try.func64 mix 1000 [.unroll, .br h1, .call [] (spec_l04Det.calls h9), .br h10, .call [(2000, 2000)] (spec_l01Next.calls h11), .br h12, .br h18, .call [(2000, 2000)] (spec_l01Pick.calls h19), .call [(2000, 2000)] (spec_l01Next.calls h20), .br h21, .br h22] (by kernel_rfl))
                            (fun h22 h =>
                              leaf h fun e => by subst e; exact fin_ret Go.Proofs.Try.func64 mix 1000 [.unroll, .br h1, .call [] (spec_l04Det.calls h9), .br h10, .call [(2000, 2000)] (spec_l01Next.calls h11), .br h12, .br h18, .call [(2000, 2000)] (spec_l01Pick.calls h19), .call [(2000, 2000)] (spec_l01Next.calls h20), .br h21, .br h22] (by kernel_rfl))))
                    (fun h18 h =>
                      ifE_cases h
                        (fun h23 h =>
                          bind_cases h fun r25 h24 h =>
                          bind_cases h fun r26 h25 h =>
                          ifE_cases h
                            (fun h26 h =>
                              leaf h fun e => by subst e; exact fin_ret Go.Proofs.Try.func64 mix 1000 [.unroll, .br h1, .call [] (spec_l04Det.calls h9), .br h10, .call [(2000, 2000)] (spec_l01Next.calls h11), .br h12, .br h18, .br h23, .call [(2000, 2000)] (spec_l01Pick.calls h24), .call [(2000, 2000)] (spec_l01Next.calls h25), .br h26] (by kernel_rfl))
                            (fun h26 h =>
                              ifE_cases h
                                (fun h27 h =>
                                  leaf h fun e => by subst e; exact fin_ret Go.Proofs.Try.func64 mix 1000 [.unroll, .br h1, .call [] (spec_l04Det.calls h9), .br h10, .call [(2000, 2000)] (spec_l01Next.calls h11), .br h12, .br h18, .br h23, .call [(2000, 2000)] (spec_l01Pick.calls h24), .call [(2000, 2000)] (spec_l01Next.calls h25), .br h26, .br h27] (by kernel_rfl))
                                (fun h27 h =>
                                  leaf h fun e => by subst e; exact fin_ret Go.Proofs.Try.func64 mix 1000 [.unroll, .br h1, .call [] (spec_l04Det.calls h9), .br h10, .call [(2000, 2000)] (spec_l01Next.calls h11), .br h12, .br h18, .br h23, .call [(2000, 2000)] (spec_l01Pick.calls h24), .call [(2000, 2000)] (spec_l01Next.calls h25), .br h26, .br h27] (by kernel_rfl))))
                        (fun h23 h =>
                          ifE_cases h
                            (fun h28 h =>
                              bind_cases h fun r27 h29 h =>
                              bind_cases h fun r28 h30 h =>
                              bind_cases h fun r29 h31 h =>
                              bind_cases h fun r30 h32 h =>
                              bind_cases h fun r31 h33 h =>
                              ifE_cases h
                                (fun h34 h =>
                                  leaf h fun e => by subst e; exact fin_ret Go.Proofs.Try.func64 mix 1000 [.unroll, .br h1, .call [] (spec_l04Det.calls h9), .br h10, .call [(2000, 2000)] (spec_l01Next.calls h11), .br h12, .br h18, .br h23, .br h28, .call [(2000, 2000)] (spec_l01Next.calls h29), .call [(2000, 2000)] (spec_l01Next.calls h30), .call [(2000, 2000)] (spec_l01Next.calls h31), .call [(2000, 2000)] (spec_l01Next.calls h32), .call [(2000, 2000)] (spec_l01Next.calls h33), .br h34] (by kernel_rfl))
                                (fun h34 h =>
                                  ifE_cases h
                                    (fun h35 h =>
                                      leaf h fun e => by subst e; exact fin_ret Go.Proofs.Try.func64 mix 1000 [.unroll, .br h1, .call [] (spec_l04Det.calls h9), .br h10, .call [(2000, 2000)] (spec_l01Next.calls h11), .br h12, .br h18, .br h23, .br h28, .call [(2000, 2000)] (spec_l01Next.calls h29), .call [(2000, 2000)] (spec_l01Next.calls h30), .call [(2000, 2000)] (spec_l01Next.calls h31), .call [(2000, 2000)] (spec_l01Next.calls h32), .call [(2000, 2000)] (spec_l01Next.calls h33), .br h34, .br h35] (by kernel_rfl))
                                    (fun h35 h =>
                                      leaf h fun e => by subst e; exact fin_ret Go.Proofs.Try.func64 mix 1000 [.unroll, .br h1, .call [] (spec_l04Det.calls h9), .br h10, .call [(2000, 2000)] (spec_l01Next.calls h11), .br h12, .br h18, .br h23, .br h28, .call [(2000, 2000)] (spec_l01Next.calls h29), .call [(2000, 2000)] (spec_l01Next.calls h30), .call [(2000, 2000)] (spec_l01Next.calls h31), .call [(2000, 2000)] (spec_l01Next.calls h32), .call [(2000, 2000)] (spec_l01Next.calls h33), .br h34, .br h35] (by kernel_rfl))))
                            (fun h28 h =>
                              ifE_cases h
                                (fun h36 h =>
                                  bind_cases h fun r32 h37 h =>
                                  bind_cases h fun r33 h38 h =>
                                  ifE_cases h
                                    (fun h39 h =>
                                      leaf h fun e => by subst e; exact fin_ret Go.Proofs.Try.func64 mix 1000 [.unroll, .br h1, .call [] (spec_l04Det.calls h9), .br h10, .call [(2000, 2000)] (spec_l01Next.calls h11), .br h12, .br h18, .br h23, .br h28, .br h36, .call [(2000, 2000)] (spec_l01Next.calls h37), .call [(2000, 2000)] (spec_l01Next.calls h38), .br h39] (by kernel_rfl))
                                    (fun h39 h =>
                                      ifE_cases h
                                        (fun h40 h =>
                                          leaf h fun e => by subst e; exact fin_ret Go.Proofs.Try.func64 mix 1000 [.unroll, .br h1, .call [] (spec_l04Det.calls h9), .br h10, .call [(2000, 2000)] (spec_l01Next.calls h11), .br h12, .br h18, .br h23, .br h28, .br h36, .call [(2000, 2000)] (spec_l01Next.calls h37), .call [(2000, 2000)] (spec_l01Next.calls h38), .br h39, .br h40] (by kernel_rfl))
                                        (fun h40 h =>
                                          leaf h fun e => by subst e; exact fin_ret Go.Proofs.Try.func64 mix 1000 [.unroll, .br h1, .call [] (spec_l04Det.calls h9), .br h10, .call [(2000, 2000)] (spec_l01Next.calls h11), .br h12, .br h18, .br h23, .br h28, .br h36, .call [(2000, 2000)] (spec_l01Next.calls h37), .call [(2000, 2000)] (spec_l01Next.calls h38), .br h39, .br h40] (by kernel_rfl))))
                                (fun h36 h =>
                                  bind_cases h fun r34 h41 h =>
                                  ifE_cases h
                                    (fun h42 h =>
                                      leaf h fun e => by subst e; exact fin_ret Go.Proofs.Try.func64 mix 1000 [.unroll, .br h1, .call [] (spec_l04Det.calls h9), .br h10, .call [(2000, 2000)] (spec_l01Next.calls h11), .br h12, .br h18, .br h23, .br h28, .br h36, .call [(2000, 2000)] (spec_l01Next.calls h41), .br h42] (by kernel_rfl))
                                    (fun h42 h =>
                                      ifE_cases h
                                        (fun h43 h =>
                                          leaf h fun e => by subst e; exact fin_ret Go.Proofs.Try.func64 mix 1000 [.unroll, .br h1, .call [] (spec_l04Det.calls h9), .br h10, .call [(2000, 2000)] (spec_l01Next.calls h11), .br h12, .br h18, .br h23, .br h28, .br h36, .call [(2000, 2000)] (spec_l01Next.calls h41), .br h42, .br h43] (by kernel_rfl))
                                        (fun h43 h =>
                                          leaf h fun e => by subst e; exact fin_ret Go.Proofs.Try.func64 mix 1000 [.unroll, .br h1, .call [] (spec_l04Det.calls h9), .br h10, .call [(2000, 2000)] (spec_l01Next.calls h11), .br h12, .br h18, .br h23, .br h28, .br h36, .call [(2000, 2000)] (spec_l01Next.calls h41), .br h42, .br h43] (by kernel_rfl)))))))))
            (fun h10 h =>
              fin_fin Go.Proofs.Try.func64 mix 1000 [.unroll, .br h1, .call [] (spec_l04Det.calls h9), .br h10, .fin 100000 [0, 2, 3, 4] [(2000, 2000), (2, 2), (3, 3)] (rec3H (W (v4 + 1)) o2000_0 o2000_1 o2000_2 o2_0 o2_1 o2_2 o2_3 o3_0 o3_1 o3_2 o3_3 r h)] (by kernel_rfl)))

theorem spec_l04Draw.l3_ok (a0 : SLu8eiu64) (k : Nat) : ∀ (v4 : Int) (o2000_0 : (List Int)) (o2000_1 : Int) (o2000_2 : Int) (o2_0 : Int) (o2_1 : Int) (o2_2 : Int) (o2_3 : Int) (o3_0 : Int) (o3_1 : Int) (o3_2 : Int) (o3_3 : Int) (r : (Siiii × SLu8eiu64)), (spec_l04Draw.l3 k) v4 o2000_0 o2000_1 o2000_2 o2_0 o2_1 o2_2 o2_3 o3_0 o3_1 o3_2 o3_3 = some r → Eng.Fin Go.Proofs.Try.prog 64 [(2000, .box [R true 1 (cK .u8) a0.c0, I a0.c1, K .u64 a0.c2])] [(2000, .box (SLu8eiu64.cells r.2))] (.ag (Siiii.cells r.1)) (itsL 3 (bodyOf Go.Proofs.Try.f64)) (mkS 91 [(0, .bx 2000 0), (2, .bx 2 0), (3, .bx 3 0), (4, I v4)] [(2000, .box [R true 1 (cK .u8) o2000_0, I o2000_1, K .u64 o2000_2]), (2, .box [I o2_0, I o2_1, I o2_2, I o2_3]), (3, .box [I o3_0, I o3_1, I o3_2, I o3_3])]) := by
  induction k with
  | zero => intro v4 o2000_0 o2000_1 o2000_2 o2_0 o2_1 o2_2 o2_3 o3_0 o3_1 o3_2 o3_3 r h; exact nomatch h
  | succ k ih =>
    exact fun v4 o2000_0 o2000_1 o2000_2 o2_0 o2_1 o2_2 o2_3 o3_0 o3_1 o3_2 o3_3 r h =>
      ifE_cases h
        (fun h1 h =>
          fin_fin Go.Proofs.Try.func64 mix 1000 [.unroll, .br h1, .fin 100000 [0, 2, 3, 4, 5] [(2000, 2000), (2, 2), (3, 3)] (spec_l04Draw.l6_ok a0 (spec_l04Draw.l3 k) ih fuelN v4 0 o2000_0 o2000_1 o2000_2 o2_0 o2_1 o2_2 o2_3 o3_0 o3_1 o3_2 o3_3 r h)] (by kernel_rfl))
        (fun h1 h =>
          bind_cases h fun r1 h2 h =>
          ifE_cases h
            (fun h3 h =>
              bind_cases h fun r2 h4 h =>
              bind_cases h fun r3 h5 h =>
              bind_cases h fun r4 h6 h =>
              ifE_cases h
                (fun h7 h =>
                  leaf h fun e => by subst e; exact fin_ret Go.Proofs.Try.func64 mix 1000 [.unroll, .br h1, .call [(2000, 2000)] (spec_l01Next.calls h2), .br h3, .call [(2000, 2000)] (spec_l01Pick.calls h4), .call [(2000, 2000)] (spec_l01Next.calls h5), .call [(2000, 2000)] (spec_l01Next.calls h6), .br h7] (by kernel_rfl))
                (fun h7 h =>
                  ifE_cases h
                    (fun h8 h =>
                      leaf h fun e => by subst e; exact fin_ret Go.Proofs.Try.func64 mix 1000 [.unroll, .br h1, .call [(2000, 2000)] (spec_l01Next.calls h2), .br h3, .call [(2000, 2000)] (spec_l01Pick.calls h4), .call [(2000, 2000)] (spec_l01Next.calls h5), .call [(2000, 2000)] (spec_l01Next.calls h6), .br h7, .br h8] (by kernel_rfl))
                    (fun h8 h =>
                      leaf h fun e => by subst e; exact fin_ret Go.Proofs.Try.func64 mix 1000 [.unroll, .br h1, .call [(2000, 2000)] (spec_l01Next.calls h2), .br h3, .call [(2000, 2000)] (spec_l01Pick.calls h4), .call [(2000, 2000)] (spec_l01Next.calls h5), .call [(2000, 2000)] (spec_l01Next.calls h6), .br h7, .br h8] (by kernel_rfl))))
            (fun h3 h =>
              ifE_cases h
                (fun h9 h =>
                  bind_cases h fun r5 h10 h =>
                  bind_cases h fun r6 h11 h =>
                  ifE_cases h
                    (fun h12 h =>
                      leaf h fun e => by subst e; exact fin_ret Go.Proofs.Try.func64 mix 1000 [.unroll, .br h1, .call [(2000, 2000)] (spec_l01Next.calls h2), .br h3, .br h9, .call [(2000, 2000)] (spec_l01Pick.calls h10), .call [(2000, 2000)] (spec_l01Next.calls h11), .br h12] (by kernel_rfl))
                    (fun h12 h =>
                      ifE_cases h
                        (fun h13 h =>
                          leaf h fun e => by subst e; exact fin_ret Go.Proofs.Try.func64 mix 1000 [.unroll, .br h1, .call [(2000, 2000)] (spec_l01Next.calls h2), .br h3, .br h9, .call [(2000, 2000)] (spec_l01Pick.calls h10), .call [(2000, 2000)] (spec_l01Next.calls h11), .br h12, .br h13] (by kernel_rfl))
                        (fun h13 h =>
                          leaf h fun e => by subst e; exact fin_ret Go.Proofs.Try.func64 mix 1000 [.unroll, .br h1, .call [(2000, 2000)] (spec_l01Next.calls h2), .br h3, .br h9, .call [(2000, 2000)] (spec_l01Pick.calls h10), .call [(2000, 2000)] (spec_l01Next.calls h11), .br h12, .br h13] (by kernel_rfl))))
                (fun h9 h =>
                  ifE_cases h
                    (fun h14 h =>
                      bind_cases h fun r7 h15 h =>
                      bind_cases h fun r8 h16 h =>
                      ifE_cases h
                        (fun h17 h =>
                          leaf h fun e => by subst e; exact fin_ret Go.Proofs.Try.func64 mix 1000 [.unroll, .br h1, .call [(2000, 2000)] (spec_l01Next.calls h2), .br h3, .br h9, .br h14, .call [(2000, 2000)] (spec_l01Pick.calls h15), .call [(2000, 2000)] (spec_l01Next.calls h16), .br h17] (by kernel_rfl))
                        (fun h17 h =>
                          ifE_cases h
                            (fun h18 h =>
                              leaf h fun e => by subst e; exact fin_ret Go.Proofs.Try.func64 mix 1000 [.unroll, .br h1, .call [(2000, 2000)] (spec_l01Next.calls h2), .br h3, .br h9, .br h14, .call [(2000, 2000)] (spec_l01Pick.calls h15), .call [(2000, 2000)] (spec_l01Next.calls h16), .br h17, .br h18] (by kernel_rfl))
                            (fun h18 h =>
                              leaf h fun e => by subst e; exact fin_ret Go.Proofs.Try.func64 mix 1000 [.unroll, .br h1, .call [(2000, 2000)] (spec_l01Next.calls h2), .br h3, .br h9, .br h14, .call [(2000, 2000)] (spec_l01Pick.calls h15), .call [(2000, 2000)] (spec_l01Next.calls h16), .br h17, .br h18] (by kernel_rfl))))
                    (fun h14 h =>
                      ifE_cases h
                        (fun h19 h =>
                          bind_cases h fun r9 h20 h =>
                          bind_cases h fun r10 h21 h =>
                          bind_cases h fun r11 h22 h =>
                          bind_cases h fun r12 h23 h =>
                          bind_cases h fun r13 h24 h =>
                          ifE_cases h
                            (fun h25 h =>
                              leaf h fun e => by subst e; exact fin_ret Go.Proofs.Try.func64 mix 1000 [.unroll, .br h1, .call [(2000, 2000)] (spec_l01Next.calls h2), .br h3, .br h9, .br h14, .br h19, .call [(2000, 2000)] (spec_l01Next.calls h20), .call [(2000, 2000)] (spec_l01Next.calls h21), .call [(2000, 2000)] (spec_l01Next.calls h22), .call [(2000, 2000)] (spec_l01Next.calls h23), .call [(2000, 2000)] (spec_l01Next.calls h24), .br h25] (by kernel_rfl))
                            (fun h25 h =>
                              ifE_cases h
                                (fun h26 h =>
                                  leaf h fun e => by subst e; exact fin_ret Go.Proofs.Try.func64 mix 1000 [.unroll, .br h1, .call [(2000, 2000)] (spec_l01Next.calls h2), .br h3, .br h9, .br h14, .br h19, .call [(2000, 2000)] (spec_l01Next.calls h20), .call [(2000, 2000)] (spec_l01Next.calls h21), .call [(2000, 2000)] (spec_l01Next.calls h22), .call [(2000, 2000)] (spec_l01Next.calls h23), .call [(2000, 2000)] (spec_l01Next.calls h24), .br h25, .br h26] (by kernel_rfl))
                                (fun h26 h =>
                                  leaf h fun e => by subst e; exact fin_ret Go.Proofs.Try.func64 mix 1000 [.unroll, .br h1, .call [(2000, 2000)] (spec_l01Next.calls h2), .br h3, .br h9, .br h14, .br h19, .call [(2000, 2000)] (spec_l01Next.calls h20), .call [(2000, 2000)] (spec_l01Next.calls h21), .call [(2000, 2000)] (spec_l01Next.calls h22), .call [(2000, 2000)] (spec_l01Next.calls h23), .call [(2000, 2000)] (spec_l01Next.calls h24), .br h25, .br h26] (by kernel_rfl))))
                        (fun h19 h =>
                          ifE_cases h
                            (fun h27 h =>
                              bind_cases h fun r14 h28 h =>
                              bind_cases h fun r15 h29 h =>
                              ifE_cases h
                                (fun h30 h =>
                                  leaf h fun e => by subst e; exact fin_ret Go.Proofs.Try.func64 mix 1000 [.unroll, .br h1, .call [(2000, 2000)] (spec_l01Next.calls h2), .br h3, .br h9, .br h14, .br h19, .br h27, .call [(2000, 2000)] (spec_l01Next.calls h28), .call [(2000, 2000)] (spec_l01Next.calls h29), .br h30] (by kernel_rfl))
                                (fun h30 h =>
                                  ifE_cases h
                                    (fun h31 h =>
                                      leaf h fun e => by subst e; exact fin_ret Go.Proofs.Try.func64 mix 1000 [.unroll, .br h1, .call [(2000, 2000)] (spec_l01Next.calls h2), .br h3, .br h9, .br h14, .br h19, .br h27, .call [(2000, 2000)] (spec_l01Next.calls h28), .call [(2000, 2000)] (spec_l01Next.calls h29), .br h30, .br h31] (by kernel_rfl))
                                    (fun h31 h =>
                                      leaf h fun e => by subst e; exact fin_ret Go.Proofs.Try.func64 mix 1000 [.unroll, .br h1, .call [(2000, 2000)] (spec_l01Next.calls h2), .br h3, .br h9, .br h14, .br h19, .br h27, .call [(2000, 2000)] (spec_l01Next.calls h28), .call [(2000, 2000)] (spec_l01Next.calls h29), .br h30, .br h31] (by kernel_rfl))))
                            (fun h27 h =>
                              bind_cases h fun r16 h32 h =>
                              ifE_cases h
                                (fun h33 h =>
                                  leaf h fun e => by subst e; exact fin_ret Go.Proofs.Try.func64 mix 1000 [.unroll, .br h1, .call [(2000, 2000)] (spec_l01Next.calls h2), .br h3, .br h9, .br h14, .br h19, .br h27, .call [(2000, 2000)] (spec_l01Next.calls h32), .br h33] (by kernel_rfl))
                                (fun h33 h =>
                                  ifE_cases h
                                    (fun h34 h =>
                                      leaf h fun e => by subst e; exact fin_ret Go.Proofs.Try.func64 mix 1000 [.unroll, .br h1, .call [(2000, 2000)] (spec_l01Next.calls h2), .br h3, .br h9, .br h14, .br h19, .br h27, .call [(2000, 2000)] (spec_l01Next.calls h32), .br h33, .br h34] (by kernel_rfl))
                                    (fun h34 h =>
                                      leaf h fun e => by subst e; exact fin_ret Go.Proofs.Try.func64 mix 1000 [.unroll, .br h1, .call [(2000, 2000)] (spec_l01Next.calls h2), .br h3, .br h9, .br h14, .br h19, .br h27, .call [(2000, 2000)] (spec_l01Next.calls h32), .br h33, .br h34] (by kernel_rfl)))))))))

theorem spec_l04Draw.calls {a0 : SLu8eiu64} {r : (Siiii × SLu8eiu64)} (h : spec_l04Draw.f a0 = some r) : Eng.Fn Go.Proofs.Try.prog 64 [.bx 2000 0] [(2000, .box [R true 1 (cK .u8) a0.c0, I a0.c1, K .u64 a0.c2])] [(2000, .box (SLu8eiu64.cells r.2))] (.ag (Siiii.cells r.1)) :=
  fn_fin Go.Proofs.Try.func64 (c := bodyOf Go.Proofs.Try.f64) (by kernel_rfl) (by kernel_rfl) <|
    fin_fin Go.Proofs.Try.func64 mix 1000 [.fin 100000 [0, 2, 3, 4] [(2000, 2000), (2, 2), (3, 3)] (spec_l04Draw.l3_ok a0 fuelN 0 a0.c0 a0.c1 a0.c2 0 0 0 0 0 0 0 0 r h)] (by kernel_rfl)

theorem spec_DrawMultiplyMatrices.calls {a0 : (List Int)} {r : (Siiii × Siiii)} (h : spec_DrawMultiplyMatrices.f a0 = some r) : Eng.Fn Go.Proofs.Try.prog 10 [R true 1 (cK .u8) a0] [] [] (.tu [.ag (Siiii.cells r.1), .ag (Siiii.cells r.2)]) :=
  fn_fin Go.Proofs.Try.func10 (c := bodyOf Go.Proofs.Try.f10) (by kernel_rfl) (by kernel_rfl) <|
    bind_cases h fun r1 h1 h =>
    bind_cases h fun r2 h2 h =>
    bind_cases h fun r3 h3 h =>
    leaf h fun e => by subst e; exact fin_ret Go.Proofs.Try.func10 mix 1000 [.call [(6, 11)] (spec_l01From.calls h1), .call [(6, 2000)] (spec_l04Draw.calls h2), .call [(6, 2000)] (spec_l04Draw.calls h3)] (by kernel_rfl)

theorem impl_within.l2_ok (k : Nat) : ∀ (v0 : Int) (v7 : (List Int)) (v8 : Int) (v9 : Int) (r : Bool), (impl_within.l2 k) v0 v7 v8 v9 = some r → Eng.Fin Go.Proofs.Try.prog 70 [] [] (B r) (itsL 2 (bodyOf Go.Proofs.Try.f70)) (mkS 23 [(0, I v0), (7, R true 1 cI v7), (8, I v8), (9, I v9)] []) := by
  induction k with
  | zero => intro v0 v7 v8 v9 r h; exact nomatch h
  | succ k ih =>
    exact fun v0 v7 v8 v9 r h =>
      ifE_cases h
        (fun h1 h =>
          bind_cases h fun e1 h2 h =>
          ifE_cases h
            (fun h3 h =>
              leaf h fun e => by subst e; exact fin_ret Go.Proofs.Try.func70 mix 1000 [.unroll, .br h1, .el (getE_el cI h2), .br h3] (by kernel_rfl))
            (fun h3 h =>
              ifE_cases h
                (fun h4 h =>
                  leaf h fun e => by subst e; exact fin_ret Go.Proofs.Try.func70 mix 1000 [.unroll, .br h1, .el (getE_el cI h2), .br h3, .br h4] (by kernel_rfl))
                (fun h4 h =>
                  fin_fin Go.Proofs.Try.func70 mix 1000 [.unroll, .br h1, .el (getE_el cI h2), .br h3, .br h4, .fin 100000 [0, 7, 8, 9] [] (ih v0 v7 v8 (W (v9 + 1)) r h)] (by kernel_rfl))))
        (fun h1 h =>
          leaf h fun e => by subst e; exact fin_ret Go.Proofs.Try.func70 mix 1000 [.unroll, .br h1] (by kernel_rfl))

theorem impl_within.calls {a0 : Int} {a1 : (List Int)} {r : Bool} (h : impl_within.f a0 a1 = some r) : Eng.Fn Go.Proofs.Try.prog 70 [I a0, R true 1 cI a1] [] [] (B r) :=
  fn_fin Go.Proofs.Try.func70 (c := bodyOf Go.Proofs.Try.f70) (by kernel_rfl) (by kernel_rfl) <|
    fin_fin Go.Proofs.Try.func70 mix 1000 [.fin 100000 [0, 7, 8, 9] [] (impl_within.l2_ok fuelN a0 a1 (a1.length : Int) 0 r h)] (by kernel_rfl)

theorem impl_determinant.calls {a0 : Siiii} {r : Int} (h : impl_determinant.f a0 = some r) : Eng.Fn Go.Proofs.Try.prog 71 [.ag (Siiii.cells a0)] [] [] (I r) :=
  fn_fin Go.Proofs.Try.func71 (c := bodyOf Go.Proofs.Try.f71) (by kernel_rfl) (by kernel_rfl) <|
    leaf h fun e => by subst e; exact fin_ret Go.Proofs.Try.func71 mix 1000 [] (by kernel_rfl)

theorem impl_IsMatrix.calls {a0 : Siiii} {r : Bool} (h : impl_IsMatrix.f a0 = some r) : Eng.Fn Go.Proofs.Try.prog 13 [.ag (Siiii.cells a0)] [] [] (B r) :=
  fn_fin Go.Proofs.Try.func13 (c := bodyOf Go.Proofs.Try.f13) (by kernel_rfl) (by kernel_rfl) <|
    bind_cases h fun r1 h1 h =>
    ifE_cases h
      (fun h2 h =>
        bind_cases h fun r2 h3 h =>
        leaf h fun e => by subst e; exact fin_ret Go.Proofs.Try.func13 mix 1000 [.call [] (impl_within.calls h1), .br h2, .call [] (impl_determinant.calls h3)] (by kernel_rfl))
      (fun h2 h =>
        leaf h fun e => by subst e; exact fin_ret Go.Proofs.Try.func13 mix 1000 [.call [] (impl_within.calls h1), .br h2] (by kernel_rfl))

theorem impl_areMatrices.l2_ok (k : Nat) : ∀ (v5 : (List Siiii)) (v6 : Int) (v7 : Int) (r : Bool), (impl_areMatrices.l2 k) v5 v6 v7 = some r → Eng.Fin Go.Proofs.Try.prog 65 [] [] (B r) (itsL 2 (bodyOf Go.Proofs.Try.f65)) (mkS 15 [(5, R true 4 Siiii.cells v5), (6, I v6), (7, I v7)] []) := by
  induction k with
  | zero => intro v5 v6 v7 r h; exact nomatch h
  | succ k ih =>
    exact fun v5 v6 v7 r h =>
      ifE_cases h
        (fun h1 h =>
          bind_cases h fun e1 h2 h =>
          bind_cases h fun r2 h3 h =>
          ifE_cases h
            (fun h4 h =>
              leaf h fun e => by subst e; exact fin_ret Go.Proofs.Try.func65 mix 1000 [.unroll, .br h1, .el (getE_el Siiii.cells h2), .call [] (impl_IsMatrix.calls h3), .br h4] (by kernel_rfl))
            (fun h4 h =>
              fin_fin Go.Proofs.Try.func65 mix 1000 [.unroll, .br h1, .el (getE_el Siiii.cells h2), .call [] (impl_IsMatrix.calls h3), .br h4, .fin 100000 [5, 6, 7] [] (ih v5 v6 (W (v7 + 1)) r h)] (by kernel_rfl)))
        (fun h1 h =>
          leaf h fun e => by subst e; exact fin_ret Go.Proofs.Try.func65 mix 1000 [.unroll, .br h1] (by kernel_rfl))

theorem impl_areMatrices.calls {a0 : (List Siiii)} {r : Bool} (h : impl_areMatrices.f a0 = some r) : Eng.Fn Go.Proofs.Try.prog 65 [R true 4 Siiii.cells a0] [] [] (B r) :=
  fn_fin Go.Proofs.Try.func65 (c := bodyOf Go.Proofs.Try.f65) (by kernel_rfl) (by kernel_rfl) <|
    fin_fin Go.Proofs.Try.func65 mix 1000 [.fin 100000 [5, 6, 7] [] (impl_areMatrices.l2_ok fuelN a0 (a0.length : Int) 0 r h)] (by kernel_rfl)

theorem impl_fittedMatrix.calls {a0 : Siiii} {a1 : Bool} {r : (Siiii × Int)} (h : impl_fittedMatrix.f a0 a1 = some r) : Eng.Fn Go.Proofs.Try.prog 66 [.ag (Siiii.cells a0), B a1] [] [] (.tu [.ag (Siiii.cells r.1), I r.2]) :=
  fn_fin Go.Proofs.Try.func66 (c := bodyOf Go.Proofs.Try.f66) (by kernel_rfl) (by kernel_rfl) <|
    ifE_cases h
      (fun h1 h =>
        leaf h fun e => by subst e; exact fin_ret Go.Proofs.Try.func66 mix 1000 [.br h1] (by kernel_rfl))
      (fun h1 h =>
        leaf h fun e => by subst e; exact fin_ret Go.Proofs.Try.func66 mix 1000 [.br h1] (by kernel_rfl))

theorem impl_gcd.l1_ok (k : Nat) : ∀ (v0 : Int) (v1 : Int) (r : Int), (impl_gcd.l1 k) v0 v1 = some r → Eng.Fin Go.Proofs.Try.prog 157 [] [] (I r) (itsL 1 (bodyOf Go.Proofs.Try.f157)) (mkS 15 [(0, I v0), (1, I v1)] []) := by
  induction k with
  | zero => intro v0 v1 r h; exact nomatch h
  | succ k ih =>
    exact fun v0 v1 r h =>
      ifE_cases h
        (fun h1 h =>
          guardE_cases h fun h2 h =>
          fin_fin Go.Proofs.Try.func157 mix 1000 [.unroll, .br h1, .nz h2, .fin 100000 [0, 1] [] (ih v1 (Int.tmod v0 v1) r h)] (by kernel_rfl))
        (fun h1 h =>
          leaf h fun e => by subst e; exact fin_ret Go.Proofs.Try.func157 mix 1000 [.unroll, .br h1] (by kernel_rfl))

theorem impl_gcd.calls {a0 : Int} {a1 : Int} {r : Int} (h : impl_gcd.f a0 a1 = some r) : Eng.Fn Go.Proofs.Try.prog 157 [I a0, I a1] [] [] (I r) :=
  fn_fin Go.Proofs.Try.func157 (c := bodyOf Go.Proofs.Try.f157) (by kernel_rfl) (by kernel_rfl) <|
    fin_fin Go.Proofs.Try.func157 mix 1000 [.fin 100000 [0, 1] [] (impl_gcd.l1_ok fuelN a0 a1 r h)] (by kernel_rfl)

theorem impl_reduced.calls {a0 : Siiii} {r : (Siiii × Bool)} (h : impl_reduced.f a0 = some r) : Eng.Fn Go.Proofs.Try.prog 104 [.ag (Siiii.cells a0)] [] [] (.tu [.ag (Siiii.cells r.1), B r.2]) :=
  fn_fin Go.Proofs.Try.func104 (c := bodyOf Go.Proofs.Try.f104) (by kernel_rfl) (by kernel_rfl) <|
    bind_cases h fun r1 h1 h =>
    bind_cases h fun r2 h2 h =>
    bind_cases h fun r3 h3 h =>
    ifE_cases h
      (fun h4 h =>
        guardE_cases h fun h5 h =>
        guardE_cases h fun h6 h =>
        guardE_cases h fun h7 h =>
        guardE_cases h fun h8 h =>
        bind_cases h fun r4 h9 h =>
        leaf h fun e => by subst e; exact fin_ret Go.Proofs.Try.func104 mix 1000 [.call [] (impl_gcd.calls h1), .call [] (impl_gcd.calls h2), .call [] (impl_gcd.calls h3), .br h4, .tidy 100000 [1, 2, 4, 40] [(1, 1), (2, 2)], .unroll, .br (c := decide ((0 : Int) < 2)) (b := true) rfl, .tidy 100000 [1, 2, 4, 5, 40, 43] [(1, 1), (2, 2)], .unroll, .br (c := decide ((0 : Int) < 2)) (b := true) rfl, .num (m := 0) rfl, .num (m := 0) rfl, .nz h5, .num (m := 0) rfl, .num (m := 0) rfl, .tidy 100000 [1, 2, 4, 5, 40, 43] [(1, 1), (2, 2)], .unroll, .br (c := decide ((1 : Int) < 2)) (b := true) rfl, .num (m := 0) rfl, .num (m := 1) rfl, .nz h6, .num (m := 0) rfl, .num (m := 1) rfl, .tidy 100000 [1, 2, 4, 5, 40, 43] [(1, 1), (2, 2)], .unroll, .br (c := decide ((2 : Int) < 2)) (b := false) rfl, .tidy 100000 [1, 2, 4, 40] [(1, 1), (2, 2)], .unroll, .br (c := decide ((1 : Int) < 2)) (b := true) rfl, .tidy 100000 [1, 2, 4, 5, 40, 43] [(1, 1), (2, 2)], .unroll, .br (c := decide ((0 : Int) < 2)) (b := true) rfl, .num (m := 1) rfl, .num (m := 0) rfl, .nz h7, .num (m := 1) rfl, .num (m := 0) rfl, .tidy 100000 [1, 2, 4, 5, 40, 43] [(1, 1), (2, 2)], .unroll, .br (c := decide ((1 : Int) < 2)) (b := true) rfl, .num (m := 1) rfl, .num (m := 1) rfl, .nz h8, .num (m := 1) rfl, .num (m := 1) rfl, .tidy 100000 [1, 2, 4, 5, 40, 43] [(1, 1), (2, 2)], .unroll, .br (c := decide ((2 : Int) < 2)) (b := false) rfl, .tidy 100000 [1, 2, 4, 40] [(1, 1), (2, 2)], .unroll, .br (c := decide ((2 : Int) < 2)) (b := false) rfl, .call [] (impl_IsMatrix.calls h9)] (by kernel_rfl))
      (fun h4 h =>
        ifE_cases h
          (fun h10 h =>
            ifE_cases h
              (fun h11 h =>
                guardE_cases h fun h12 h =>
                guardE_cases h fun h13 h =>
                guardE_cases h fun h14 h =>
                guardE_cases h fun h15 h =>
                bind_cases h fun r5 h16 h =>
                leaf h fun e => by subst e; exact fin_ret Go.Proofs.Try.func104 mix 1000 [.call [] (impl_gcd.calls h1), .call [] (impl_gcd.calls h2), .call [] (impl_gcd.calls h3), .br h4, .br h10, .br h11, .tidy 100000 [1, 2, 4, 40] [(1, 1), (2, 2)], .unroll, .br (c := decide ((0 : Int) < 2)) (b := true) rfl, .tidy 100000 [1, 2, 4, 5, 40, 43] [(1, 1), (2, 2)], .unroll, .br (c := decide ((0 : Int) < 2)) (b := true) rfl, .num (m := 0) rfl, .num (m := 0) rfl, .nz h12, .num (m := 0) rfl, .num (m := 0) rfl, .tidy 100000 [1, 2, 4, 5, 40, 43] [(1, 1), (2, 2)], .unroll, .br (c := decide ((1 : Int) < 2)) (b := true) rfl, .num (m := 0) rfl, .num (m := 1) rfl, .nz h13, .num (m := 0) rfl, .num (m := 1) rfl, .tidy 100000 [1, 2, 4, 5, 40, 43] [(1, 1), (2, 2)], .unroll, .br (c := decide ((2 : Int) < 2)) (b := false) rfl, .tidy 100000 [1, 2, 4, 40] [(1, 1), (2, 2)], .unroll, .br (c := decide ((1 : Int) < 2)) (b := true) rfl, .tidy 100000 [1, 2, 4, 5, 40, 43] [(1, 1), (2, 2)], .unroll, .br (c := decide ((0 : Int) < 2)) (b := true) rfl, .num (m := 1) rfl, .num (m := 0) rfl, .nz h14, .num (m := 1) rfl, .num (m := 0) rfl, .tidy 100000 [1, 2, 4, 5, 40, 43] [(1, 1), (2, 2)], .unroll, .br (c := decide ((1 : Int) < 2)) (b := true) rfl, .num (m := 1) rfl, .num (m := 1) rfl, .nz h15, .num (m := 1) rfl, .num (m := 1) rfl, .tidy 100000 [1, 2, 4, 5, 40, 43] [(1, 1), (2, 2)], .unroll, .br (c := decide ((2 : Int) < 2)) (b := false) rfl, .tidy 100000 [1, 2, 4, 40] [(1, 1), (2, 2)], .unroll, .br (c := decide ((2 : Int) < 2)) (b := false) rfl, .call [] (impl_IsMatrix.calls h16)] (by kernel_rfl))
              (fun h11 h =>
                guardE_cases h fun h17 h =>
                guardE_cases h fun h18 h =>
                guardE_cases h fun h19 h =>
                guardE_cases h fun h20 h =>
                bind_cases h fun r6 h21 h =>
                leaf h fun e => by subst e; exact fin_ret Go.Proofs.Try.func104 mix 1000 [.call [] (impl_gcd.calls h1), .call [] (impl_gcd.calls h2), .call [] (impl_gcd.calls h3), .br h4, .br h10, .br h11, .tidy 100000 [1, 2, 4, 40] [(1, 1), (2, 2)], .unroll, .br (c := decide ((0 : Int) < 2)) (b := true) rfl, .tidy 100000 [1, 2, 4, 5, 40, 43] [(1, 1), (2, 2)], .unroll, .br (c := decide ((0 : Int) < 2)) (b := true) rfl, .num (m := 0) rfl, .num (m := 0) rfl, .nz h17, .num (m := 0) rfl, .num (m := 0) rfl, .tidy 100000 [1, 2, 4, 5, 40, 43] [(1, 1), (2, 2)], .unroll, .br (c := decide ((1 : Int) < 2)) (b := true) rfl, .num (m := 0) rfl, .num (m := 1) rfl, .nz h18, .num (m := 0) rfl, .num (m := 1) rfl, .tidy 100000 [1, 2, 4, 5, 40, 43] [(1, 1), (2, 2)], .unroll, .br (c := decide ((2 : Int) < 2)) (b := false) rfl, .tidy 100000 [1, 2, 4, 40] [(1, 1), (2, 2)], .unroll, .br (c := decide ((1 : Int) < 2)) (b := true) rfl, .tidy 100000 [1, 2, 4, 5, 40, 43] [(1, 1), (2, 2)], .unroll, .br (c := decide ((0 : Int) < 2)) (b := true) rfl, .num (m := 1) rfl, .num (m := 0) rfl, .nz h19, .num (m := 1) rfl, .num (m := 0) rfl, .tidy 100000 [1, 2, 4, 5, 40, 43] [(1, 1), (2, 2)], .unroll, .br (c := decide ((1 : Int) < 2)) (b := true) rfl, .num (m := 1) rfl, .num (m := 1) rfl, .nz h20, .num (m := 1) rfl, .num (m := 1) rfl, .tidy 100000 [1, 2, 4, 5, 40, 43] [(1, 1), (2, 2)], .unroll, .br (c := decide ((2 : Int) < 2)) (b := false) rfl, .tidy 100000 [1, 2, 4, 40] [(1, 1), (2, 2)], .unroll, .br (c := decide ((2 : Int) < 2)) (b := false) rfl, .call [] (impl_IsMatrix.calls h21)] (by kernel_rfl)))
          (fun h10 h =>
            guardE_cases h fun h22 h =>
            guardE_cases h fun h23 h =>
            guardE_cases h fun h24 h =>
            guardE_cases h fun h25 h =>
            bind_cases h fun r7 h26 h =>
            leaf h fun e => by subst e; exact fin_ret Go.Proofs.Try.func104 mix 1000 [.call [] (impl_gcd.calls h1), .call [] (impl_gcd.calls h2), .call [] (impl_gcd.calls h3), .br h4, .br h10, .tidy 100000 [1, 2, 4, 40] [(1, 1), (2, 2)], .unroll, .br (c := decide ((0 : Int) < 2)) (b := true) rfl, .tidy 100000 [1, 2, 4, 5, 40, 43] [(1, 1), (2, 2)], .unroll, .br (c := decide ((0 : Int) < 2)) (b := true) rfl, .num (m := 0) rfl, .num (m := 0) rfl, .nz h22, .num (m := 0) rfl, .num (m := 0) rfl, .tidy 100000 [1, 2, 4, 5, 40, 43] [(1, 1), (2, 2)], .unroll, .br (c := decide ((1 : Int) < 2)) (b := true) rfl, .num (m := 0) rfl, .num (m := 1) rfl, .nz h23, .num (m := 0) rfl, .num (m := 1) rfl, .tidy 100000 [1, 2, 4, 5, 40, 43] [(1, 1), (2, 2)], .unroll, .br (c := decide ((2 : Int) < 2)) (b := false) rfl, .tidy 100000 [1, 2, 4, 40] [(1, 1), (2, 2)], .unroll, .br (c := decide ((1 : Int) < 2)) (b := true) rfl, .tidy 100000 [1, 2, 4, 5, 40, 43] [(1, 1), (2, 2)], .unroll, .br (c := decide ((0 : Int) < 2)) (b := true) rfl, .num (m := 1) rfl, .num (m := 0) rfl, .nz h24, .num (m := 1) rfl, .num (m := 0) rfl, .tidy 100000 [1, 2, 4, 5, 40, 43] [(1, 1), (2, 2)], .unroll, .br (c := decide ((1 : Int) < 2)) (b := true) rfl, .num (m := 1) rfl, .num (m := 1) rfl, .nz h25, .num (m := 1) rfl, .num (m := 1) rfl, .tidy 100000 [1, 2, 4, 5, 40, 43] [(1, 1), (2, 2)], .unroll, .br (c := decide ((2 : Int) < 2)) (b := false) rfl, .tidy 100000 [1, 2, 4, 40] [(1, 1), (2, 2)], .unroll, .br (c := decide ((2 : Int) < 2)) (b := false) rfl, .call [] (impl_IsMatrix.calls h26)] (by kernel_rfl)))

theorem impl_product.calls {a0 : Siiii} {a1 : Siiii} {r : (Siiii × Bool)} (h : impl_product.f a0 a1 = some r) : Eng.Fn Go.Proofs.Try.prog 67 [.ag (Siiii.cells a0), .ag (Siiii.cells a1)] [] [] (.tu [.ag (Siiii.cells r.1), B r.2]) :=
  fn_fin Go.Proofs.Try.func67 (c := bodyOf Go.Proofs.Try.f67) (by kernel_rfl) (by kernel_rfl) <|
    bind_cases h fun r1 h1 h =>
    leaf h fun e => by subst e; exact fin_ret Go.Proofs.Try.func67 mix 1000 [.tidy 100000 [2, 3, 4, 6, 10] [(2, 2), (3, 3), (4, 4), (6, 6)], .unroll, .br (c := decide ((0 : Int) < 2)) (b := true) rfl, .tidy 100000 [2, 3, 4, 6, 7, 10, 13] [(2, 2), (3, 3), (4, 4), (6, 6)], .unroll, .br (c := decide ((0 : Int) < 2)) (b := true) rfl, .num (m := 0) rfl, .num (m := 0) rfl, .num (m := 0) rfl, .num (m := 0) rfl, .num (m := 0) rfl, .num (m := 0) rfl, .tidy 100000 [2, 3, 4, 6, 7, 10, 13] [(2, 2), (3, 3), (4, 4), (6, 6)], .unroll, .br (c := decide ((1 : Int) < 2)) (b := true) rfl, .num (m := 0) rfl, .num (m := 1) rfl, .num (m := 0) rfl, .num (m := 1) rfl, .num (m := 0) rfl, .num (m := 1) rfl, .tidy 100000 [2, 3, 4, 6, 7, 10, 13] [(2, 2), (3, 3), (4, 4), (6, 6)], .unroll, .br (c := decide ((2 : Int) < 2)) (b := false) rfl, .tidy 100000 [2, 3, 4, 6, 10] [(2, 2), (3, 3), (4, 4), (6, 6)], .unroll, .br (c := decide ((1 : Int) < 2)) (b := true) rfl, .tidy 100000 [2, 3, 4, 6, 7, 10, 13] [(2, 2), (3, 3), (4, 4), (6, 6)], .unroll, .br (c := decide ((0 : Int) < 2)) (b := true) rfl, .num (m := 1) rfl, .num (m := 0) rfl, .num (m := 1) rfl, .num (m := 0) rfl, .num (m := 1) rfl, .num (m := 0) rfl, .tidy 100000 [2, 3, 4, 6, 7, 10, 13] [(2, 2), (3, 3), (4, 4), (6, 6)], .unroll, .br (c := decide ((1 : Int) < 2)) (b := true) rfl, .num (m := 1) rfl, .num (m := 1) rfl, .num (m := 1) rfl, .num (m := 1) rfl, .num (m := 1) rfl, .num (m := 1) rfl, .tidy 100000 [2, 3, 4, 6, 7, 10, 13] [(2, 2), (3, 3), (4, 4), (6, 6)], .unroll, .br (c := decide ((2 : Int) < 2)) (b := false) rfl, .tidy 100000 [2, 3, 4, 6, 10] [(2, 2), (3, 3), (4, 4), (6, 6)], .unroll, .br (c := decide ((2 : Int) < 2)) (b := false) rfl, .call [] (impl_reduced.calls h1)] (by kernel_rfl)

theorem impl_MultiplyMatrices.calls {a0 : Siiii} {a1 : Siiii} {r : (Siiii × Int)} (h : impl_MultiplyMatrices.f a0 a1 = some r) : Eng.Fn Go.Proofs.Try.prog 11 [.ag (Siiii.cells a0), .ag (Siiii.cells a1)] [] [] (.tu [.ag (Siiii.cells r.1), I r.2]) :=
  fn_fin Go.Proofs.Try.func11 (c := bodyOf Go.Proofs.Try.f11) (by kernel_rfl) (by kernel_rfl) <|
    bind_cases h fun r1 h1 h =>
    ifE_cases h
      (fun h2 h =>
        leaf h fun e => by subst e; exact fin_ret Go.Proofs.Try.func11 mix 1000 [.call [] (impl_areMatrices.calls h1), .br h2] (by kernel_rfl))
      (fun h2 h =>
        bind_cases h fun r2 h3 h =>
        bind_cases h fun r3 h4 h =>
        leaf h fun e => by subst e; exact fin_ret Go.Proofs.Try.func11 mix 1000 [.call [] (impl_areMatrices.calls h1), .br h2, .call [] (impl_product.calls h3), .call [] (impl_fittedMatrix.calls h4)] (by kernel_rfl))

theorem spec_l01In.calls {a0 : Int} {a1 : Int} {a2 : Int} {r : Bool} (h : spec_l01In.f a0 a1 a2 = some r) : Eng.Fn Go.Proofs.Try.prog 79 [I a0, I a1, I a2] [] [] (B r) :=
  fn_fin Go.Proofs.Try.func79 (c := bodyOf Go.Proofs.Try.f79) (by kernel_rfl) (by kernel_rfl) <|
    ifE_cases h
      (fun h1 h =>
        leaf h fun e => by subst e; exact fin_ret Go.Proofs.Try.func79 mix 1000 [.br h1] (by kernel_rfl))
      (fun h1 h =>
        leaf h fun e => by subst e; exact fin_ret Go.Proofs.Try.func79 mix 1000 [.br h1] (by kernel_rfl))

theorem spec_l04Is.l5_ok (rec2 : Int → Int → Int → Int → Int → Option Bool) (rec2H : ∀ (v3 : Int) (o1_0 : Int) (o1_1 : Int) (o1_2 : Int) (o1_3 : Int) (r : Bool), rec2 v3 o1_0 o1_1 o1_2 o1_3 = some r → Eng.Fin Go.Proofs.Try.prog 68 [] [] (B r) (itsL 2 (bodyOf Go.Proofs.Try.f68)) (mkS 23 [(1, .bx 1 0), (3, I v3)] [(1, .box [I o1_0, I o1_1, I o1_2, I o1_3])])) (k : Nat) : ∀ (v3 : Int) (v4 : Int) (o1_0 : Int) (o1_1 : Int) (o1_2 : Int) (o1_3 : Int) (r : Bool), (spec_l04Is.l5 rec2 k) v3 v4 o1_0 o1_1 o1_2 o1_3 = some r → Eng.Fin Go.Proofs.Try.prog 68 [] [] (B r) (itsL 5 (bodyOf Go.Proofs.Try.f68)) (mkS 23 [(1, .bx 1 0), (3, I v3), (4, I v4)] [(1, .box [I o1_0, I o1_1, I o1_2, I o1_3])]) := by
  induction k with
  | zero => intro v3 v4 o1_0 o1_1 o1_2 o1_3 r h; exact nomatch h
  | succ k ih =>
    exact fun v3 v4 o1_0 o1_1 o1_2 o1_3 r h =>
      ifE_cases h
        (fun h1 h =>
          ifE_cases h
            (fun h2 h =>
              ifE_cases h
                (fun h3 h =>
                  bind_cases h fun r2 h4 h =>
                  ifE_cases h
                    (fun h5 h =>
                      leaf h fun e => by subst e; exact fin_ret Go.Proofs.Try.func68 mix 1000 [.unroll, .br h1, .num (eq_of h2), .num (eq_of h3), .call [] (spec_l01In.calls h4), .br h5] (by kernel_rfl))
                    (fun h5 h =>
                      fin_fin Go.Proofs.Try.func68 mix 1000 [.unroll, .br h1, .num (eq_of h2), .num (eq_of h3), .call [] (spec_l01In.calls h4), .br h5, .fin 100000 [1, 3, 4] [(1, 1)] (ih v3 (W (v4 + 1)) o1_0 o1_1 o1_2 o1_3 r h)] (by kernel_rfl)))
                (fun h3 h =>
                  ifE_cases h
                    (fun h6 h =>
                      bind_cases h fun r3 h7 h =>
                      ifE_cases h
                        (fun h8 h =>
                          leaf h fun e => by subst e; exact fin_ret Go.Proofs.Try.func68 mix 1000 [.unroll, .br h1, .num (eq_of h2), .num (eq_of h6), .call [] (spec_l01In.calls h7), .br h8] (by kernel_rfl))
                        (fun h8 h =>
                          fin_fin Go.Proofs.Try.func68 mix 1000 [.unroll, .br h1, .num (eq_of h2), .num (eq_of h6), .call [] (spec_l01In.calls h7), .br h8, .fin 100000 [1, 3, 4] [(1, 1)] (ih v3 (W (v4 + 1)) o1_0 o1_1 o1_2 o1_3 r h)] (by kernel_rfl)))
                    (fun h6 h =>
                      nomatch h)))
            (fun h2 h =>
              ifE_cases h
                (fun h9 h =>
                  ifE_cases h
                    (fun h10 h =>
                      bind_cases h fun r4 h11 h =>
                      ifE_cases h
                        (fun h12 h =>
                          leaf h fun e => by subst e; exact fin_ret Go.Proofs.Try.func68 mix 1000 [.unroll, .br h1, .num (eq_of h9), .num (eq_of h10), .call [] (spec_l01In.calls h11), .br h12] (by kernel_rfl))
                        (fun h12 h =>
                          fin_fin Go.Proofs.Try.func68 mix 1000 [.unroll, .br h1, .num (eq_of h9), .num (eq_of h10), .call [] (spec_l01In.calls h11), .br h12, .fin 100000 [1, 3, 4] [(1, 1)] (ih v3 (W (v4 + 1)) o1_0 o1_1 o1_2 o1_3 r h)] (by kernel_rfl)))
                    (fun h10 h =>
                      ifE_cases h
                        (fun h13 h =>
                          bind_cases h fun r5 h14 h =>
                          ifE_cases h
                            (fun h15 h =>
                              leaf h fun e => by subst e; exact fin_ret Go.Proofs.Try.func68 mix 1000 [.unroll, .br h1, .num (eq_of h9), .num (eq_of h13), .call [] (spec_l01In.calls h14), .br h15] (by kernel_rfl))
                            (fun h15 h =>
                              fin_fin Go.Proofs.Try.func68 mix 1000 [.unroll, .br h1, .num (eq_of h9), .num (eq_of h13), .call [] (spec_l01In.calls h14), .br h15, .fin 100000 [1, 3, 4] [(1, 1)] (ih v3 (W (v4 + 1)) o1_0 o1_1 o1_2 o1_3 r h)] (by kernel_rfl)))
                        (fun h13 h =>
                          nomatch h)))
                (fun h9 h =>
                  nomatch h)))
        (fun h1 h =>
          fin_fin Go.Proofs.Try.func68 mix 1000 [.unroll, .br h1, .fin 100000 [1, 3] [(1, 1)] (rec2H (W (v3 + 1)) o1_0 o1_1 o1_2 o1_3 r h)] (by kernel_rfl))

theorem spec_l04Is.l2_ok (k : Nat) : ∀ (v3 : Int) (o1_0 : Int) (o1_1 : Int) (o1_2 : Int) (o1_3 : Int) (r : Bool), (spec_l04Is.l2 k) v3 o1_0 o1_1 o1_2 o1_3 = some r → Eng.Fin Go.Proofs.Try.prog 68 [] [] (B r) (itsL 2 (bodyOf Go.Proofs.Try.f68)) (mkS 23 [(1, .bx 1 0), (3, I v3)] [(1, .box [I o1_0, I o1_1, I o1_2, I o1_3])]) := by
  induction k with
  | zero => intro v3 o1_0 o1_1 o1_2 o1_3 r h; exact nomatch h
  | succ k ih =>
    exact fun v3 o1_0 o1_1 o1_2 o1_3 r h =>
      ifE_cases h
        (fun h1 h =>
          fin_fin Go.Proofs.Try.func68 mix 1000 [.unroll, .br h1, .fin 100000 [1, 3, 4] [(1, 1)] (spec_l04Is.l5_ok (spec_l04Is.l2 k) ih fuelN v3 0 o1_0 o1_1 o1_2 o1_3 r h)] (by kernel_rfl))
        (fun h1 h =>
          bind_cases h fun r1 h2 h =>
          leaf h fun e => by subst e; exact fin_ret Go.Proofs.Try.func68 mix 1000 [.unroll, .br h1, .call [] (spec_l04Det.calls h2)] (by kernel_rfl))

theorem spec_l04Is.calls {a0 : Siiii} {r : Bool} (h : spec_l04Is.f a0 = some r) : Eng.Fn Go.Proofs.Try.prog 68 [.ag (Siiii.cells a0)] [] [] (B r) :=
  fn_fin Go.Proofs.Try.func68 (c := bodyOf Go.Proofs.Try.f68) (by kernel_rfl) (by kernel_rfl) <|
    fin_fin Go.Proofs.Try.func68 mix 1000 [.fin 100000 [1, 3] [(1, 1)] (spec_l04Is.l2_ok fuelN 0 a0.c0 a0.c1 a0.c2 a0.c3 r h)] (by kernel_rfl)

theorem spec_l01Gcd.l1_ok (k : Nat) : ∀ (v0 : Int) (v1 : Int) (r : Int), (spec_l01Gcd.l1 k) v0 v1 = some r → Eng.Fin Go.Proofs.Try.prog 140 [] [] (I r) (itsL 1 (bodyOf Go.Proofs.Try.f140)) (mkS 17 [(0, I v0), (1, I v1)] []) := by
  induction k with
  | zero => intro v0 v1 r h; exact nomatch h
  | succ k ih =>
    exact fun v0 v1 r h =>
      ifE_cases h
        (fun h1 h =>
          guardE_cases h fun h2 h =>
          fin_fin Go.Proofs.Try.func140 mix 1000 [.unroll, .br h1, .nz h2, .fin 100000 [0, 1] [] (ih v1 (Int.tmod v0 v1) r h)] (by kernel_rfl))
        (fun h1 h =>
          leaf h fun e => by subst e; exact fin_ret Go.Proofs.Try.func140 mix 1000 [.unroll, .br h1] (by kernel_rfl))

theorem spec_l01Gcd.calls {a0 : Int} {a1 : Int} {r : Int} (h : spec_l01Gcd.f a0 a1 = some r) : Eng.Fn Go.Proofs.Try.prog 140 [I a0, I a1] [] [] (I r) :=
  fn_fin Go.Proofs.Try.func140 (c := bodyOf Go.Proofs.Try.f140) (by kernel_rfl) (by kernel_rfl) <|
    fin_fin Go.Proofs.Try.func140 mix 1000 [.fin 100000 [0, 1] [] (spec_l01Gcd.l1_ok fuelN a0 a1 r h)] (by kernel_rfl)

theorem spec_l04Reduce.l12_ok (k : Nat) : ∀ (v5 : Int) (v6 : Int) (v8 : Bool) (v9 : Int) (o2_0 : Int) (o2_1 : Int) (o2_2 : Int) (o2_3 : Int) (o1004 : (List Int)) (r : (Siiii × Bool)), (spec_l04Reduce.l12 k) v5 v6 v8 v9 o2_0 o2_1 o2_2 o2_3 o1004 = some r → Eng.Fin Go.Proofs.Try.prog 74 [] [] (.tu [.ag (Siiii.cells r.1), B r.2]) (itsL 12 (bodyOf Go.Proofs.Try.f74)) (mkS 106 [(2, .bx 2 0), (4, .ow 1004), (5, I v5), (6, I v6), (8, B v8), (9, I v9)] [(2, .box [I o2_0, I o2_1, I o2_2, I o2_3]), (1004, Row true 2 1 cI o1004)]) := by
  induction k with
  | zero => intro v5 v6 v8 v9 o2_0 o2_1 o2_2 o2_3 o1004 r h; exact nomatch h
  | succ k ih =>
    exact fun v5 v6 v8 v9 o2_0 o2_1 o2_2 o2_3 o1004 r h =>
      ifE_cases h
        (fun h1 h =>
          bind_cases h fun e8 h2 h =>
          guardE_cases h fun h3 h =>
          bind_cases h fun e9 h4 h =>
          ifE_cases h
            (fun h5 h =>
              bind_cases h fun e10 h6 h =>
              bind_cases h fun r11 h7 h =>
              fin_fin Go.Proofs.Try.func74 mix 1000 [.unroll, .br h1, .ib (getE_ib h2), .el (getE_pw cI h2), .nz h3, .ib (getE_ib h4), .el (getE_pw cI h4), .upd (set_of cI o1004 (Int.toNat v9) (W ((W (Int.tdiv e8 v5)) * v6))), .br h5, .ib (getE_ib h6), .el (getE_pw cI h6), .call [] (spec_l01In.calls h7), .fin 100000 [2, 4, 5, 6, 8, 9] [(2, 2), (1004, 1004)] (ih v5 v6 r11 (W (v9 + 1)) o2_0 o2_1 o2_2 o2_3 (o1004.set (Int.toNat v9) (W ((W (Int.tdiv e8 v5)) * v6))) r h)] (by kernel_rfl))
            (fun h5 h =>
              fin_fin Go.Proofs.Try.func74 mix 1000 [.unroll, .br h1, .ib (getE_ib h2), .el (getE_pw cI h2), .nz h3, .ib (getE_ib h4), .el (getE_pw cI h4), .upd (set_of cI o1004 (Int.toNat v9) (W ((W (Int.tdiv e8 v5)) * v6))), .br h5, .fin 100000 [2, 4, 5, 6, 8, 9] [(2, 2), (1004, 1004)] (ih v5 v6 false (W (v9 + 1)) o2_0 o2_1 o2_2 o2_3 (o1004.set (Int.toNat v9) (W ((W (Int.tdiv e8 v5)) * v6))) r h)] (by kernel_rfl)))
        (fun h1 h =>
          bind_cases h fun e12 h8 h =>
          bind_cases h fun e13 h9 h =>
          bind_cases h fun e14 h10 h =>
          bind_cases h fun e15 h11 h =>
          leaf h fun e => by subst e; exact fin_ret Go.Proofs.Try.func74 mix 1000 [.unroll, .br h1, .ib (getE_ib h8), .el (getE_pw cI h8), .ib (getE_ib h9), .el (getE_pw cI h9), .ib (getE_ib h10), .el (getE_pw cI h10), .ib (getE_ib h11), .el (getE_pw cI h11)] (by kernel_rfl))

theorem spec_l04Reduce.l4_ok (k : Nat) : ∀ (v5 : Int) (v6 : Int) (v7 : Int) (o2_0 : Int) (o2_1 : Int) (o2_2 : Int) (o2_3 : Int) (o1004 : (List Int)) (r : (Siiii × Bool)), (spec_l04Reduce.l4 k) v5 v6 v7 o2_0 o2_1 o2_2 o2_3 o1004 = some r → Eng.Fin Go.Proofs.Try.prog 74 [] [] (.tu [.ag (Siiii.cells r.1), B r.2]) (itsL 4 (bodyOf Go.Proofs.Try.f74)) (mkS 106 [(2, .bx 2 0), (4, .ow 1004), (5, I v5), (6, I v6), (7, I v7)] [(2, .box [I o2_0, I o2_1, I o2_2, I o2_3]), (1004, Row true 2 1 cI o1004)]) := by
  induction k with
  | zero => intro v5 v6 v7 o2_0 o2_1 o2_2 o2_3 o1004 r h; exact nomatch h
  | succ k ih =>
    exact fun v5 v6 v7 o2_0 o2_1 o2_2 o2_3 o1004 r h =>
      ifE_cases h
        (fun h1 h =>
          bind_cases h fun e1 h2 h =>
          bind_cases h fun e2 h3 h =>
          bind_cases h fun r3 h4 h =>
          ifE_cases h
            (fun h5 h =>
              bind_cases h fun e4 h6 h =>
              ifE_cases h
                (fun h7 h =>
                  bind_cases h fun e5 h8 h =>
                  bind_cases h fun e6 h9 h =>
                  bind_cases h fun e7 h10 h =>
                  guardE_cases h fun h11 h =>
                  fin_fin Go.Proofs.Try.func74 mix 1000 [.unroll, .br h1, .ib (getE_ib h2), .el (getE_pw cI h2), .ib (getE_ib h3), .el (getE_pw cI h3), .call [] (spec_l01Gcd.calls h4), .br h5, .ib (getE_ib h6), .el (getE_pw cI h6), .br h7, .ib (getE_ib h8), .el (getE_pw cI h8), .ib (getE_ib h9), .el (getE_pw cI h9), .ib (getE_ib h10), .el (getE_pw cI h10), .nz h11, .fin 100000 [2, 4, 5, 6, 7] [(2, 2), (1004, 1004)] (ih r3 (W (Int.tdiv e5 (imax e6 (W (0 - e7))))) (W (v7 + 1)) o2_0 o2_1 o2_2 o2_3 o1004 r h)] (by kernel_rfl))
                (fun h7 h =>
                  fin_fin Go.Proofs.Try.func74 mix 1000 [.unroll, .br h1, .ib (getE_ib h2), .el (getE_pw cI h2), .ib (getE_ib h3), .el (getE_pw cI h3), .call [] (spec_l01Gcd.calls h4), .br h5, .ib (getE_ib h6), .el (getE_pw cI h6), .br h7, .fin 100000 [2, 4, 5, 6, 7] [(2, 2), (1004, 1004)] (ih r3 v6 (W (v7 + 1)) o2_0 o2_1 o2_2 o2_3 o1004 r h)] (by kernel_rfl)))
            (fun h5 h =>
              fin_fin Go.Proofs.Try.func74 mix 1000 [.unroll, .br h1, .ib (getE_ib h2), .el (getE_pw cI h2), .ib (getE_ib h3), .el (getE_pw cI h3), .call [] (spec_l01Gcd.calls h4), .br h5, .fin 100000 [2, 4, 5, 6, 7] [(2, 2), (1004, 1004)] (ih r3 v6 (W (v7 + 1)) o2_0 o2_1 o2_2 o2_3 o1004 r h)] (by kernel_rfl)))
        (fun h1 h =>
          fin_fin Go.Proofs.Try.func74 mix 1000 [.unroll, .br h1, .fin 100000 [2, 4, 5, 6, 8, 9] [(2, 2), (1004, 1004)] (spec_l04Reduce.l12_ok fuelN (imax v5 (W (0 - v5))) v6 true 0 o2_0 o2_1 o2_2 o2_3 o1004 r h)] (by kernel_rfl))

theorem spec_l04Reduce.calls {a0 : Siiii} {r : (Siiii × Bool)} (h : spec_l04Reduce.f a0 = some r) : Eng.Fn Go.Proofs.Try.prog 74 [.ag (Siiii.cells a0)] [] [] (.tu [.ag (Siiii.cells r.1), B r.2]) :=
  fn_fin Go.Proofs.Try.func74 (c := bodyOf Go.Proofs.Try.f74) (by kernel_rfl) (by kernel_rfl) <|
    fin_fin Go.Proofs.Try.func74 mix 1000 [.fin 100000 [2, 4, 5, 6, 7] [(2, 2), (22, 1004)] (spec_l04Reduce.l4_ok fuelN 0 0 0 0 0 0 0 [a0.c0, a0.c1, a0.c2, a0.c3] r h)] (by kernel_rfl)

theorem spec_l04Times.l6_ok (rec3 : Int → Int → Int → Int → Int → Int → Int → Int → Int → Int → Int → Int → Int → Int → Int → Int → Int → Option (Siiii × Bool)) (rec3H : ∀ (v7 : Int) (o2_0 : Int) (o2_1 : Int) (o2_2 : Int) (o2_3 : Int) (o3_0 : Int) (o3_1 : Int) (o3_2 : Int) (o3_3 : Int) (o4_0 : Int) (o4_1 : Int) (o4_2 : Int) (o4_3 : Int) (o6_0 : Int) (o6_1 : Int) (o6_2 : Int) (o6_3 : Int) (r : (Siiii × Bool)), rec3 v7 o2_0 o2_1 o2_2 o2_3 o3_0 o3_1 o3_2 o3_3 o4_0 o4_1 o4_2 o4_3 o6_0 o6_1 o6_2 o6_3 = some r → Eng.Fin Go.Proofs.Try.prog 69 [] [] (.tu [.ag (Siiii.cells r.1), B r.2]) (itsL 3 (bodyOf Go.Proofs.Try.f69)) (mkS 50 [(2, .bx 2 0), (3, .bx 3 0), (4, .bx 4 0), (6, .bx 6 0), (7, I v7)] [(2, .box [I o2_0, I o2_1, I o2_2, I o2_3]), (3, .box [I o3_0, I o3_1, I o3_2, I o3_3]), (4, .box [I o4_0, I o4_1, I o4_2, I o4_3]), (6, .box [I o6_0, I o6_1, I o6_2, I o6_3])])) (k : Nat) : ∀ (v7 : Int) (v8 : Int) (o2_0 : Int) (o2_1 : Int) (o2_2 : Int) (o2_3 : Int) (o3_0 : Int) (o3_1 : Int) (o3_2 : Int) (o3_3 : Int) (o4_0 : Int) (o4_1 : Int) (o4_2 : Int) (o4_3 : Int) (o6_0 : Int) (o6_1 : Int) (o6_2 : Int) (o6_3 : Int) (r : (Siiii × Bool)), (spec_l04Times.l6 rec3 k) v7 v8 o2_0 o2_1 o2_2 o2_3 o3_0 o3_1 o3_2 o3_3 o4_0 o4_1 o4_2 o4_3 o6_0 o6_1 o6_2 o6_3 = some r → Eng.Fin Go.Proofs.Try.prog 69 [] [] (.tu [.ag (Siiii.cells r.1), B r.2]) (itsL 6 (bodyOf Go.Proofs.Try.f69)) (mkS 50 [(2, .bx 2 0), (3, .bx 3 0), (4, .bx 4 0), (6, .bx 6 0), (7, I v7), (8, I v8)] [(2, .box [I o2_0, I o2_1, I o2_2, I o2_3]), (3, .box [I o3_0, I o3_1, I o3_2, I o3_3]), (4, .box [I o4_0, I o4_1, I o4_2, I o4_3]), (6, .box [I o6_0, I o6_1, I o6_2, I o6_3])]) := by
  induction k with
  | zero => intro v7 v8 o2_0 o2_1 o2_2 o2_3 o3_0 o3_1 o3_2 o3_3 o4_0 o4_1 o4_2 o4_3 o6_0 o6_1 o6_2 o6_3 r h; exact nomatch h
  | succ k ih =>
    exact fun v7 v8 o2_0 o2_1 o2_2 o2_3 o3_0 o3_1 o3_2 o3_3 o4_0 o4_1 o4_2 o4_3 o6_0 o6_1 o6_2 o6_3 r h =>
      ifE_cases h
        (fun h1 h =>
          ifE_cases h
            (fun h2 h =>
              ifE_cases h
                (fun h3 h =>
                  fin_fin Go.Proofs.Try.func69 mix 1000 [.unroll, .br h1, .num (eq_of h2), .num (eq_of h3), .num (eq_of h2), .num (eq_of h3), .num (eq_of h2), .num (eq_of h3), .fin 100000 [2, 3, 4, 6, 7, 8] [(2, 2), (3, 3), (4, 4), (6, 6)] (ih v7 (W (v8 + 1)) o2_0 o2_1 o2_2 o2_3 o3_0 o3_1 o3_2 o3_3 o4_0 o4_1 o4_2 o4_3 (W ((W (o2_0 * o3_0)) + (W (o2_1 * o3_2)))) o6_1 o6_2 o6_3 r h)] (by kernel_rfl))
                (fun h3 h =>
                  ifE_cases h
                    (fun h4 h =>
                      fin_fin Go.Proofs.Try.func69 mix 1000 [.unroll, .br h1, .num (eq_of h2), .num (eq_of h4), .num (eq_of h2), .num (eq_of h4), .num (eq_of h2), .num (eq_of h4), .fin 100000 [2, 3, 4, 6, 7, 8] [(2, 2), (3, 3), (4, 4), (6, 6)] (ih v7 (W (v8 + 1)) o2_0 o2_1 o2_2 o2_3 o3_0 o3_1 o3_2 o3_3 o4_0 o4_1 o4_2 o4_3 o6_0 (W ((W (o2_0 * o3_1)) + (W (o2_1 * o3_3)))) o6_2 o6_3 r h)] (by kernel_rfl))
                    (fun h4 h =>
                      nomatch h)))
            (fun h2 h =>
              ifE_cases h
                (fun h5 h =>
                  ifE_cases h
                    (fun h6 h =>
                      fin_fin Go.Proofs.Try.func69 mix 1000 [.unroll, .br h1, .num (eq_of h5), .num (eq_of h6), .num (eq_of h5), .num (eq_of h6), .num (eq_of h5), .num (eq_of h6), .fin 100000 [2, 3, 4, 6, 7, 8] [(2, 2), (3, 3), (4, 4), (6, 6)] (ih v7 (W (v8 + 1)) o2_0 o2_1 o2_2 o2_3 o3_0 o3_1 o3_2 o3_3 o4_0 o4_1 o4_2 o4_3 o6_0 o6_1 (W ((W (o2_2 * o3_0)) + (W (o2_3 * o3_2)))) o6_3 r h)] (by kernel_rfl))
                    (fun h6 h =>
                      ifE_cases h
                        (fun h7 h =>
                          fin_fin Go.Proofs.Try.func69 mix 1000 [.unroll, .br h1, .num (eq_of h5), .num (eq_of h7), .num (eq_of h5), .num (eq_of h7), .num (eq_of h5), .num (eq_of h7), .fin 100000 [2, 3, 4, 6, 7, 8] [(2, 2), (3, 3), (4, 4), (6, 6)] (ih v7 (W (v8 + 1)) o2_0 o2_1 o2_2 o2_3 o3_0 o3_1 o3_2 o3_3 o4_0 o4_1 o4_2 o4_3 o6_0 o6_1 o6_2 (W ((W (o2_2 * o3_1)) + (W (o2_3 * o3_3)))) r h)] (by kernel_rfl))
                        (fun h7 h =>
                          nomatch h)))
                (fun h5 h =>
                  nomatch h)))
        (fun h1 h =>
          fin_fin Go.Proofs.Try.func69 mix 1000 [.unroll, .br h1, .fin 100000 [2, 3, 4, 6, 7] [(2, 2), (3, 3), (4, 4), (6, 6)] (rec3H (W (v7 + 1)) o2_0 o2_1 o2_2 o2_3 o3_0 o3_1 o3_2 o3_3 o4_0 o4_1 o4_2 o4_3 o6_0 o6_1 o6_2 o6_3 r h)] (by kernel_rfl))

theorem spec_l04Times.l3_ok (k : Nat) : ∀ (v7 : Int) (o2_0 : Int) (o2_1 : Int) (o2_2 : Int) (o2_3 : Int) (o3_0 : Int) (o3_1 : Int) (o3_2 : Int) (o3_3 : Int) (o4_0 : Int) (o4_1 : Int) (o4_2 : Int) (o4_3 : Int) (o6_0 : Int) (o6_1 : Int) (o6_2 : Int) (o6_3 : Int) (r : (Siiii × Bool)), (spec_l04Times.l3 k) v7 o2_0 o2_1 o2_2 o2_3 o3_0 o3_1 o3_2 o3_3 o4_0 o4_1 o4_2 o4_3 o6_0 o6_1 o6_2 o6_3 = some r → Eng.Fin Go.Proofs.Try.prog 69 [] [] (.tu [.ag (Siiii.cells r.1), B r.2]) (itsL 3 (bodyOf Go.Proofs.Try.f69)) (mkS 50 [(2, .bx 2 0), (3, .bx 3 0), (4, .bx 4 0), (6, .bx 6 0), (7, I v7)] [(2, .box [I o2_0, I o2_1, I o2_2, I o2_3]), (3, .box [I o3_0, I o3_1, I o3_2, I o3_3]), (4, .box [I o4_0, I o4_1, I o4_2, I o4_3]), (6, .box [I o6_0, I o6_1, I o6_2, I o6_3])]) := by
  induction k with
  | zero => intro v7 o2_0 o2_1 o2_2 o2_3 o3_0 o3_1 o3_2 o3_3 o4_0 o4_1 o4_2 o4_3 o6_0 o6_1 o6_2 o6_3 r h; exact nomatch h
  | succ k ih =>
    exact fun v7 o2_0 o2_1 o2_2 o2_3 o3_0 o3_1 o3_2 o3_3 o4_0 o4_1 o4_2 o4_3 o6_0 o6_1 o6_2 o6_3 r h =>
      ifE_cases h
        (fun h1 h =>
          fin_fin Go.Proofs.Try.func69 mix 1000 [.unroll, .br h1, .fin 100000 [2, 3, 4, 6, 7, 8] [(2, 2), (3, 3), (4, 4), (6, 6)] (spec_l04Times.l6_ok (spec_l04Times.l3 k) ih fuelN v7 0 o2_0 o2_1 o2_2 o2_3 o3_0 o3_1 o3_2 o3_3 o4_0 o4_1 o4_2 o4_3 o6_0 o6_1 o6_2 o6_3 r h)] (by kernel_rfl))
        (fun h1 h =>
          bind_cases h fun r1 h2 h =>
          leaf h fun e => by subst e; exact fin_ret Go.Proofs.Try.func69 mix 1000 [.unroll, .br h1, .call [] (spec_l04Reduce.calls h2)] (by kernel_rfl))

theorem spec_l04Times.calls {a0 : Siiii} {a1 : Siiii} {r : (Siiii × Bool)} (h : spec_l04Times.f a0 a1 = some r) : Eng.Fn Go.Proofs.Try.prog 69 [.ag (Siiii.cells a0), .ag (Siiii.cells a1)] [] [] (.tu [.ag (Siiii.cells r.1), B r.2]) :=
  fn_fin Go.Proofs.Try.func69 (c := bodyOf Go.Proofs.Try.f69) (by kernel_rfl) (by kernel_rfl) <|
    fin_fin Go.Proofs.Try.func69 mix 1000 [.fin 100000 [2, 3, 4, 6, 7] [(2, 2), (3, 3), (4, 4), (6, 6)] (spec_l04Times.l3_ok fuelN 0 a0.c0 a0.c1 a0.c2 a0.c3 a1.c0 a1.c1 a1.c2 a1.c3 0 0 0 0 0 0 0 0 r h)] (by kernel_rfl)

theorem spec_MultiplyMatrices.calls {a0 : Siiii} {a1 : Siiii} {r : (Siiii × Int)} (h : spec_MultiplyMatrices.f a0 a1 = some r) : Eng.Fn Go.Proofs.Try.prog 12 [.ag (Siiii.cells a0), .ag (Siiii.cells a1)] [] [] (.tu [.ag (Siiii.cells r.1), I r.2]) :=
  fn_fin Go.Proofs.Try.func12 (c := bodyOf Go.Proofs.Try.f12) (by kernel_rfl) (by kernel_rfl) <|
    bind_cases h fun r1 h1 h =>
    ifE_cases h
      (fun h2 h =>
        leaf h fun e => by subst e; exact fin_ret Go.Proofs.Try.func12 mix 1000 [.call [] (spec_l04Is.calls h1), .br h2] (by kernel_rfl))
      (fun h2 h =>
        bind_cases h fun r2 h3 h =>
        ifE_cases h
          (fun h4 h =>
            leaf h fun e => by subst e; exact fin_ret Go.Proofs.Try.func12 mix 1000 [.call [] (spec_l04Is.calls h1), .br h2, .call [] (spec_l04Is.calls h3), .br h4] (by kernel_rfl))
          (fun h4 h =>
            bind_cases h fun r3 h5 h =>
            ifE_cases h
              (fun h6 h =>
                leaf h fun e => by subst e; exact fin_ret Go.Proofs.Try.func12 mix 1000 [.call [] (spec_l04Is.calls h1), .br h2, .call [] (spec_l04Is.calls h3), .br h4, .call [] (spec_l04Times.calls h5), .br h6] (by kernel_rfl))
              (fun h6 h =>
                leaf h fun e => by subst e; exact fin_ret Go.Proofs.Try.func12 mix 1000 [.call [] (spec_l04Is.calls h1), .br h2, .call [] (spec_l04Is.calls h3), .br h4, .call [] (spec_l04Times.calls h5), .br h6] (by kernel_rfl))))

theorem spec_IsMatrix.calls {a0 : Siiii} {r : Bool} (h : spec_IsMatrix.f a0 = some r) : Eng.Fn Go.Proofs.Try.prog 14 [.ag (Siiii.cells a0)] [] [] (B r) :=
  fn_fin Go.Proofs.Try.func14 (c := bodyOf Go.Proofs.Try.f14) (by kernel_rfl) (by kernel_rfl) <|
    bind_cases h fun r1 h1 h =>
    leaf h fun e => by subst e; exact fin_ret Go.Proofs.Try.func14 mix 1000 [.call [] (spec_l04Is.calls h1)] (by kernel_rfl)

theorem spec_DrawReduceMatrix.l6_ok (k : Nat) : ∀ (v5 : Int) (v6 : Int) (o2_0 : Int) (o2_1 : Int) (o2_2 : Int) (o2_3 : Int) (o4_0 : Int) (o4_1 : Int) (o4_2 : Int) (o4_3 : Int) (r : Siiii), (spec_DrawReduceMatrix.l6 k) v5 v6 o2_0 o2_1 o2_2 o2_3 o4_0 o4_1 o4_2 o4_3 = some r → Eng.Fin Go.Proofs.Try.prog 15 [] [] (.ag (Siiii.cells r)) (itsL 6 (bodyOf Go.Proofs.Try.f15)) (mkS 36 [(2, .bx 2 0), (4, .bx 4 0), (5, I v5), (6, I v6)] [(2, .box [I o2_0, I o2_1, I o2_2, I o2_3]), (4, .box [I o4_0, I o4_1, I o4_2, I o4_3])]) := by
  induction k with
  | zero => intro v5 v6 o2_0 o2_1 o2_2 o2_3 o4_0 o4_1 o4_2 o4_3 r h; exact nomatch h
  | succ k ih =>
    exact fun v5 v6 o2_0 o2_1 o2_2 o2_3 o4_0 o4_1 o4_2 o4_3 r h =>
      ifE_cases h
        (fun h1 h =>
          ifE_cases h
            (fun h2 h =>
              ifE_cases h
                (fun h3 h =>
                  fin_fin Go.Proofs.Try.func15 mix 1000 [.unroll, .br h1, .nz (y := 2) (by decide), .nz (y := 2) (by decide), .nz (y := 2) (by decide), .nz (y := 2) (by decide), .num (eq_of h2), .num (eq_of h3), .num (eq_of h2), .num (eq_of h3), .fin 100000 [2, 4, 5, 6] [(2, 2), (4, 4)] (ih v5 (W (v6 + 1)) o2_0 o2_1 o2_2 o2_3 (W (o4_0 * v5)) o4_1 o4_2 o4_3 r h)] (by kernel_rfl))
                (fun h3 h =>
                  ifE_cases h
                    (fun h4 h =>
                      fin_fin Go.Proofs.Try.func15 mix 1000 [.unroll, .br h1, .nz (y := 2) (by decide), .nz (y := 2) (by decide), .nz (y := 2) (by decide), .nz (y := 2) (by decide), .num (eq_of h2), .num (eq_of h4), .num (eq_of h2), .num (eq_of h4), .fin 100000 [2, 4, 5, 6] [(2, 2), (4, 4)] (ih v5 (W (v6 + 1)) o2_0 o2_1 o2_2 o2_3 o4_0 (W (o4_1 * v5)) o4_2 o4_3 r h)] (by kernel_rfl))
                    (fun h4 h =>
                      nomatch h)))
            (fun h2 h =>
              ifE_cases h
                (fun h5 h =>
                  ifE_cases h
                    (fun h6 h =>
                      fin_fin Go.Proofs.Try.func15 mix 1000 [.unroll, .br h1, .nz (y := 2) (by decide), .nz (y := 2) (by decide), .nz (y := 2) (by decide), .nz (y := 2) (by decide), .num (eq_of h5), .num (eq_of h6), .num (eq_of h5), .num (eq_of h6), .fin 100000 [2, 4, 5, 6] [(2, 2), (4, 4)] (ih v5 (W (v6 + 1)) o2_0 o2_1 o2_2 o2_3 o4_0 o4_1 (W (o4_2 * v5)) o4_3 r h)] (by kernel_rfl))
                    (fun h6 h =>
                      ifE_cases h
                        (fun h7 h =>
                          fin_fin Go.Proofs.Try.func15 mix 1000 [.unroll, .br h1, .nz (y := 2) (by decide), .nz (y := 2) (by decide), .nz (y := 2) (by decide), .nz (y := 2) (by decide), .num (eq_of h5), .num (eq_of h7), .num (eq_of h5), .num (eq_of h7), .fin 100000 [2, 4, 5, 6] [(2, 2), (4, 4)] (ih v5 (W (v6 + 1)) o2_0 o2_1 o2_2 o2_3 o4_0 o4_1 o4_2 (W (o4_3 * v5)) r h)] (by kernel_rfl))
                        (fun h7 h =>
                          nomatch h)))
                (fun h5 h =>
                  nomatch h)))
        (fun h1 h =>
          leaf h fun e => by subst e; exact fin_ret Go.Proofs.Try.func15 mix 1000 [.unroll, .br h1] (by kernel_rfl))

theorem spec_DrawReduceMatrix.calls {a0 : (List Int)} {r : Siiii} (h : spec_DrawReduceMatrix.f a0 = some r) : Eng.Fn Go.Proofs.Try.prog 15 [R true 1 (cK .u8) a0] [] [] (.ag (Siiii.cells r)) :=
  fn_fin Go.Proofs.Try.func15 (c := bodyOf Go.Proofs.Try.f15) (by kernel_rfl) (by kernel_rfl) <|
    bind_cases h fun r1 h1 h =>
    bind_cases h fun r2 h2 h =>
    bind_cases h fun r3 h3 h =>
    bind_cases h fun r4 h4 h =>
    ifE_cases h
      (fun h5 h =>
        fin_fin Go.Proofs.Try.func15 mix 1000 [.call [(8, 11)] (spec_l01From.calls h1), .call [(8, 2000)] (spec_l04Draw.calls h2), .call [(8, 2000)] (spec_l01Pick.calls h3), .call [] (spec_l04Is.calls h4), .br h5, .fin 100000 [2, 4, 5, 6] [(2, 2), (4, 4)] (spec_DrawReduceMatrix.l6_ok fuelN r3.1 0 0 0 0 0 r2.1.c0 r2.1.c1 r2.1.c2 r2.1.c3 r h)] (by kernel_rfl))
      (fun h5 h =>
        leaf h fun e => by subst e; exact fin_ret Go.Proofs.Try.func15 mix 1000 [.call [(8, 11)] (spec_l01From.calls h1), .call [(8, 2000)] (spec_l04Draw.calls h2), .call [(8, 2000)] (spec_l01Pick.calls h3), .call [] (spec_l04Is.calls h4), .br h5] (by kernel_rfl))

theorem impl_reduce.calls {a0 : Siiii} {r : Siiii} (h : impl_reduce.f a0 = some r) : Eng.Fn Go.Proofs.Try.prog 73 [.ag (Siiii.cells a0)] [] [] (.ag (Siiii.cells r)) :=
  fn_fin Go.Proofs.Try.func73 (c := bodyOf Go.Proofs.Try.f73) (by kernel_rfl) (by kernel_rfl) <|
    bind_cases h fun r1 h1 h =>
    leaf h fun e => by subst e; exact fin_ret Go.Proofs.Try.func73 mix 1000 [.call [] (impl_reduced.calls h1)] (by kernel_rfl)

theorem impl_ReduceMatrix.calls {a0 : Siiii} {r : (Siiii × Int)} (h : impl_ReduceMatrix.f a0 = some r) : Eng.Fn Go.Proofs.Try.prog 16 [.ag (Siiii.cells a0)] [] [] (.tu [.ag (Siiii.cells r.1), I r.2]) :=
  fn_fin Go.Proofs.Try.func16 (c := bodyOf Go.Proofs.Try.f16) (by kernel_rfl) (by kernel_rfl) <|
    bind_cases h fun r1 h1 h =>
    ifE_cases h
      (fun h2 h =>
        leaf h fun e => by subst e; exact fin_ret Go.Proofs.Try.func16 mix 1000 [.call [] (impl_IsMatrix.calls h1), .br h2] (by kernel_rfl))
      (fun h2 h =>
        bind_cases h fun r2 h3 h =>
        leaf h fun e => by subst e; exact fin_ret Go.Proofs.Try.func16 mix 1000 [.call [] (impl_IsMatrix.calls h1), .br h2, .call [] (impl_reduce.calls h3)] (by kernel_rfl))

theorem spec_ReduceMatrix.calls {a0 : Siiii} {r : (Siiii × Int)} (h : spec_ReduceMatrix.f a0 = some r) : Eng.Fn Go.Proofs.Try.prog 17 [.ag (Siiii.cells a0)] [] [] (.tu [.ag (Siiii.cells r.1), I r.2]) :=
  fn_fin Go.Proofs.Try.func17 (c := bodyOf Go.Proofs.Try.f17) (by kernel_rfl) (by kernel_rfl) <|
    bind_cases h fun r1 h1 h =>
    ifE_cases h
      (fun h2 h =>
        leaf h fun e => by subst e; exact fin_ret Go.Proofs.Try.func17 mix 1000 [.call [] (spec_l04Is.calls h1), .br h2] (by kernel_rfl))
      (fun h2 h =>
        bind_cases h fun r2 h3 h =>
        leaf h fun e => by subst e; exact fin_ret Go.Proofs.Try.func17 mix 1000 [.call [] (spec_l04Is.calls h1), .br h2, .call [] (spec_l04Reduce.calls h3)] (by kernel_rfl))

theorem spec_DrawInverseMatrix.calls {a0 : (List Int)} {r : Siiii} (h : spec_DrawInverseMatrix.f a0 = some r) : Eng.Fn Go.Proofs.Try.prog 18 [R true 1 (cK .u8) a0] [] [] (.ag (Siiii.cells r)) :=
  fn_fin Go.Proofs.Try.func18 (c := bodyOf Go.Proofs.Try.f18) (by kernel_rfl) (by kernel_rfl) <|
    bind_cases h fun r1 h1 h =>
    bind_cases h fun r2 h2 h =>
    leaf h fun e => by subst e; exact fin_ret Go.Proofs.Try.func18 mix 1000 [.call [(4, 11)] (spec_l01From.calls h1), .call [(4, 2000)] (spec_l04Draw.calls h2)] (by kernel_rfl)

theorem impl_inverted.calls {a0 : Siiii} {r : Siiii} (h : impl_inverted.f a0 = some r) : Eng.Fn Go.Proofs.Try.prog 75 [.ag (Siiii.cells a0)] [] [] (.ag (Siiii.cells r)) :=
  fn_fin Go.Proofs.Try.func75 (c := bodyOf Go.Proofs.Try.f75) (by kernel_rfl) (by kernel_rfl) <|
    bind_cases h fun r1 h1 h =>
    leaf h fun e => by subst e; exact fin_ret Go.Proofs.Try.func75 mix 1000 [.call [] (impl_reduce.calls h1)] (by kernel_rfl)

theorem impl_InverseMatrix.calls {a0 : Siiii} {r : (Siiii × Int)} (h : impl_InverseMatrix.f a0 = some r) : Eng.Fn Go.Proofs.Try.prog 19 [.ag (Siiii.cells a0)] [] [] (.tu [.ag (Siiii.cells r.1), I r.2]) :=
  fn_fin Go.Proofs.Try.func19 (c := bodyOf Go.Proofs.Try.f19) (by kernel_rfl) (by kernel_rfl) <|
    bind_cases h fun r1 h1 h =>
    ifE_cases h
      (fun h2 h =>
        leaf h fun e => by subst e; exact fin_ret Go.Proofs.Try.func19 mix 1000 [.call [] (impl_IsMatrix.calls h1), .br h2] (by kernel_rfl))
      (fun h2 h =>
        bind_cases h fun r2 h3 h =>
        leaf h fun e => by subst e; exact fin_ret Go.Proofs.Try.func19 mix 1000 [.call [] (impl_IsMatrix.calls h1), .br h2, .call [] (impl_inverted.calls h3)] (by kernel_rfl))

theorem spec_l04Inverse.calls {a0 : Siiii} {r : Siiii} (h : spec_l04Inverse.f a0 = some r) : Eng.Fn Go.Proofs.Try.prog 76 [.ag (Siiii.cells a0)] [] [] (.ag (Siiii.cells r)) :=
  fn_fin Go.Proofs.Try.func76 (c := bodyOf Go.Proofs.Try.f76) (by kernel_rfl) (by kernel_rfl) <|
    bind_cases h fun r1 h1 h =>
    leaf h fun e => by subst e; exact fin_ret Go.Proofs.Try.func76 mix 1000 [.call [] (spec_l04Reduce.calls h1)] (by kernel_rfl)

theorem spec_InverseMatrix.calls {a0 : Siiii} {r : (Siiii × Int)} (h : spec_InverseMatrix.f a0 = some r) : Eng.Fn Go.Proofs.Try.prog 20 [.ag (Siiii.cells a0)] [] [] (.tu [.ag (Siiii.cells r.1), I r.2]) :=
  fn_fin Go.Proofs.Try.func20 (c := bodyOf Go.Proofs.Try.f20) (by kernel_rfl) (by kernel_rfl) <|
    bind_cases h fun r1 h1 h =>
    ifE_cases h
      (fun h2 h =>
        leaf h fun e => by subst e; exact fin_ret Go.Proofs.Try.func20 mix 1000 [.call [] (spec_l04Is.calls h1), .br h2] (by kernel_rfl))
      (fun h2 h =>
        bind_cases h fun r2 h3 h =>
        leaf h fun e => by subst e; exact fin_ret Go.Proofs.Try.func20 mix 1000 [.call [] (spec_l04Is.calls h1), .br h2, .call [] (spec_l04Inverse.calls h3)] (by kernel_rfl))

theorem spec_DrawPowerMatrix.calls {a0 : (List Int)} {r : (Siiii × Int)} (h : spec_DrawPowerMatrix.f a0 = some r) : Eng.Fn Go.Proofs.Try.prog 21 [R true 1 (cK .u8) a0] [] [] (.tu [.ag (Siiii.cells r.1), I r.2]) :=
  fn_fin Go.Proofs.Try.func21 (c := bodyOf Go.Proofs.Try.f21) (by kernel_rfl) (by kernel_rfl) <|
    bind_cases h fun r1 h1 h =>
    bind_cases h fun r2 h2 h =>
    bind_cases h fun r3 h3 h =>
    bind_cases h fun r4 h4 h =>
    leaf h fun e => by subst e; exact fin_ret Go.Proofs.Try.func21 mix 1000 [.call [(6, 11)] (spec_l01From.calls h1), .call [(6, 2000)] (spec_l04Draw.calls h2), .call [(6, 2000)] (spec_l01Next.calls h3), .call [(6, 2000)] (spec_l01Pick.calls h4)] (by kernel_rfl)

theorem impl_one.calls  {r : Siiii} (h : impl_one.f  = some r) : Eng.Fn Go.Proofs.Try.prog 78 [] [] [] (.ag (Siiii.cells r)) :=
  fn_fin Go.Proofs.Try.func78 (c := bodyOf Go.Proofs.Try.f78) (by kernel_rfl) (by kernel_rfl) <|
    leaf h fun e => by subst e; exact fin_ret Go.Proofs.Try.func78 mix 1000 [] (by kernel_rfl)

theorem impl_PowerMatrix.l10_ok (k : Nat) : ∀ (v31 : Int) (v32 : Int) (o2_0 : Int) (o2_1 : Int) (o2_2 : Int) (o2_3 : Int) (o4_0 : Int) (o4_1 : Int) (o4_2 : Int) (o4_3 : Int) (o6_0 : Int) (o6_1 : Int) (o6_2 : Int) (o6_3 : Int) (r : (Siiii × Int)), (impl_PowerMatrix.l10 k) v31 v32 o2_0 o2_1 o2_2 o2_3 o4_0 o4_1 o4_2 o4_3 o6_0 o6_1 o6_2 o6_3 = some r → Eng.Fin Go.Proofs.Try.prog 22 [] [] (.tu [.ag (Siiii.cells r.1), I r.2]) (itsL 10 (bodyOf Go.Proofs.Try.f22)) (mkS 46 [(2, .bx 2 0), (4, .bx 4 0), (6, .bx 6 0), (31, I v31), (32, I v32)] [(2, .box [I o2_0, I o2_1, I o2_2, I o2_3]), (4, .box [I o4_0, I o4_1, I o4_2, I o4_3]), (6, .box [I o6_0, I o6_1, I o6_2, I o6_3])]) := by
  induction k with
  | zero => intro v31 v32 o2_0 o2_1 o2_2 o2_3 o4_0 o4_1 o4_2 o4_3 o6_0 o6_1 o6_2 o6_3 r h; exact nomatch h
  | succ k ih =>
    exact fun v31 v32 o2_0 o2_1 o2_2 o2_3 o4_0 o4_1 o4_2 o4_3 o6_0 o6_1 o6_2 o6_3 r h =>
      ifE_cases h
        (fun h1 h =>
          bind_cases h fun r6 h2 h =>
          ifE_cases h
            (fun h3 h =>
              leaf h fun e => by subst e; exact fin_ret Go.Proofs.Try.func22 mix 1000 [.unroll, .br h1, .call [] (impl_product.calls h2), .br h3] (by kernel_rfl))
            (fun h3 h =>
              fin_fin Go.Proofs.Try.func22 mix 1000 [.unroll, .br h1, .call [] (impl_product.calls h2), .br h3, .fin 100000 [2, 4, 6, 31, 32] [(2, 2), (4, 4), (6, 6)] (ih v31 (W (v32 + 1)) o2_0 o2_1 o2_2 o2_3 o4_0 o4_1 o4_2 o4_3 r6.1.c0 r6.1.c1 r6.1.c2 r6.1.c3 r h)] (by kernel_rfl)))
        (fun h1 h =>
          leaf h fun e => by subst e; exact fin_ret Go.Proofs.Try.func22 mix 1000 [.unroll, .br h1] (by kernel_rfl))

theorem impl_PowerMatrix.calls {a0 : Siiii} {a1 : Int} {r : (Siiii × Int)} (h : impl_PowerMatrix.f a0 a1 = some r) : Eng.Fn Go.Proofs.Try.prog 22 [.ag (Siiii.cells a0), I a1] [] [] (.tu [.ag (Siiii.cells r.1), I r.2]) :=
  fn_fin Go.Proofs.Try.func22 (c := bodyOf Go.Proofs.Try.f22) (by kernel_rfl) (by kernel_rfl) <|
    bind_cases h fun r1 h1 h =>
    ifE_cases h
      (fun h2 h =>
        leaf h fun e => by subst e; exact fin_ret Go.Proofs.Try.func22 mix 1000 [.call [] (impl_IsMatrix.calls h1), .br h2] (by kernel_rfl))
      (fun h2 h =>
        ifE_cases h
          (fun h3 h =>
            leaf h fun e => by subst e; exact fin_ret Go.Proofs.Try.func22 mix 1000 [.call [] (impl_IsMatrix.calls h1), .br h2, .br h3] (by kernel_rfl))
          (fun h3 h =>
            ifE_cases h
              (fun h4 h =>
                leaf h fun e => by subst e; exact fin_ret Go.Proofs.Try.func22 mix 1000 [.call [] (impl_IsMatrix.calls h1), .br h2, .br h3, .br h4] (by kernel_rfl))
              (fun h4 h =>
                bind_cases h fun r2 h5 h =>
                ifE_cases h
                  (fun h6 h =>
                    bind_cases h fun r3 h7 h =>
                    bind_cases h fun r4 h8 h =>
                    fin_fin Go.Proofs.Try.func22 mix 1000 [.call [] (impl_IsMatrix.calls h1), .br h2, .br h3, .br h4, .call [] (impl_reduce.calls h5), .br h6, .call [] (impl_inverted.calls h7), .call [] (impl_one.calls h8), .fin 100000 [2, 4, 6, 31, 32] [(2, 2), (4, 4), (6, 6)] (impl_PowerMatrix.l10_ok fuelN (W (0 - a1)) 0 r3.c0 r3.c1 r3.c2 r3.c3 0 0 0 0 r4.c0 r4.c1 r4.c2 r4.c3 r h)] (by kernel_rfl))
                  (fun h6 h =>
                    bind_cases h fun r5 h9 h =>
                    fin_fin Go.Proofs.Try.func22 mix 1000 [.call [] (impl_IsMatrix.calls h1), .br h2, .br h3, .br h4, .call [] (impl_reduce.calls h5), .br h6, .call [] (impl_one.calls h9), .fin 100000 [2, 4, 6, 31, 32] [(2, 2), (4, 4), (6, 6)] (impl_PowerMatrix.l10_ok fuelN a1 0 r2.c0 r2.c1 r2.c2 r2.c3 0 0 0 0 r5.c0 r5.c1 r5.c2 r5.c3 r h)] (by kernel_rfl)))))

theorem spec_PowerMatrix.l9_ok (k : Nat) : ∀ (v1 : Int) (o2_0 : Int) (o2_1 : Int) (o2_2 : Int) (o2_3 : Int) (o4_0 : Int) (o4_1 : Int) (o4_2 : Int) (o4_3 : Int) (o6_0 : Int) (o6_1 : Int) (o6_2 : Int) (o6_3 : Int) (r : (Siiii × Int)), (spec_PowerMatrix.l9 k) v1 o2_0 o2_1 o2_2 o2_3 o4_0 o4_1 o4_2 o4_3 o6_0 o6_1 o6_2 o6_3 = some r → Eng.Fin Go.Proofs.Try.prog 23 [] [] (.tu [.ag (Siiii.cells r.1), I r.2]) (itsL 9 (bodyOf Go.Proofs.Try.f23)) (mkS 43 [(1, I v1), (2, .bx 2 0), (4, .bx 4 0), (6, .bx 6 0)] [(2, .box [I o2_0, I o2_1, I o2_2, I o2_3]), (4, .box [I o4_0, I o4_1, I o4_2, I o4_3]), (6, .box [I o6_0, I o6_1, I o6_2, I o6_3])]) := by
  induction k with
  | zero => intro v1 o2_0 o2_1 o2_2 o2_3 o4_0 o4_1 o4_2 o4_3 o6_0 o6_1 o6_2 o6_3 r h; exact nomatch h
  | succ k ih =>
    exact fun v1 o2_0 o2_1 o2_2 o2_3 o4_0 o4_1 o4_2 o4_3 o6_0 o6_1 o6_2 o6_3 r h =>
      ifE_cases h
        (fun h1 h =>
          bind_cases h fun r4 h2 h =>
          ifE_cases h
            (fun h3 h =>
              leaf h fun e => by subst e; exact fin_ret Go.Proofs.Try.func23 mix 1000 [.unroll, .br h1, .call [] (spec_l04Times.calls h2), .br h3] (by kernel_rfl))
            (fun h3 h =>
              fin_fin Go.Proofs.Try.func23 mix 1000 [.unroll, .br h1, .call [] (spec_l04Times.calls h2), .br h3, .fin 100000 [1, 2, 4, 6] [(2, 2), (4, 4), (6, 6)] (ih (W (v1 - 1)) o2_0 o2_1 o2_2 o2_3 o4_0 o4_1 o4_2 o4_3 r4.1.c0 r4.1.c1 r4.1.c2 r4.1.c3 r h)] (by kernel_rfl)))
        (fun h1 h =>
          leaf h fun e => by subst e; exact fin_ret Go.Proofs.Try.func23 mix 1000 [.unroll, .br h1] (by kernel_rfl))

theorem spec_PowerMatrix.calls {a0 : Siiii} {a1 : Int} {r : (Siiii × Int)} (h : spec_PowerMatrix.f a0 a1 = some r) : Eng.Fn Go.Proofs.Try.prog 23 [.ag (Siiii.cells a0), I a1] [] [] (.tu [.ag (Siiii.cells r.1), I r.2]) :=
  fn_fin Go.Proofs.Try.func23 (c := bodyOf Go.Proofs.Try.f23) (by kernel_rfl) (by kernel_rfl) <|
    bind_cases h fun r1 h1 h =>
    ifE_cases h
      (fun h2 h =>
        leaf h fun e => by subst e; exact fin_ret Go.Proofs.Try.func23 mix 1000 [.call [] (spec_l04Is.calls h1), .br h2] (by kernel_rfl))
      (fun h2 h =>
        bind_cases h fun r2 h3 h =>
        ifE_cases h
          (fun h4 h =>
            leaf h fun e => by subst e; exact fin_ret Go.Proofs.Try.func23 mix 1000 [.call [] (spec_l04Is.calls h1), .br h2, .call [] (spec_l01In.calls h3), .br h4] (by kernel_rfl))
          (fun h4 h =>
            ifE_cases h
              (fun h5 h =>
                bind_cases h fun r3 h6 h =>
                fin_fin Go.Proofs.Try.func23 mix 1000 [.call [] (spec_l04Is.calls h1), .br h2, .call [] (spec_l01In.calls h3), .br h4, .br h5, .call [] (spec_l04Inverse.calls h6), .fin 100000 [1, 2, 4, 6] [(2, 2), (4, 4), (6, 6)] (spec_PowerMatrix.l9_ok fuelN (W (0 - a1)) r3.c0 r3.c1 r3.c2 r3.c3 0 0 0 0 1 0 0 1 r h)] (by kernel_rfl))
              (fun h5 h =>
                fin_fin Go.Proofs.Try.func23 mix 1000 [.call [] (spec_l04Is.calls h1), .br h2, .call [] (spec_l01In.calls h3), .br h4, .br h5, .fin 100000 [1, 2, 4, 6] [(2, 2), (4, 4), (6, 6)] (spec_PowerMatrix.l9_ok fuelN a1 a0.c0 a0.c1 a0.c2 a0.c3 0 0 0 0 1 0 0 1 r h)] (by kernel_rfl))))

theorem spec_DrawAreSameMatrices.calls {a0 : (List Int)} {r : (Siiii × Siiii)} (h : spec_DrawAreSameMatrices.f a0 = some r) : Eng.Fn Go.Proofs.Try.prog 24 [R true 1 (cK .u8) a0] [] [] (.tu [.ag (Siiii.cells r.1), .ag (Siiii.cells r.2)]) :=
  fn_fin Go.Proofs.Try.func24 (c := bodyOf Go.Proofs.Try.f24) (by kernel_rfl) (by kernel_rfl) <|
    bind_cases h fun r1 h1 h =>
    bind_cases h fun r2 h2 h =>
    bind_cases h fun r3 h3 h =>
    ifE_cases h
      (fun h4 h =>
        bind_cases h fun r4 h5 h =>
        ifE_cases h
          (fun h6 h =>
            bind_cases h fun r5 h7 h =>
            leaf h fun e => by subst e; exact fin_ret Go.Proofs.Try.func24 mix 1000 [.call [(9, 11)] (spec_l01From.calls h1), .call [] (spec_DrawReduceMatrix.calls h2), .call [(9, 2000)] (spec_l01Next.calls h3), .br h4, .call [] (spec_l04Is.calls h5), .br h6, .call [] (spec_l04Reduce.calls h7)] (by kernel_rfl))
          (fun h6 h =>
            bind_cases h fun r6 h8 h =>
            leaf h fun e => by subst e; exact fin_ret Go.Proofs.Try.func24 mix 1000 [.call [(9, 11)] (spec_l01From.calls h1), .call [] (spec_DrawReduceMatrix.calls h2), .call [(9, 2000)] (spec_l01Next.calls h3), .br h4, .call [] (spec_l04Is.calls h5), .br h6, .call [(9, 2000)] (spec_l04Draw.calls h8)] (by kernel_rfl)))
      (fun h4 h =>
        bind_cases h fun r7 h9 h =>
        leaf h fun e => by subst e; exact fin_ret Go.Proofs.Try.func24 mix 1000 [.call [(9, 11)] (spec_l01From.calls h1), .call [] (spec_DrawReduceMatrix.calls h2), .call [(9, 2000)] (spec_l01Next.calls h3), .br h4, .call [(9, 2000)] (spec_l04Draw.calls h9)] (by kernel_rfl))

theorem impl_AreSameMatrices.calls {a0 : Siiii} {a1 : Siiii} {r : (Bool × Int)} (h : impl_AreSameMatrices.f a0 a1 = some r) : Eng.Fn Go.Proofs.Try.prog 25 [.ag (Siiii.cells a0), .ag (Siiii.cells a1)] [] [] (.tu [B r.1, I r.2]) :=
  fn_fin Go.Proofs.Try.func25 (c := bodyOf Go.Proofs.Try.f25) (by kernel_rfl) (by kernel_rfl) <|
    bind_cases h fun r1 h1 h =>
    ifE_cases h
      (fun h2 h =>
        leaf h fun e => by subst e; exact fin_ret Go.Proofs.Try.func25 mix 1000 [.call [] (impl_areMatrices.calls h1), .br h2] (by kernel_rfl))
      (fun h2 h =>
        bind_cases h fun r2 h3 h =>
        bind_cases h fun r3 h4 h =>
        leaf h fun e => by subst e; exact fin_ret Go.Proofs.Try.func25 mix 1000 [.call [] (impl_areMatrices.calls h1), .br h2, .call [] (impl_reduce.calls h3), .call [] (impl_reduce.calls h4)] (by kernel_rfl))

theorem spec_AreSameMatrices.calls {a0 : Siiii} {a1 : Siiii} {r : (Bool × Int)} (h : spec_AreSameMatrices.f a0 a1 = some r) : Eng.Fn Go.Proofs.Try.prog 26 [.ag (Siiii.cells a0), .ag (Siiii.cells a1)] [] [] (.tu [B r.1, I r.2]) :=
  fn_fin Go.Proofs.Try.func26 (c := bodyOf Go.Proofs.Try.f26) (by kernel_rfl) (by kernel_rfl) <|
    bind_cases h fun r1 h1 h =>
    ifE_cases h
      (fun h2 h =>
        leaf h fun e => by subst e; exact fin_ret Go.Proofs.Try.func26 mix 1000 [.call [] (spec_l04Is.calls h1), .br h2] (by kernel_rfl))
      (fun h2 h =>
        bind_cases h fun r2 h3 h =>
        ifE_cases h
          (fun h4 h =>
            leaf h fun e => by subst e; exact fin_ret Go.Proofs.Try.func26 mix 1000 [.call [] (spec_l04Is.calls h1), .br h2, .call [] (spec_l04Is.calls h3), .br h4] (by kernel_rfl))
          (fun h4 h =>
            bind_cases h fun r3 h5 h =>
            bind_cases h fun r4 h6 h =>
            leaf h fun e => by subst e; exact fin_ret Go.Proofs.Try.func26 mix 1000 [.call [] (spec_l04Is.calls h1), .br h2, .call [] (spec_l04Is.calls h3), .br h4, .call [] (spec_l04Reduce.calls h5), .call [] (spec_l04Reduce.calls h6)] (by kernel_rfl)))

theorem laws_FnMatrices.j43_ok : ∀ (v6 : Int) (o3_0 : Int) (o3_1 : Int) (o3_2 : Int) (o3_3 : Int) (o4_0 : Int) (o4_1 : Int) (o4_2 : Int) (o4_3 : Int) (o5_0 : Int) (o5_1 : Int) (o5_2 : Int) (o5_3 : Int) (r : Bool), (laws_FnMatrices.j43) v6 o3_0 o3_1 o3_2 o3_3 o4_0 o4_1 o4_2 o4_3 o5_0 o5_1 o5_2 o5_3 = some r → Eng.Fin Go.Proofs.Try.prog 3 [] [] (B r) (itsR 43 (bodyOf Go.Proofs.Try.f3)) (mkS 300 [(3, .bx 3 0), (4, .bx 4 0), (5, .bx 5 0), (6, I v6)] [(3, .box [I o3_0, I o3_1, I o3_2, I o3_3]), (4, .box [I o4_0, I o4_1, I o4_2, I o4_3]), (5, .box [I o5_0, I o5_1, I o5_2, I o5_3])]) :=
  fun v6 o3_0 o3_1 o3_2 o3_3 o4_0 o4_1 o4_2 o4_3 o5_0 o5_1 o5_2 o5_3 r h =>
    ifE_cases h
      (fun h1 h =>
        leaf h fun e => by subst e; exact fin_ret Go.Proofs.Try.func3 mix 1000 [.br h1] (by kernel_rfl))
      (fun h1 h =>
        bind_cases h fun r26 h2 h =>
        bind_cases h fun r27 h3 h =>
        bind_cases h fun r28 h4 h =>
        ifE_cases h
          (fun h5 h =>
            leaf h fun e => by subst e; exact fin_ret Go.Proofs.Try.func3 mix 1000 [.br h1, .call [] (impl_MultiplyMatrices.calls h2), .call [] (impl_MultiplyMatrices.calls h3), .call [] (impl_MultiplyMatrices.calls h4), .br h5] (by kernel_rfl))
          (fun h5 h =>
            ifE_cases h
              (fun h6 h =>
                leaf h fun e => by subst e; exact fin_ret Go.Proofs.Try.func3 mix 1000 [.br h1, .call [] (impl_MultiplyMatrices.calls h2), .call [] (impl_MultiplyMatrices.calls h3), .call [] (impl_MultiplyMatrices.calls h4), .br h5, .br h6] (by kernel_rfl))
              (fun h6 h =>
                ifE_cases h
                  (fun h7 h =>
                    leaf h fun e => by subst e; exact fin_ret Go.Proofs.Try.func3 mix 1000 [.br h1, .call [] (impl_MultiplyMatrices.calls h2), .call [] (impl_MultiplyMatrices.calls h3), .call [] (impl_MultiplyMatrices.calls h4), .br h5, .br h6, .br h7] (by kernel_rfl))
                  (fun h7 h =>
                    leaf h fun e => by subst e; exact fin_ret Go.Proofs.Try.func3 mix 1000 [.br h1, .call [] (impl_MultiplyMatrices.calls h2), .call [] (impl_MultiplyMatrices.calls h3), .call [] (impl_MultiplyMatrices.calls h4), .br h5, .br h6, .br h7] (by kernel_rfl)))))

theorem laws_FnMatrices.j38_ok : ∀ (v6 : Int) (v20 : Int) (v22 : Int) (o3_0 : Int) (o3_1 : Int) (o3_2 : Int) (o3_3 : Int) (o4_0 : Int) (o4_1 : Int) (o4_2 : Int) (o4_3 : Int) (o5_0 : Int) (o5_1 : Int) (o5_2 : Int) (o5_3 : Int) (o19_0 : Int) (o19_1 : Int) (o19_2 : Int) (o19_3 : Int) (o21_0 : Int) (o21_1 : Int) (o21_2 : Int) (o21_3 : Int) (r : Bool), (laws_FnMatrices.j38) v6 v20 v22 o3_0 o3_1 o3_2 o3_3 o4_0 o4_1 o4_2 o4_3 o5_0 o5_1 o5_2 o5_3 o19_0 o19_1 o19_2 o19_3 o21_0 o21_1 o21_2 o21_3 = some r → Eng.Fin Go.Proofs.Try.prog 3 [] [] (B r) (itsR 38 (bodyOf Go.Proofs.Try.f3)) (mkS 300 [(3, .bx 3 0), (4, .bx 4 0), (5, .bx 5 0), (6, I v6), (19, .bx 19 0), (20, I v20), (21, .bx 21 0), (22, I v22)] [(3, .box [I o3_0, I o3_1, I o3_2, I o3_3]), (4, .box [I o4_0, I o4_1, I o4_2, I o4_3]), (5, .box [I o5_0, I o5_1, I o5_2, I o5_3]), (19, .box [I o19_0, I o19_1, I o19_2, I o19_3]), (21, .box [I o21_0, I o21_1, I o21_2, I o21_3])]) :=
  fun v6 v20 v22 o3_0 o3_1 o3_2 o3_3 o4_0 o4_1 o4_2 o4_3 o5_0 o5_1 o5_2 o5_3 o19_0 o19_1 o19_2 o19_3 o21_0 o21_1 o21_2 o21_3 r h =>
    ifE_cases h
      (fun h1 h =>
        ifE_cases h
          (fun h2 h =>
            bind_cases h fun r24 h3 h =>
            bind_cases h fun r25 h4 h =>
            ifE_cases h
              (fun h5 h =>
                ifE_cases h
                  (fun h6 h =>
                    ifE_cases h
                      (fun h7 h =>
                        leaf h fun e => by subst e; exact fin_ret Go.Proofs.Try.func3 mix 1000 [.br h1, .br h2, .call [] (impl_PowerMatrix.calls h3), .call [] (impl_MultiplyMatrices.calls h4), .br h5, .br h6, .br h7] (by kernel_rfl))
                      (fun h7 h =>
                        fin_fin Go.Proofs.Try.func3 mix 1000 [.br h1, .br h2, .call [] (impl_PowerMatrix.calls h3), .call [] (impl_MultiplyMatrices.calls h4), .br h5, .br h6, .br h7, .fin 43 [3, 4, 5, 6] [(3, 3), (4, 4), (5, 5)] (laws_FnMatrices.j43_ok v6 o3_0 o3_1 o3_2 o3_3 o4_0 o4_1 o4_2 o4_3 o5_0 o5_1 o5_2 o5_3 r h)] (by kernel_rfl)))
                  (fun h6 h =>
                    fin_fin Go.Proofs.Try.func3 mix 1000 [.br h1, .br h2, .call [] (impl_PowerMatrix.calls h3), .call [] (impl_MultiplyMatrices.calls h4), .br h5, .br h6, .fin 43 [3, 4, 5, 6] [(3, 3), (4, 4), (5, 5)] (laws_FnMatrices.j43_ok v6 o3_0 o3_1 o3_2 o3_3 o4_0 o4_1 o4_2 o4_3 o5_0 o5_1 o5_2 o5_3 r h)] (by kernel_rfl)))
              (fun h5 h =>
                fin_fin Go.Proofs.Try.func3 mix 1000 [.br h1, .br h2, .call [] (impl_PowerMatrix.calls h3), .call [] (impl_MultiplyMatrices.calls h4), .br h5, .fin 43 [3, 4, 5, 6] [(3, 3), (4, 4), (5, 5)] (laws_FnMatrices.j43_ok v6 o3_0 o3_1 o3_2 o3_3 o4_0 o4_1 o4_2 o4_3 o5_0 o5_1 o5_2 o5_3 r h)] (by kernel_rfl)))
          (fun h2 h =>
            fin_fin Go.Proofs.Try.func3 mix 1000 [.br h1, .br h2, .fin 43 [3, 4, 5, 6] [(3, 3), (4, 4), (5, 5)] (laws_FnMatrices.j43_ok v6 o3_0 o3_1 o3_2 o3_3 o4_0 o4_1 o4_2 o4_3 o5_0 o5_1 o5_2 o5_3 r h)] (by kernel_rfl)))
      (fun h1 h =>
        fin_fin Go.Proofs.Try.func3 mix 1000 [.br h1, .fin 43 [3, 4, 5, 6] [(3, 3), (4, 4), (5, 5)] (laws_FnMatrices.j43_ok v6 o3_0 o3_1 o3_2 o3_3 o4_0 o4_1 o4_2 o4_3 o5_0 o5_1 o5_2 o5_3 r h)] (by kernel_rfl))

theorem laws_FnMatrices.j32_ok : ∀ (v6 : Int) (v16 : Int) (v20 : Int) (v22 : Int) (o3_0 : Int) (o3_1 : Int) (o3_2 : Int) (o3_3 : Int) (o4_0 : Int) (o4_1 : Int) (o4_2 : Int) (o4_3 : Int) (o5_0 : Int) (o5_1 : Int) (o5_2 : Int) (o5_3 : Int) (o14_0 : Int) (o14_1 : Int) (o14_2 : Int) (o14_3 : Int) (o15_0 : Int) (o15_1 : Int) (o15_2 : Int) (o15_3 : Int) (o19_0 : Int) (o19_1 : Int) (o19_2 : Int) (o19_3 : Int) (o21_0 : Int) (o21_1 : Int) (o21_2 : Int) (o21_3 : Int) (r : Bool), (laws_FnMatrices.j32) v6 v16 v20 v22 o3_0 o3_1 o3_2 o3_3 o4_0 o4_1 o4_2 o4_3 o5_0 o5_1 o5_2 o5_3 o14_0 o14_1 o14_2 o14_3 o15_0 o15_1 o15_2 o15_3 o19_0 o19_1 o19_2 o19_3 o21_0 o21_1 o21_2 o21_3 = some r → Eng.Fin Go.Proofs.Try.prog 3 [] [] (B r) (itsR 32 (bodyOf Go.Proofs.Try.f3)) (mkS 300 [(3, .bx 3 0), (4, .bx 4 0), (5, .bx 5 0), (6, I v6), (14, .bx 14 0), (15, .bx 15 0), (16, I v16), (19, .bx 19 0), (20, I v20), (21, .bx 21 0), (22, I v22)] [(3, .box [I o3_0, I o3_1, I o3_2, I o3_3]), (4, .box [I o4_0, I o4_1, I o4_2, I o4_3]), (5, .box [I o5_0, I o5_1, I o5_2, I o5_3]), (14, .box [I o14_0, I o14_1, I o14_2, I o14_3]), (15, .box [I o15_0, I o15_1, I o15_2, I o15_3]), (19, .box [I o19_0, I o19_1, I o19_2, I o19_3]), (21, .box [I o21_0, I o21_1, I o21_2, I o21_3])]) :=
  fun v6 v16 v20 v22 o3_0 o3_1 o3_2 o3_3 o4_0 o4_1 o4_2 o4_3 o5_0 o5_1 o5_2 o5_3 o14_0 o14_1 o14_2 o14_3 o15_0 o15_1 o15_2 o15_3 o19_0 o19_1 o19_2 o19_3 o21_0 o21_1 o21_2 o21_3 r h =>
    ifE_cases h
      (fun h1 h =>
        bind_cases h fun r21 h2 h =>
        bind_cases h fun r22 h3 h =>
        bind_cases h fun r23 h4 h =>
        ifE_cases h
          (fun h5 h =>
            leaf h fun e => by subst e; exact fin_ret Go.Proofs.Try.func3 mix 1000 [.br h1, .call [] (impl_MultiplyMatrices.calls h2), .call [] (impl_InverseMatrix.calls h3), .call [] (impl_ReduceMatrix.calls h4), .br h5] (by kernel_rfl))
          (fun h5 h =>
            ifE_cases h
              (fun h6 h =>
                leaf h fun e => by subst e; exact fin_ret Go.Proofs.Try.func3 mix 1000 [.br h1, .call [] (impl_MultiplyMatrices.calls h2), .call [] (impl_InverseMatrix.calls h3), .call [] (impl_ReduceMatrix.calls h4), .br h5, .br h6] (by kernel_rfl))
              (fun h6 h =>
                ifE_cases h
                  (fun h7 h =>
                    leaf h fun e => by subst e; exact fin_ret Go.Proofs.Try.func3 mix 1000 [.br h1, .call [] (impl_MultiplyMatrices.calls h2), .call [] (impl_InverseMatrix.calls h3), .call [] (impl_ReduceMatrix.calls h4), .br h5, .br h6, .br h7] (by kernel_rfl))
                  (fun h7 h =>
                    ifE_cases h
                      (fun h8 h =>
                        leaf h fun e => by subst e; exact fin_ret Go.Proofs.Try.func3 mix 1000 [.br h1, .call [] (impl_MultiplyMatrices.calls h2), .call [] (impl_InverseMatrix.calls h3), .call [] (impl_ReduceMatrix.calls h4), .br h5, .br h6, .br h7, .br h8] (by kernel_rfl))
                      (fun h8 h =>
                        ifE_cases h
                          (fun h9 h =>
                            leaf h fun e => by subst e; exact fin_ret Go.Proofs.Try.func3 mix 1000 [.br h1, .call [] (impl_MultiplyMatrices.calls h2), .call [] (impl_InverseMatrix.calls h3), .call [] (impl_ReduceMatrix.calls h4), .br h5, .br h6, .br h7, .br h8, .br h9] (by kernel_rfl))
                          (fun h9 h =>
                            fin_fin Go.Proofs.Try.func3 mix 1000 [.br h1, .call [] (impl_MultiplyMatrices.calls h2), .call [] (impl_InverseMatrix.calls h3), .call [] (impl_ReduceMatrix.calls h4), .br h5, .br h6, .br h7, .br h8, .br h9, .fin 38 [3, 4, 5, 6, 19, 20, 21, 22] [(3, 3), (4, 4), (5, 5), (19, 19), (21, 21)] (laws_FnMatrices.j38_ok v6 v20 v22 o3_0 o3_1 o3_2 o3_3 o4_0 o4_1 o4_2 o4_3 o5_0 o5_1 o5_2 o5_3 o19_0 o19_1 o19_2 o19_3 o21_0 o21_1 o21_2 o21_3 r h)] (by kernel_rfl)))))))
      (fun h1 h =>
        fin_fin Go.Proofs.Try.func3 mix 1000 [.br h1, .fin 38 [3, 4, 5, 6, 19, 20, 21, 22] [(3, 3), (4, 4), (5, 5), (19, 19), (21, 21)] (laws_FnMatrices.j38_ok v6 v20 v22 o3_0 o3_1 o3_2 o3_3 o4_0 o4_1 o4_2 o4_3 o5_0 o5_1 o5_2 o5_3 o19_0 o19_1 o19_2 o19_3 o21_0 o21_1 o21_2 o21_3 r h)] (by kernel_rfl))

theorem laws_FnMatrices.calls {a0 : (List Int)} {r : Bool} (h : laws_FnMatrices.f a0 = some r) : Eng.Fn Go.Proofs.Try.prog 3 [R true 1 (cK .u8) a0] [] [] (B r) :=
  fn_fin Go.Proofs.Try.func3 (c := bodyOf Go.Proofs.Try.f3) (by kernel_rfl) (by kernel_rfl) <|
    bind_cases h fun r1 h1 h =>
    ifE_cases h
      (fun h2 h =>
        leaf h fun e => by subst e; exact fin_ret Go.Proofs.Try.func3 mix 1000 [.call [] (laws_big.calls h1), .br h2] (by kernel_rfl))
      (fun h2 h =>
        bind_cases h fun r2 h3 h =>
        bind_cases h fun r3 h4 h =>
        bind_cases h fun r4 h5 h =>
        ifE_cases h
          (fun h6 h =>
            leaf h fun e => by subst e; exact fin_ret Go.Proofs.Try.func3 mix 1000 [.call [] (laws_big.calls h1), .br h2, .call [] (spec_DrawMultiplyMatrices.calls h3), .call [] (impl_MultiplyMatrices.calls h4), .call [] (spec_MultiplyMatrices.calls h5), .br h6] (by kernel_rfl))
          (fun h6 h =>
            ifE_cases h
              (fun h7 h =>
                leaf h fun e => by subst e; exact fin_ret Go.Proofs.Try.func3 mix 1000 [.call [] (laws_big.calls h1), .br h2, .call [] (spec_DrawMultiplyMatrices.calls h3), .call [] (impl_MultiplyMatrices.calls h4), .call [] (spec_MultiplyMatrices.calls h5), .br h6, .br h7] (by kernel_rfl))
              (fun h7 h =>
                bind_cases h fun r5 h8 h =>
                bind_cases h fun r6 h9 h =>
                ifE_cases h
                  (fun h10 h =>
                    leaf h fun e => by subst e; exact fin_ret Go.Proofs.Try.func3 mix 1000 [.call [] (laws_big.calls h1), .br h2, .call [] (spec_DrawMultiplyMatrices.calls h3), .call [] (impl_MultiplyMatrices.calls h4), .call [] (spec_MultiplyMatrices.calls h5), .br h6, .br h7, .call [] (impl_IsMatrix.calls h8), .call [] (spec_IsMatrix.calls h9), .br h10] (by kernel_rfl))
                  (fun h10 h =>
                    bind_cases h fun r7 h11 h =>
                    bind_cases h fun r8 h12 h =>
                    bind_cases h fun r9 h13 h =>
                    ifE_cases h
                      (fun h14 h =>
                        leaf h fun e => by subst e; exact fin_ret Go.Proofs.Try.func3 mix 1000 [.call [] (laws_big.calls h1), .br h2, .call [] (spec_DrawMultiplyMatrices.calls h3), .call [] (impl_MultiplyMatrices.calls h4), .call [] (spec_MultiplyMatrices.calls h5), .br h6, .br h7, .call [] (impl_IsMatrix.calls h8), .call [] (spec_IsMatrix.calls h9), .br h10, .call [] (spec_DrawReduceMatrix.calls h11), .call [] (impl_ReduceMatrix.calls h12), .call [] (spec_ReduceMatrix.calls h13), .br h14] (by kernel_rfl))
                      (fun h14 h =>
                        ifE_cases h
                          (fun h15 h =>
                            leaf h fun e => by subst e; exact fin_ret Go.Proofs.Try.func3 mix 1000 [.call [] (laws_big.calls h1), .br h2, .call [] (spec_DrawMultiplyMatrices.calls h3), .call [] (impl_MultiplyMatrices.calls h4), .call [] (spec_MultiplyMatrices.calls h5), .br h6, .br h7, .call [] (impl_IsMatrix.calls h8), .call [] (spec_IsMatrix.calls h9), .br h10, .call [] (spec_DrawReduceMatrix.calls h11), .call [] (impl_ReduceMatrix.calls h12), .call [] (spec_ReduceMatrix.calls h13), .br h14, .br h15] (by kernel_rfl))
                          (fun h15 h =>
                            bind_cases h fun r10 h16 h =>
                            bind_cases h fun r11 h17 h =>
                            bind_cases h fun r12 h18 h =>
                            ifE_cases h
                              (fun h19 h =>
                                leaf h fun e => by subst e; exact fin_ret Go.Proofs.Try.func3 mix 1000 [.call [] (laws_big.calls h1), .br h2, .call [] (spec_DrawMultiplyMatrices.calls h3), .call [] (impl_MultiplyMatrices.calls h4), .call [] (spec_MultiplyMatrices.calls h5), .br h6, .br h7, .call [] (impl_IsMatrix.calls h8), .call [] (spec_IsMatrix.calls h9), .br h10, .call [] (spec_DrawReduceMatrix.calls h11), .call [] (impl_ReduceMatrix.calls h12), .call [] (spec_ReduceMatrix.calls h13), .br h14, .br h15, .call [] (spec_DrawInverseMatrix.calls h16), .call [] (impl_InverseMatrix.calls h17), .call [] (spec_InverseMatrix.calls h18), .br h19] (by kernel_rfl))
                              (fun h19 h =>
                                ifE_cases h
                                  (fun h20 h =>
                                    leaf h fun e => by subst e; exact fin_ret Go.Proofs.Try.func3 mix 1000 [.call [] (laws_big.calls h1), .br h2, .call [] (spec_DrawMultiplyMatrices.calls h3), .call [] (impl_MultiplyMatrices.calls h4), .call [] (spec_MultiplyMatrices.calls h5), .br h6, .br h7, .call [] (impl_IsMatrix.calls h8), .call [] (spec_IsMatrix.calls h9), .br h10, .call [] (spec_DrawReduceMatrix.calls h11), .call [] (impl_ReduceMatrix.calls h12), .call [] (spec_ReduceMatrix.calls h13), .br h14, .br h15, .call [] (spec_DrawInverseMatrix.calls h16), .call [] (impl_InverseMatrix.calls h17), .call [] (spec_InverseMatrix.calls h18), .br h19, .br h20] (by kernel_rfl))
                                  (fun h20 h =>
                                    bind_cases h fun r13 h21 h =>
                                    bind_cases h fun r14 h22 h =>
                                    bind_cases h fun r15 h23 h =>
                                    ifE_cases h
                                      (fun h24 h =>
                                        leaf h fun e => by subst e; exact fin_ret Go.Proofs.Try.func3 mix 1000 [.call [] (laws_big.calls h1), .br h2, .call [] (spec_DrawMultiplyMatrices.calls h3), .call [] (impl_MultiplyMatrices.calls h4), .call [] (spec_MultiplyMatrices.calls h5), .br h6, .br h7, .call [] (impl_IsMatrix.calls h8), .call [] (spec_IsMatrix.calls h9), .br h10, .call [] (spec_DrawReduceMatrix.calls h11), .call [] (impl_ReduceMatrix.calls h12), .call [] (spec_ReduceMatrix.calls h13), .br h14, .br h15, .call [] (spec_DrawInverseMatrix.calls h16), .call [] (impl_InverseMatrix.calls h17), .call [] (spec_InverseMatrix.calls h18), .br h19, .br h20, .call [] (spec_DrawPowerMatrix.calls h21), .call [] (impl_PowerMatrix.calls h22), .call [] (spec_PowerMatrix.calls h23), .br h24] (by kernel_rfl))
                                      (fun h24 h =>
                                        ifE_cases h
                                          (fun h25 h =>
                                            leaf h fun e => by subst e; exact fin_ret Go.Proofs.Try.func3 mix 1000 [.call [] (laws_big.calls h1), .br h2, .call [] (spec_DrawMultiplyMatrices.calls h3), .call [] (impl_MultiplyMatrices.calls h4), .call [] (spec_MultiplyMatrices.calls h5), .br h6, .br h7, .call [] (impl_IsMatrix.calls h8), .call [] (spec_IsMatrix.calls h9), .br h10, .call [] (spec_DrawReduceMatrix.calls h11), .call [] (impl_ReduceMatrix.calls h12), .call [] (spec_ReduceMatrix.calls h13), .br h14, .br h15, .call [] (spec_DrawInverseMatrix.calls h16), .call [] (impl_InverseMatrix.calls h17), .call [] (spec_InverseMatrix.calls h18), .br h19, .br h20, .call [] (spec_DrawPowerMatrix.calls h21), .call [] (impl_PowerMatrix.calls h22), .call [] (spec_PowerMatrix.calls h23), .br h24, .br h25] (by kernel_rfl))
                                          (fun h25 h =>
                                            bind_cases h fun r16 h26 h =>
                                            bind_cases h fun r17 h27 h =>
                                            bind_cases h fun r18 h28 h =>
                                            ifE_cases h
                                              (fun h29 h =>
                                                leaf h fun e => by subst e; exact fin_ret Go.Proofs.Try.func3 mix 1000 [.call [] (laws_big.calls h1), .br h2, .call [] (spec_DrawMultiplyMatrices.calls h3), .call [] (impl_MultiplyMatrices.calls h4), .call [] (spec_MultiplyMatrices.calls h5), .br h6, .br h7, .call [] (impl_IsMatrix.calls h8), .call [] (spec_IsMatrix.calls h9), .br h10, .call [] (spec_DrawReduceMatrix.calls h11), .call [] (impl_ReduceMatrix.calls h12), .call [] (spec_ReduceMatrix.calls h13), .br h14, .br h15, .call [] (spec_DrawInverseMatrix.calls h16), .call [] (impl_InverseMatrix.calls h17), .call [] (spec_InverseMatrix.calls h18), .br h19, .br h20, .call [] (spec_DrawPowerMatrix.calls h21), .call [] (impl_PowerMatrix.calls h22), .call [] (spec_PowerMatrix.calls h23), .br h24, .br h25, .call [] (spec_DrawAreSameMatrices.calls h26), .call [] (impl_AreSameMatrices.calls h27), .call [] (spec_AreSameMatrices.calls h28), .br h29] (by kernel_rfl))
                                              (fun h29 h =>
                                                ifE_cases h
                                                  (fun h30 h =>
                                                    leaf h fun e => by subst e; exact fin_ret Go.Proofs.Try.func3 mix 1000 [.call [] (laws_big.calls h1), .br h2, .call [] (spec_DrawMultiplyMatrices.calls h3), .call [] (impl_MultiplyMatrices.calls h4), .call [] (spec_MultiplyMatrices.calls h5), .br h6, .br h7, .call [] (impl_IsMatrix.calls h8), .call [] (spec_IsMatrix.calls h9), .br h10, .call [] (spec_DrawReduceMatrix.calls h11), .call [] (impl_ReduceMatrix.calls h12), .call [] (spec_ReduceMatrix.calls h13), .br h14, .br h15, .call [] (spec_DrawInverseMatrix.calls h16), .call [] (impl_InverseMatrix.calls h17), .call [] (spec_InverseMatrix.calls h18), .br h19, .br h20, .call [] (spec_DrawPowerMatrix.calls h21), .call [] (impl_PowerMatrix.calls h22), .call [] (spec_PowerMatrix.calls h23), .br h24, .br h25, .call [] (spec_DrawAreSameMatrices.calls h26), .call [] (impl_AreSameMatrices.calls h27), .call [] (spec_AreSameMatrices.calls h28), .br h29, .br h30] (by kernel_rfl))
                                                  (fun h30 h =>
                                                    ifE_cases h
                                                      (fun h31 h =>
                                                        bind_cases h fun r19 h32 h =>
                                                        ifE_cases h
                                                          (fun h33 h =>
                                                            leaf h fun e => by subst e; exact fin_ret Go.Proofs.Try.func3 mix 1000 [.call [] (laws_big.calls h1), .br h2, .call [] (spec_DrawMultiplyMatrices.calls h3), .call [] (impl_MultiplyMatrices.calls h4), .call [] (spec_MultiplyMatrices.calls h5), .br h6, .br h7, .call [] (impl_IsMatrix.calls h8), .call [] (spec_IsMatrix.calls h9), .br h10, .call [] (spec_DrawReduceMatrix.calls h11), .call [] (impl_ReduceMatrix.calls h12), .call [] (spec_ReduceMatrix.calls h13), .br h14, .br h15, .call [] (spec_DrawInverseMatrix.calls h16), .call [] (impl_InverseMatrix.calls h17), .call [] (spec_InverseMatrix.calls h18), .br h19, .br h20, .call [] (spec_DrawPowerMatrix.calls h21), .call [] (impl_PowerMatrix.calls h22), .call [] (spec_PowerMatrix.calls h23), .br h24, .br h25, .call [] (spec_DrawAreSameMatrices.calls h26), .call [] (impl_AreSameMatrices.calls h27), .call [] (spec_AreSameMatrices.calls h28), .br h29, .br h30, .br h31, .call [] (impl_AreSameMatrices.calls h32), .br h33] (by kernel_rfl))
                                                          (fun h33 h =>
                                                            ifE_cases h
                                                              (fun h34 h =>
                                                                leaf h fun e => by subst e; exact fin_ret Go.Proofs.Try.func3 mix 1000 [.call [] (laws_big.calls h1), .br h2, .call [] (spec_DrawMultiplyMatrices.calls h3), .call [] (impl_MultiplyMatrices.calls h4), .call [] (spec_MultiplyMatrices.calls h5), .br h6, .br h7, .call [] (impl_IsMatrix.calls h8), .call [] (spec_IsMatrix.calls h9), .br h10, .call [] (spec_DrawReduceMatrix.calls h11), .call [] (impl_ReduceMatrix.calls h12), .call [] (spec_ReduceMatrix.calls h13), .br h14, .br h15, .call [] (spec_DrawInverseMatrix.calls h16), .call [] (impl_InverseMatrix.calls h17), .call [] (spec_InverseMatrix.calls h18), .br h19, .br h20, .call [] (spec_DrawPowerMatrix.calls h21), .call [] (impl_PowerMatrix.calls h22), .call [] (spec_PowerMatrix.calls h23), .br h24, .br h25, .call [] (spec_DrawAreSameMatrices.calls h26), .call [] (impl_AreSameMatrices.calls h27), .call [] (spec_AreSameMatrices.calls h28), .br h29, .br h30, .br h31, .call [] (impl_AreSameMatrices.calls h32), .br h33, .br h34] (by kernel_rfl))
                                                              (fun h34 h =>
                                                                bind_cases h fun r20 h35 h =>
                                                                ifE_cases h
                                                                  (fun h36 h =>
                                                                    leaf h fun e => by subst e; exact fin_ret Go.Proofs.Try.func3 mix 1000 [.call [] (laws_big.calls h1), .br h2, .call [] (spec_DrawMultiplyMatrices.calls h3), .call [] (impl_MultiplyMatrices.calls h4), .call [] (spec_MultiplyMatrices.calls h5), .br h6, .br h7, .call [] (impl_IsMatrix.calls h8), .call [] (spec_IsMatrix.calls h9), .br h10, .call [] (spec_DrawReduceMatrix.calls h11), .call [] (impl_ReduceMatrix.calls h12), .call [] (spec_ReduceMatrix.calls h13), .br h14, .br h15, .call [] (spec_DrawInverseMatrix.calls h16), .call [] (impl_InverseMatrix.calls h17), .call [] (spec_InverseMatrix.calls h18), .br h19, .br h20, .call [] (spec_DrawPowerMatrix.calls h21), .call [] (impl_PowerMatrix.calls h22), .call [] (spec_PowerMatrix.calls h23), .br h24, .br h25, .call [] (spec_DrawAreSameMatrices.calls h26), .call [] (impl_AreSameMatrices.calls h27), .call [] (spec_AreSameMatrices.calls h28), .br h29, .br h30, .br h31, .call [] (impl_AreSameMatrices.calls h32), .br h33, .br h34, .call [] (impl_IsMatrix.calls h35), .br h36] (by kernel_rfl))
                                                                  (fun h36 h =>
                                                                    fin_fin Go.Proofs.Try.func3 mix 1000 [.call [] (laws_big.calls h1), .br h2, .call [] (spec_DrawMultiplyMatrices.calls h3), .call [] (impl_MultiplyMatrices.calls h4), .call [] (spec_MultiplyMatrices.calls h5), .br h6, .br h7, .call [] (impl_IsMatrix.calls h8), .call [] (spec_IsMatrix.calls h9), .br h10, .call [] (spec_DrawReduceMatrix.calls h11), .call [] (impl_ReduceMatrix.calls h12), .call [] (spec_ReduceMatrix.calls h13), .br h14, .br h15, .call [] (spec_DrawInverseMatrix.calls h16), .call [] (impl_InverseMatrix.calls h17), .call [] (spec_InverseMatrix.calls h18), .br h19, .br h20, .call [] (spec_DrawPowerMatrix.calls h21), .call [] (impl_PowerMatrix.calls h22), .call [] (spec_PowerMatrix.calls h23), .br h24, .br h25, .call [] (spec_DrawAreSameMatrices.calls h26), .call [] (impl_AreSameMatrices.calls h27), .call [] (spec_AreSameMatrices.calls h28), .br h29, .br h30, .br h31, .call [] (impl_AreSameMatrices.calls h32), .br h33, .br h34, .call [] (impl_IsMatrix.calls h35), .br h36, .fin 32 [3, 4, 5, 6, 14, 15, 16, 19, 20, 21, 22] [(3, 3), (4, 4), (5, 5), (14, 14), (15, 15), (19, 19), (21, 21)] (laws_FnMatrices.j32_ok r3.2 r11.2 r13.2 r14.2 r2.1.c0 r2.1.c1 r2.1.c2 r2.1.c3 r2.2.c0 r2.2.c1 r2.2.c2 r2.2.c3 r3.1.c0 r3.1.c1 r3.1.c2 r3.1.c3 r10.c0 r10.c1 r10.c2 r10.c3 r11.1.c0 r11.1.c1 r11.1.c2 r11.1.c3 r13.1.c0 r13.1.c1 r13.1.c2 r13.1.c3 r14.1.c0 r14.1.c1 r14.1.c2 r14.1.c3 r h)] (by kernel_rfl)))))
                                                      (fun h31 h =>
                                                        fin_fin Go.Proofs.Try.func3 mix 1000 [.call [] (laws_big.calls h1), .br h2, .call [] (spec_DrawMultiplyMatrices.calls h3), .call [] (impl_MultiplyMatrices.calls h4), .call [] (spec_MultiplyMatrices.calls h5), .br h6, .br h7, .call [] (impl_IsMatrix.calls h8), .call [] (spec_IsMatrix.calls h9), .br h10, .call [] (spec_DrawReduceMatrix.calls h11), .call [] (impl_ReduceMatrix.calls h12), .call [] (spec_ReduceMatrix.calls h13), .br h14, .br h15, .call [] (spec_DrawInverseMatrix.calls h16), .call [] (impl_InverseMatrix.calls h17), .call [] (spec_InverseMatrix.calls h18), .br h19, .br h20, .call [] (spec_DrawPowerMatrix.calls h21), .call [] (impl_PowerMatrix.calls h22), .call [] (spec_PowerMatrix.calls h23), .br h24, .br h25, .call [] (spec_DrawAreSameMatrices.calls h26), .call [] (impl_AreSameMatrices.calls h27), .call [] (spec_AreSameMatrices.calls h28), .br h29, .br h30, .br h31, .fin 32 [3, 4, 5, 6, 14, 15, 16, 19, 20, 21, 22] [(3, 3), (4, 4), (5, 5), (14, 14), (15, 15), (19, 19), (21, 21)] (laws_FnMatrices.j32_ok r3.2 r11.2 r13.2 r14.2 r2.1.c0 r2.1.c1 r2.1.c2 r2.1.c3 r2.2.c0 r2.2.c1 r2.2.c2 r2.2.c3 r3.1.c0 r3.1.c1 r3.1.c2 r3.1.c3 r10.c0 r10.c1 r10.c2 r10.c3 r11.1.c0 r11.1.c1 r11.1.c2 r11.1.c3 r13.1.c0 r13.1.c1 r13.1.c2 r13.1.c3 r14.1.c0 r14.1.c1 r14.1.c2 r14.1.c3 r h)] (by kernel_rfl))))))))))))))

end Go.GenTry
