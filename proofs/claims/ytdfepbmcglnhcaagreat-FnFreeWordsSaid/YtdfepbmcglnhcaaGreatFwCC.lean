import Derived.Test.YtdfepbmcglnhcaaGreatFwF
import Derived.Test.YtdfepbmcglnhcaaGreatFwCB
set_option linter.unusedVariables false
set_option maxRecDepth 100000
open Go Go.Eng
namespace Go.CTryz
open Go.Gn
theorem laws_likeInts.l4_ok (k : Nat) : ∀ (v0 : (List Int)) (v1 : (List Int)) (v5 : Int) (r : Bool), (laws_likeInts.l4 k) v0 v1 v5 = some r → Eng.Fin Go.Proofs.Tryz.prog 39 [] [] (B r) (itsL 4 (bodyOf Go.Proofs.Tryz.f39)) (mkS 26 [(0, R true 1 cI v0), (1, R true 1 cI v1), (5, I v5)] []) := by
  induction k with
  | zero => intro v0 v1 v5 r h; exact nomatch h
  | succ k ih =>
    exact fun v0 v1 v5 r h =>
      ifE_cases h
        (fun h1 h =>
          bind_cases h fun e1 h2 h =>
          bind_cases h fun e2 h3 h =>
          ifE_cases h
            (fun h4 h =>
              leaf h fun e => by subst e; exact fin_ret Go.Proofs.Tryz.func39 mix 1000 [.unroll, .br h1, .el (getE_el cI h2), .el (getE_el cI h3), .br h4] (by kernel_rfl))
            (fun h4 h =>
              fin_fin Go.Proofs.Tryz.func39 mix 1000 [.unroll, .br h1, .el (getE_el cI h2), .el (getE_el cI h3), .br h4, .fin 100000 [0, 1, 5] [] (ih v0 v1 (W (v5 + 1)) r h)] (by kernel_rfl)))
        (fun h1 h =>
          leaf h fun e => by subst e; exact fin_ret Go.Proofs.Tryz.func39 mix 1000 [.unroll, .br h1] (by kernel_rfl))

theorem laws_likeInts.calls {a0 : (List Int)} {a1 : (List Int)} {r : Bool} (h : laws_likeInts.f a0 a1 = some r) : Eng.Fn Go.Proofs.Tryz.prog 39 [R true 1 cI a0, R true 1 cI a1] [] [] (B r) :=
  fn_fin Go.Proofs.Tryz.func39 (c := bodyOf Go.Proofs.Tryz.f39) (by kernel_rfl) (by kernel_rfl) <|
    ifE_cases h
      (fun h1 h =>
        leaf h fun e => by subst e; exact fin_ret Go.Proofs.Tryz.func39 mix 1000 [.br h1] (by kernel_rfl))
      (fun h1 h =>
        fin_fin Go.Proofs.Tryz.func39 mix 1000 [.br h1, .fin 100000 [0, 1, 5] [] (laws_likeInts.l4_ok fuelN a0 a1 0 r h)] (by kernel_rfl))

theorem spec_l09Movers.j16_ok (a0 : SLu8eiu64) (rec9 : Int → Int → Int → Int → Int → Int → (List Int) → Int → Int → (List Siiii) → (List Siiib) → Option (Int × (List Siiii) × (List Siiib) × SLu8eiu64)) (rec9H : ∀ (v5 : Int) (v6 : Int) (v7 : Int) (v8 : Int) (v9 : Int) (v12 : Int) (o2000_0 : (List Int)) (o2000_1 : Int) (o2000_2 : Int) (o1010 : (List Siiii)) (o1011 : (List Siiib)) (r : (Int × (List Siiii) × (List Siiib) × SLu8eiu64)), rec9 v5 v6 v7 v8 v9 v12 o2000_0 o2000_1 o2000_2 o1010 o1011 = some r → Eng.Fin Go.Proofs.Tryz.prog 154 [(2000, .box [R true 1 (cK .u8) a0.c0, I a0.c1, K .u64 a0.c2])] [(2000, .box (SLu8eiu64.cells r.2.2.2))] (.tu [I r.1, R true 4 Siiii.cells r.2.1, R true 4 Siiib.cells r.2.2.1]) (itsL 9 (bodyOf Go.Proofs.Tryz.f154)) (mkS 120 [(0, .bx 2000 0), (5, I v5), (6, I v6), (7, I v7), (8, I v8), (9, I v9), (10, .ow 1010), (11, .ow 1011), (12, I v12)] [(2000, .box [R true 1 (cK .u8) o2000_0, I o2000_1, K .u64 o2000_2]), (1010, Row true 28 4 Siiii.cells o1010), (1011, Row true 74 4 Siiib.cells o1011)])) : ∀ (v5 : Int) (v6 : Int) (v7 : Int) (v8 : Int) (v9 : Int) (v12 : Int) (o2000_0 : (List Int)) (o2000_1 : Int) (o2000_2 : Int) (o1010 : (List Siiii)) (o1011 : (List Siiib)) (o13_0 : Int) (o13_1 : Int) (o13_2 : Int) (o14_0 : Int) (o14_1 : Int) (o14_2 : Int) (o15_0 : Int) (o15_1 : Int) (o15_2 : Int) (o15_3 : Int) (r : (Int × (List Siiii) × (List Siiib) × SLu8eiu64)), (spec_l09Movers.j16 rec9) v5 v6 v7 v8 v9 v12 o2000_0 o2000_1 o2000_2 o1010 o1011 o13_0 o13_1 o13_2 o14_0 o14_1 o14_2 o15_0 o15_1 o15_2 o15_3 = some r → Eng.Fin Go.Proofs.Tryz.prog 154 [(2000, .box [R true 1 (cK .u8) a0.c0, I a0.c1, K .u64 a0.c2])] [(2000, .box (SLu8eiu64.cells r.2.2.2))] (.tu [I r.1, R true 4 Siiii.cells r.2.1, R true 4 Siiib.cells r.2.2.1]) (itsR 16 (bodyOf Go.Proofs.Tryz.f154)) (mkS 120 [(0, .bx 2000 0), (5, I v5), (6, I v6), (7, I v7), (8, I v8), (9, I v9), (10, .ow 1010), (11, .ow 1011), (12, I v12), (13, .bx 13 0), (14, .bx 14 0), (15, .bx 15 0)] [(2000, .box [R true 1 (cK .u8) o2000_0, I o2000_1, K .u64 o2000_2]), (1010, Row true 28 4 Siiii.cells o1010), (1011, Row true 74 4 Siiib.cells o1011), (13, .box [I o13_0, I o13_1, I o13_2]), (14, .box [I o14_0, I o14_1, I o14_2]), (15, .box [I o15_0, I o15_1, I o15_2, I o15_3])]) :=
  fun v5 v6 v7 v8 v9 v12 o2000_0 o2000_1 o2000_2 o1010 o1011 o13_0 o13_1 o13_2 o14_0 o14_1 o14_2 o15_0 o15_1 o15_2 o15_3 r h =>
    guardE_cases h fun h1 h =>
    guardE_cases h fun h2 h =>
    fin_fin Go.Proofs.Tryz.func154 mix 1000 [.le h1, .cat (cat_of Siiii.cells o1010 [(⟨o15_0, o15_1, o15_2, o15_3⟩ : Siiii)]), .le h2, .cat (cat_of Siiib.cells o1011 [(⟨o13_0, o13_1, o13_2, false⟩ : Siiib), (⟨o14_0, o14_1, o14_2, false⟩ : Siiib)]), .fin 100000 [0, 5, 6, 7, 8, 9, 10, 11, 12] [(2000, 2000), (74, 1010), (81, 1011)] (rec9H v5 v6 v7 v8 v9 (W (v12 + 1)) o2000_0 o2000_1 o2000_2 (o1010 ++ [(⟨o15_0, o15_1, o15_2, o15_3⟩ : Siiii)]) (o1011 ++ [(⟨o13_0, o13_1, o13_2, false⟩ : Siiib), (⟨o14_0, o14_1, o14_2, false⟩ : Siiib)]) r h)] (by kernel_rfl)

theorem spec_l09Movers.l9_ok (a0 : SLu8eiu64) (k : Nat) : ∀ (v5 : Int) (v6 : Int) (v7 : Int) (v8 : Int) (v9 : Int) (v12 : Int) (o2000_0 : (List Int)) (o2000_1 : Int) (o2000_2 : Int) (o1010 : (List Siiii)) (o1011 : (List Siiib)) (r : (Int × (List Siiii) × (List Siiib) × SLu8eiu64)), (spec_l09Movers.l9 k) v5 v6 v7 v8 v9 v12 o2000_0 o2000_1 o2000_2 o1010 o1011 = some r → Eng.Fin Go.Proofs.Tryz.prog 154 [(2000, .box [R true 1 (cK .u8) a0.c0, I a0.c1, K .u64 a0.c2])] [(2000, .box (SLu8eiu64.cells r.2.2.2))] (.tu [I r.1, R true 4 Siiii.cells r.2.1, R true 4 Siiib.cells r.2.2.1]) (itsL 9 (bodyOf Go.Proofs.Tryz.f154)) (mkS 120 [(0, .bx 2000 0), (5, I v5), (6, I v6), (7, I v7), (8, I v8), (9, I v9), (10, .ow 1010), (11, .ow 1011), (12, I v12)] [(2000, .box [R true 1 (cK .u8) o2000_0, I o2000_1, K .u64 o2000_2]), (1010, Row true 28 4 Siiii.cells o1010), (1011, Row true 74 4 Siiib.cells o1011)]) := by
  induction k with
  | zero => intro v5 v6 v7 v8 v9 v12 o2000_0 o2000_1 o2000_2 o1010 o1011 r h; exact nomatch h
  | succ k ih =>
    exact fun v5 v6 v7 v8 v9 v12 o2000_0 o2000_1 o2000_2 o1010 o1011 r h =>
      ifE_cases h
        (fun h1 h =>
          guardE_cases h fun h2 h =>
          guardE_cases h fun h3 h =>
          bind_cases h fun r4 h4 h =>
          ifE_cases h
            (fun h5 h =>
              fin_fin Go.Proofs.Tryz.func154 mix 1000 [.unroll, .br h1, .nz h2, .nz h3, .call [] (spec_l09Paired.calls h4), .br h5, .fin 16 [0, 5, 6, 7, 8, 9, 10, 11, 12, 13, 14, 15] [(2000, 2000), (1010, 1010), (1011, 1011), (13, 13), (14, 14), (15, 15)] (spec_l09Movers.j16_ok a0 (spec_l09Movers.l9 k) ih v5 v6 v7 v8 v9 v12 o2000_0 o2000_1 o2000_2 o1010 o1011 v6 (Int.tmod (W (v9 + (W (2 * v12)))) v7) 0 v6 (Int.tmod (W ((W (v9 + (W (2 * v12)))) + 1)) v7) 0 1 0 0 1 r h)] (by kernel_rfl))
            (fun h5 h =>
              fin_fin Go.Proofs.Tryz.func154 mix 1000 [.unroll, .br h1, .nz h2, .nz h3, .call [] (spec_l09Paired.calls h4), .br h5, .fin 16 [0, 5, 6, 7, 8, 9, 10, 11, 12, 13, 14, 15] [(2000, 2000), (1010, 1010), (1011, 1011), (13, 13), (14, 14), (15, 15)] (spec_l09Movers.j16_ok a0 (spec_l09Movers.l9 k) ih v5 v6 v7 v8 v9 v12 o2000_0 o2000_1 o2000_2 o1010 o1011 v6 (Int.tmod (W (v9 + (W (2 * v12)))) v7) 0 v6 (Int.tmod (W ((W (v9 + (W (2 * v12)))) + 1)) v7) 0 r4.1.c0 r4.1.c1 r4.1.c2 r4.1.c3 r h)] (by kernel_rfl)))
        (fun h1 h =>
          bind_cases h fun r5 h6 h =>
          ifE_cases h
            (fun h7 h =>
              bind_cases h fun r6 h8 h =>
              bind_cases h fun e7 h9 h =>
              leaf h fun e => by subst e; exact fin_ret Go.Proofs.Tryz.func154 mix 1000 [.unroll, .br h1, .call [(2000, 2000)] (spec_l01Next.calls h6), .br h7, .call [(2000, 2000)] (spec_l04Draw.calls h8), .ib (getE_ib h9), .el (getE_pw Siiii.cells h9), .upd (set_of Siiii.cells o1010 (Int.toNat 0) r6.1), .adj 200000 (.frz (.sl 3)), .adj 200000 (.frz (.sl 4))] (by kernel_rfl))
            (fun h7 h =>
              ifE_cases h
                (fun h10 h =>
                  bind_cases h fun r8 h11 h =>
                  bind_cases h fun r9 h12 h =>
                  bind_cases h fun e10 h13 h =>
                  leaf h fun e => by subst e; exact fin_ret Go.Proofs.Tryz.func154 mix 1000 [.unroll, .br h1, .call [(2000, 2000)] (spec_l01Next.calls h6), .br h7, .br h10, .call [(2000, 2000)] (spec_l01Next.calls h11), .call [(2000, 2000)] (spec_l09Side.calls h12), .ib (getE_ib h13), .el (getE_pw Siiib.cells h13), .upd (set_of Siiib.cells o1011 (Int.toNat r8.1) r9.1), .adj 200000 (.frz (.sl 3)), .adj 200000 (.frz (.sl 4))] (by kernel_rfl))
                (fun h10 h =>
                  ifE_cases h
                    (fun h14 h =>
                      bind_cases h fun l11 h15 h =>
                      leaf h fun e => by subst e; exact fin_ret Go.Proofs.Tryz.func154 mix 1000 [.unroll, .br h1, .call [(2000, 2000)] (spec_l01Next.calls h6), .br h7, .br h10, .br h14, .adj 24 (.frz (.sl 11)), .seg (getS_seg Siiib.cells h15), .adj 200000 (.frz (.sl 3))] (by kernel_rfl))
                    (fun h14 h =>
                      ifE_cases h
                        (fun h16 h =>
                          leaf h fun e => by subst e; exact fin_ret Go.Proofs.Tryz.func154 mix 1000 [.unroll, .br h1, .call [(2000, 2000)] (spec_l01Next.calls h6), .br h7, .br h10, .br h14, .br h16, .adj 200000 (.frz (.sl 3)), .adj 200000 (.frz (.sl 4))] (by kernel_rfl))
                        (fun h16 h =>
                          leaf h fun e => by subst e; exact fin_ret Go.Proofs.Tryz.func154 mix 1000 [.unroll, .br h1, .call [(2000, 2000)] (spec_l01Next.calls h6), .br h7, .br h10, .br h14, .br h16, .adj 200000 (.frz (.sl 3)), .adj 200000 (.frz (.sl 4))] (by kernel_rfl))))))

theorem spec_l09Movers.j6_ok (a0 : SLu8eiu64) : ∀ (v5 : Int) (v6 : Int) (v7 : Int) (o2000_0 : (List Int)) (o2000_1 : Int) (o2000_2 : Int) (r : (Int × (List Siiii) × (List Siiib) × SLu8eiu64)), (spec_l09Movers.j6) v5 v6 v7 o2000_0 o2000_1 o2000_2 = some r → Eng.Fin Go.Proofs.Tryz.prog 154 [(2000, .box [R true 1 (cK .u8) a0.c0, I a0.c1, K .u64 a0.c2])] [(2000, .box (SLu8eiu64.cells r.2.2.2))] (.tu [I r.1, R true 4 Siiii.cells r.2.1, R true 4 Siiib.cells r.2.2.1]) (itsR 6 (bodyOf Go.Proofs.Tryz.f154)) (mkS 120 [(0, .bx 2000 0), (5, I v5), (6, I v6), (7, I v7)] [(2000, .box [R true 1 (cK .u8) o2000_0, I o2000_1, K .u64 o2000_2])]) :=
  fun v5 v6 v7 o2000_0 o2000_1 o2000_2 r h =>
    bind_cases h fun r2 h1 h =>
    bind_cases h fun r3 h2 h =>
    fin_fin Go.Proofs.Tryz.func154 mix 1000 [.nz (y := 2) (by decide), .call [(2000, 2000)] (spec_l01Next.calls h1), .call [(2000, 2000)] (spec_l01Next.calls h2), .fin 100000 [0, 5, 6, 7, 8, 9, 10, 11, 12] [(2000, 2000), (35, 1010), (36, 1011)] (spec_l09Movers.l9_ok a0 fuelN v5 v6 v7 (W (1 + r2.1)) r3.1 0 r3.2.c0 r3.2.c1 r3.2.c2 [] [] r h)] (by kernel_rfl)

theorem spec_l09Movers.calls {a0 : SLu8eiu64} {r : (Int × (List Siiii) × (List Siiib) × SLu8eiu64)} (h : spec_l09Movers.f a0 = some r) : Eng.Fn Go.Proofs.Tryz.prog 154 [.bx 2000 0] [(2000, .box [R true 1 (cK .u8) a0.c0, I a0.c1, K .u64 a0.c2])] [(2000, .box (SLu8eiu64.cells r.2.2.2))] (.tu [I r.1, R true 4 Siiii.cells r.2.1, R true 4 Siiib.cells r.2.2.1]) :=
  fn_fin Go.Proofs.Tryz.func154 (c := bodyOf Go.Proofs.Tryz.f154) (by kernel_rfl) (by kernel_rfl) <|
    bind_cases h fun r1 h1 h =>
    ifE_cases h
      (fun h2 h =>
        fin_fin Go.Proofs.Tryz.func154 mix 1000 [.call [(2000, 2000)] (spec_l01Pick.calls h1), .br h2, .fin 6 [0, 5, 6, 7] [(2000, 2000)] (spec_l09Movers.j6_ok a0 r1.1 2 (W (r1.1 * r1.1)) r1.2.c0 r1.2.c1 r1.2.c2 r h)] (by kernel_rfl))
      (fun h2 h =>
        fin_fin Go.Proofs.Tryz.func154 mix 1000 [.call [(2000, 2000)] (spec_l01Pick.calls h1), .br h2, .fin 6 [0, 5, 6, 7] [(2000, 2000)] (spec_l09Movers.j6_ok a0 r1.1 1 r1.1 r1.2.c0 r1.2.c1 r1.2.c2 r h)] (by kernel_rfl))

theorem spec_l09Words.l3_ok (a0 : SLu8eiu64) (k : Nat) : ∀ (v1 : Int) (v6 : Int) (o2000_0 : (List Int)) (o2000_1 : Int) (o2000_2 : Int) (o1005 : (List Int)) (r : ((List Int) × SLu8eiu64)), (spec_l09Words.l3 k) v1 v6 o2000_0 o2000_1 o2000_2 o1005 = some r → Eng.Fin Go.Proofs.Tryz.prog 155 [(2000, .box [R true 1 (cK .u8) a0.c0, I a0.c1, K .u64 a0.c2])] [(2000, .box (SLu8eiu64.cells r.2))] (R true 1 cI r.1) (itsL 3 (bodyOf Go.Proofs.Tryz.f155)) (mkS 68 [(0, .bx 2000 0), (1, I v1), (5, .ow 1005), (6, I v6)] [(2000, .box [R true 1 (cK .u8) o2000_0, I o2000_1, K .u64 o2000_2]), (1005, Row true 2 1 cI o1005)]) := by
  induction k with
  | zero => intro v1 v6 o2000_0 o2000_1 o2000_2 o1005 r h; exact nomatch h
  | succ k ih =>
    exact fun v1 v6 o2000_0 o2000_1 o2000_2 o1005 r h =>
      ifE_cases h
        (fun h1 h =>
          bind_cases h fun r3 h2 h =>
          bind_cases h fun r4 h3 h =>
          ifE_cases h
            (fun h4 h =>
              bind_cases h fun e5 h5 h =>
              ifE_cases h
                (fun h6 h =>
                  bind_cases h fun r6 h7 h =>
                  ifE_cases h
                    (fun h8 h =>
                      guardE_cases h fun h9 h =>
                      fin_fin Go.Proofs.Tryz.func155 mix 1000 [.unroll, .br h1, .call [(2000, 2000)] (spec_l01Next.calls h2), .call [(2000, 2000)] (spec_l01Next.calls h3), .br h4, .ib (getE_ib h5), .el (getE_pw cI h5), .br h6, .call [(2000, 2000)] (spec_l01Next.calls h7), .br h8, .le h9, .cat (cat_of cI o1005 [W (0 - (W ((W (1 + r3.1)) * (W (1 - (W (2 * r4.1)))))))]), .fin 100000 [0, 1, 5, 6] [(2000, 2000), (52, 1005)] (ih v1 (W (v6 - 1)) r6.2.c0 r6.2.c1 r6.2.c2 (o1005 ++ [W (0 - (W ((W (1 + r3.1)) * (W (1 - (W (2 * r4.1)))))))]) r h)] (by kernel_rfl))
                    (fun h8 h =>
                      guardE_cases h fun h10 h =>
                      fin_fin Go.Proofs.Tryz.func155 mix 1000 [.unroll, .br h1, .call [(2000, 2000)] (spec_l01Next.calls h2), .call [(2000, 2000)] (spec_l01Next.calls h3), .br h4, .ib (getE_ib h5), .el (getE_pw cI h5), .br h6, .call [(2000, 2000)] (spec_l01Next.calls h7), .br h8, .le h10, .cat (cat_of cI o1005 [W ((W (1 + r3.1)) * (W (1 - (W (2 * r4.1)))))]), .fin 100000 [0, 1, 5, 6] [(2000, 2000), (52, 1005)] (ih v1 (W (v6 - 1)) r6.2.c0 r6.2.c1 r6.2.c2 (o1005 ++ [W ((W (1 + r3.1)) * (W (1 - (W (2 * r4.1)))))]) r h)] (by kernel_rfl)))
                (fun h6 h =>
                  guardE_cases h fun h11 h =>
                  fin_fin Go.Proofs.Tryz.func155 mix 1000 [.unroll, .br h1, .call [(2000, 2000)] (spec_l01Next.calls h2), .call [(2000, 2000)] (spec_l01Next.calls h3), .br h4, .ib (getE_ib h5), .el (getE_pw cI h5), .br h6, .le h11, .cat (cat_of cI o1005 [W ((W (1 + r3.1)) * (W (1 - (W (2 * r4.1)))))]), .fin 100000 [0, 1, 5, 6] [(2000, 2000), (52, 1005)] (ih v1 (W (v6 - 1)) r4.2.c0 r4.2.c1 r4.2.c2 (o1005 ++ [W ((W (1 + r3.1)) * (W (1 - (W (2 * r4.1)))))]) r h)] (by kernel_rfl)))
            (fun h4 h =>
              guardE_cases h fun h12 h =>
              fin_fin Go.Proofs.Tryz.func155 mix 1000 [.unroll, .br h1, .call [(2000, 2000)] (spec_l01Next.calls h2), .call [(2000, 2000)] (spec_l01Next.calls h3), .br h4, .le h12, .cat (cat_of cI o1005 [W ((W (1 + r3.1)) * (W (1 - (W (2 * r4.1)))))]), .fin 100000 [0, 1, 5, 6] [(2000, 2000), (52, 1005)] (ih v1 (W (v6 - 1)) r4.2.c0 r4.2.c1 r4.2.c2 (o1005 ++ [W ((W (1 + r3.1)) * (W (1 - (W (2 * r4.1)))))]) r h)] (by kernel_rfl)))
        (fun h1 h =>
          bind_cases h fun r7 h13 h =>
          ifE_cases h
            (fun h14 h =>
              bind_cases h fun r8 h15 h =>
              guardE_cases h fun h16 h =>
              leaf h fun e => by subst e; exact fin_ret Go.Proofs.Tryz.func155 mix 1000 [.unroll, .br h1, .call [(2000, 2000)] (spec_l01Next.calls h13), .br h14, .call [(2000, 2000)] (spec_l01Pick.calls h15), .le h16, .cat (cat_of cI o1005 [r8.1]), .adj 200000 (.frz (.sl 4))] (by kernel_rfl))
            (fun h14 h =>
              leaf h fun e => by subst e; exact fin_ret Go.Proofs.Tryz.func155 mix 1000 [.unroll, .br h1, .call [(2000, 2000)] (spec_l01Next.calls h13), .br h14, .adj 200000 (.frz (.sl 4))] (by kernel_rfl)))

theorem spec_l09Words.calls {a0 : SLu8eiu64} {a1 : Int} {r : ((List Int) × SLu8eiu64)} (h : spec_l09Words.f a0 a1 = some r) : Eng.Fn Go.Proofs.Tryz.prog 155 [.bx 2000 0, I a1] [(2000, .box [R true 1 (cK .u8) a0.c0, I a0.c1, K .u64 a0.c2])] [(2000, .box (SLu8eiu64.cells r.2))] (R true 1 cI r.1) :=
  fn_fin Go.Proofs.Tryz.func155 (c := bodyOf Go.Proofs.Tryz.f155) (by kernel_rfl) (by kernel_rfl) <|
    bind_cases h fun r1 h1 h =>
    bind_cases h fun r2 h2 h =>
    fin_fin Go.Proofs.Tryz.func155 mix 1000 [.call [(2000, 2000)] (spec_l01Next.calls h1), .call [(2000, 2000)] (spec_l01Pick.calls h2), .fin 100000 [0, 1, 5, 6] [(2000, 2000), (9, 1005)] (spec_l09Words.l3_ok a0 fuelN a1 r2.1 r2.2.c0 r2.2.c1 r2.2.c2 [] r h)] (by kernel_rfl)

theorem spec_DrawSideOfWord.calls {a0 : (List Int)} {r : (Int × (List Siiii) × (List Siiib) × (List Int))} (h : spec_DrawSideOfWord.f a0 = some r) : Eng.Fn Go.Proofs.Tryz.prog 49 [R true 1 (cK .u8) a0] [] [] (.tu [I r.1, R true 4 Siiii.cells r.2.1, R true 4 Siiib.cells r.2.2.1, R true 1 cI r.2.2.2]) :=
  fn_fin Go.Proofs.Tryz.func49 (c := bodyOf Go.Proofs.Tryz.f49) (by kernel_rfl) (by kernel_rfl) <|
    bind_cases h fun r1 h1 h =>
    bind_cases h fun r2 h2 h =>
    bind_cases h fun r3 h3 h =>
    leaf h fun e => by subst e; exact fin_ret Go.Proofs.Tryz.func49 mix 1000 [.call [(11, 11)] (spec_l01From.calls h1), .call [(11, 2000)] (spec_l09Movers.calls h2), .call [(11, 2000)] (spec_l09Words.calls h3)] (by kernel_rfl)

theorem impl_isWord.l2_ok (k : Nat) : ∀ (v0 : Int) (v1 : (List Int)) (v7 : (List Int)) (v8 : Int) (v9 : Int) (r : Bool), (impl_isWord.l2 k) v0 v1 v7 v8 v9 = some r → Eng.Fin Go.Proofs.Tryz.prog 157 [] [] (B r) (itsL 2 (bodyOf Go.Proofs.Tryz.f157)) (mkS 26 [(0, I v0), (1, R true 1 cI v1), (7, R true 1 cI v7), (8, I v8), (9, I v9)] []) := by
  induction k with
  | zero => intro v0 v1 v7 v8 v9 r h; exact nomatch h
  | succ k ih =>
    exact fun v0 v1 v7 v8 v9 r h =>
      ifE_cases h
        (fun h1 h =>
          bind_cases h fun e1 h2 h =>
          ifE_cases h
            (fun h3 h =>
              leaf h fun e => by subst e; exact fin_ret Go.Proofs.Tryz.func157 mix 1000 [.unroll, .br h1, .el (getE_el cI h2), .br h3] (by kernel_rfl))
            (fun h3 h =>
              bind_cases h fun r2 h4 h =>
              ifE_cases h
                (fun h5 h =>
                  leaf h fun e => by subst e; exact fin_ret Go.Proofs.Tryz.func157 mix 1000 [.unroll, .br h1, .el (getE_el cI h2), .br h3, .call [] (impl_within.calls h4), .br h5] (by kernel_rfl))
                (fun h5 h =>
                  fin_fin Go.Proofs.Tryz.func157 mix 1000 [.unroll, .br h1, .el (getE_el cI h2), .br h3, .call [] (impl_within.calls h4), .br h5, .fin 100000 [0, 1, 7, 8, 9] [] (ih v0 v1 v7 v8 (W (v9 + 1)) r h)] (by kernel_rfl))))
        (fun h1 h =>
          leaf h fun e => by subst e; exact fin_ret Go.Proofs.Tryz.func157 mix 1000 [.unroll, .br h1] (by kernel_rfl))

theorem impl_isWord.calls {a0 : Int} {a1 : (List Int)} {r : Bool} (h : impl_isWord.f a0 a1 = some r) : Eng.Fn Go.Proofs.Tryz.prog 157 [I a0, R true 1 cI a1] [] [] (B r) :=
  fn_fin Go.Proofs.Tryz.func157 (c := bodyOf Go.Proofs.Tryz.f157) (by kernel_rfl) (by kernel_rfl) <|
    fin_fin Go.Proofs.Tryz.func157 mix 1000 [.fin 100000 [0, 1, 7, 8, 9] [] (impl_isWord.l2_ok fuelN a0 a1 a1 (a1.length : Int) 0 r h)] (by kernel_rfl)

theorem impl_isShort.l2_ok (k : Nat) : ∀ (v0 : (List Int)) (v3 : Int) (r : Bool), (impl_isShort.l2 k) v0 v3 = some r → Eng.Fin Go.Proofs.Tryz.prog 158 [] [] (B r) (itsL 2 (bodyOf Go.Proofs.Tryz.f158)) (mkS 21 [(0, R true 1 cI v0), (3, I v3)] []) := by
  induction k with
  | zero => intro v0 v3 r h; exact nomatch h
  | succ k ih =>
    exact fun v0 v3 r h =>
      ifE_cases h
        (fun h1 h =>
          bind_cases h fun e1 h2 h =>
          bind_cases h fun e2 h3 h =>
          ifE_cases h
            (fun h4 h =>
              leaf h fun e => by subst e; exact fin_ret Go.Proofs.Tryz.func158 mix 1000 [.unroll, .br h1, .el (getE_el cI h2), .el (getE_el cI h3), .br h4] (by kernel_rfl))
            (fun h4 h =>
              fin_fin Go.Proofs.Tryz.func158 mix 1000 [.unroll, .br h1, .el (getE_el cI h2), .el (getE_el cI h3), .br h4, .fin 100000 [0, 3] [] (ih v0 (W (v3 + 1)) r h)] (by kernel_rfl)))
        (fun h1 h =>
          leaf h fun e => by subst e; exact fin_ret Go.Proofs.Tryz.func158 mix 1000 [.unroll, .br h1] (by kernel_rfl))

theorem impl_isShort.calls {a0 : (List Int)} {r : Bool} (h : impl_isShort.f a0 = some r) : Eng.Fn Go.Proofs.Tryz.prog 158 [R true 1 cI a0] [] [] (B r) :=
  fn_fin Go.Proofs.Tryz.func158 (c := bodyOf Go.Proofs.Tryz.f158) (by kernel_rfl) (by kernel_rfl) <|
    fin_fin Go.Proofs.Tryz.func158 mix 1000 [.fin 100000 [0, 3] [] (impl_isShort.l2_ok fuelN a0 1 r h)] (by kernel_rfl)

theorem impl_letterSide.calls {a0 : (List Siiib)} {a1 : Int} {r : Siiib} (h : impl_letterSide.f a0 a1 = some r) : Eng.Fn Go.Proofs.Tryz.prog 159 [R true 4 Siiib.cells a0, I a1] [] [] (.ag (Siiib.cells r)) :=
  fn_fin Go.Proofs.Tryz.func159 (c := bodyOf Go.Proofs.Tryz.f159) (by kernel_rfl) (by kernel_rfl) <|
    ifE_cases h
      (fun h1 h =>
        bind_cases h fun e1 h2 h =>
        leaf h fun e => by subst e; exact fin_ret Go.Proofs.Tryz.func159 mix 1000 [.br h1, .el (getE_el Siiib.cells h2)] (by kernel_rfl))
      (fun h1 h =>
        bind_cases h fun e2 h3 h =>
        leaf h fun e => by subst e; exact fin_ret Go.Proofs.Tryz.func159 mix 1000 [.br h1, .el (getE_el Siiib.cells h3)] (by kernel_rfl))

theorem impl_letterMatrix.calls {a0 : (List Siiii)} {a1 : Int} {r : Siiii} (h : impl_letterMatrix.f a0 a1 = some r) : Eng.Fn Go.Proofs.Tryz.prog 161 [R true 4 Siiii.cells a0, I a1] [] [] (.ag (Siiii.cells r)) :=
  fn_fin Go.Proofs.Tryz.func161 (c := bodyOf Go.Proofs.Tryz.f161) (by kernel_rfl) (by kernel_rfl) <|
    ifE_cases h
      (fun h1 h =>
        bind_cases h fun e1 h2 h =>
        bind_cases h fun r2 h3 h =>
        leaf h fun e => by subst e; exact fin_ret Go.Proofs.Tryz.func161 mix 1000 [.br h1, .el (getE_el Siiii.cells h2), .call [] (impl_inverted.calls h3)] (by kernel_rfl))
      (fun h1 h =>
        bind_cases h fun e3 h4 h =>
        bind_cases h fun r4 h5 h =>
        leaf h fun e => by subst e; exact fin_ret Go.Proofs.Tryz.func161 mix 1000 [.br h1, .el (getE_el Siiii.cells h4), .call [] (impl_reduce.calls h5)] (by kernel_rfl))

theorem impl_SideOfWord.l13_ok (k : Nat) : ∀ (v0 : Int) (v1 : (List Siiii)) (v3 : (List Int)) (v14 : Int) (o8_0 : Int) (o8_1 : Int) (o8_2 : Int) (o8_3 : Bool) (o13_0 : Int) (o13_1 : Int) (o13_2 : Int) (o13_3 : Bool) (r : (Siiib × Int)), (impl_SideOfWord.l13 k) v0 v1 v3 v14 o8_0 o8_1 o8_2 o8_3 o13_0 o13_1 o13_2 o13_3 = some r → Eng.Fin Go.Proofs.Tryz.prog 50 [] [] (.tu [.ag (Siiib.cells r.1), I r.2]) (itsL 13 (bodyOf Go.Proofs.Tryz.f50)) (mkS 90 [(0, I v0), (1, R true 4 Siiii.cells v1), (3, R true 1 cI v3), (8, .bx 8 0), (13, .bx 13 0), (14, I v14)] [(8, .box [I o8_0, I o8_1, I o8_2, B o8_3]), (13, .box [I o13_0, I o13_1, I o13_2, B o13_3])]) := by
  induction k with
  | zero => intro v0 v1 v3 v14 o8_0 o8_1 o8_2 o8_3 o13_0 o13_1 o13_2 o13_3 r h; exact nomatch h
  | succ k ih =>
    exact fun v0 v1 v3 v14 o8_0 o8_1 o8_2 o8_3 o13_0 o13_1 o13_2 o13_3 r h =>
      ifE_cases h
        (fun h1 h =>
          bind_cases h fun e6 h2 h =>
          bind_cases h fun r7 h3 h =>
          bind_cases h fun r8 h4 h =>
          ifE_cases h
            (fun h5 h =>
              leaf h fun e => by subst e; exact fin_ret Go.Proofs.Tryz.func50 mix 1000 [.unroll, .br h1, .el (getE_el cI h2), .call [] (impl_letterMatrix.calls h3), .call [] (impl_moveSide.calls h4), .br h5] (by kernel_rfl))
            (fun h5 h =>
              fin_fin Go.Proofs.Tryz.func50 mix 1000 [.unroll, .br h1, .el (getE_el cI h2), .call [] (impl_letterMatrix.calls h3), .call [] (impl_moveSide.calls h4), .br h5, .fin 100000 [0, 1, 3, 8, 13, 14] [(8, 8), (13, 13)] (ih v0 v1 v3 (W (v14 - 1)) o8_0 o8_1 o8_2 o8_3 r8.1.c0 r8.1.c1 r8.1.c2 r8.1.c3 r h)] (by kernel_rfl)))
        (fun h1 h =>
          leaf h fun e => by subst e; exact fin_ret Go.Proofs.Tryz.func50 mix 1000 [.unroll, .br h1] (by kernel_rfl))

theorem impl_SideOfWord.calls {a0 : Int} {a1 : (List Siiii)} {a2 : (List Siiib)} {a3 : (List Int)} {r : (Siiib × Int)} (h : impl_SideOfWord.f a0 a1 a2 a3 = some r) : Eng.Fn Go.Proofs.Tryz.prog 50 [I a0, R true 4 Siiii.cells a1, R true 4 Siiib.cells a2, R true 1 cI a3] [] [] (.tu [.ag (Siiib.cells r.1), I r.2]) :=
  fn_fin Go.Proofs.Tryz.func50 (c := bodyOf Go.Proofs.Tryz.f50) (by kernel_rfl) (by kernel_rfl) <|
    bind_cases h fun r1 h1 h =>
    ifE_cases h
      (fun h2 h =>
        leaf h fun e => by subst e; exact fin_ret Go.Proofs.Tryz.func50 mix 1000 [.call [] (impl_freeCode.calls h1), .br h2] (by kernel_rfl))
      (fun h2 h =>
        ifE_cases h
          (fun h3 h =>
            leaf h fun e => by subst e; exact fin_ret Go.Proofs.Tryz.func50 mix 1000 [.call [] (impl_freeCode.calls h1), .br h2, .br h3] (by kernel_rfl))
          (fun h3 h =>
            bind_cases h fun r2 h4 h =>
            ifE_cases h
              (fun h5 h =>
                leaf h fun e => by subst e; exact fin_ret Go.Proofs.Tryz.func50 mix 1000 [.call [] (impl_freeCode.calls h1), .br h2, .br h3, .call [] (impl_isWord.calls h4), .br h5] (by kernel_rfl))
              (fun h5 h =>
                ifE_cases h
                  (fun h6 h =>
                    leaf h fun e => by subst e; exact fin_ret Go.Proofs.Tryz.func50 mix 1000 [.call [] (impl_freeCode.calls h1), .br h2, .br h3, .call [] (impl_isWord.calls h4), .br h5, .br h6] (by kernel_rfl))
                  (fun h6 h =>
                    ifE_cases h
                      (fun h7 h =>
                        leaf h fun e => by subst e; exact fin_ret Go.Proofs.Tryz.func50 mix 1000 [.call [] (impl_freeCode.calls h1), .br h2, .br h3, .call [] (impl_isWord.calls h4), .br h5, .br h6, .br h7] (by kernel_rfl))
                      (fun h7 h =>
                        bind_cases h fun r3 h8 h =>
                        ifE_cases h
                          (fun h9 h =>
                            leaf h fun e => by subst e; exact fin_ret Go.Proofs.Tryz.func50 mix 1000 [.call [] (impl_freeCode.calls h1), .br h2, .br h3, .call [] (impl_isWord.calls h4), .br h5, .br h6, .br h7, .call [] (impl_isShort.calls h8), .br h9] (by kernel_rfl))
                          (fun h9 h =>
                            ifE_cases h
                              (fun h10 h =>
                                leaf h fun e => by subst e; exact fin_ret Go.Proofs.Tryz.func50 mix 1000 [.call [] (impl_freeCode.calls h1), .br h2, .br h3, .call [] (impl_isWord.calls h4), .br h5, .br h6, .br h7, .call [] (impl_isShort.calls h8), .br h9, .br h10] (by kernel_rfl))
                              (fun h10 h =>
                                bind_cases h fun e4 h11 h =>
                                bind_cases h fun r5 h12 h =>
                                fin_fin Go.Proofs.Tryz.func50 mix 1000 [.call [] (impl_freeCode.calls h1), .br h2, .br h3, .call [] (impl_isWord.calls h4), .br h5, .br h6, .br h7, .call [] (impl_isShort.calls h8), .br h9, .br h10, .el (getE_el cI h11), .call [] (impl_letterSide.calls h12), .fin 100000 [0, 1, 3, 8, 13, 14] [(8, 8), (13, 13)] (impl_SideOfWord.l13_ok fuelN a0 a1 a3 (W ((W ((a3.length : Int) - 1)) - 1)) 0 0 0 false r5.c0 r5.c1 r5.c2 r5.c3 r h)] (by kernel_rfl))))))))

theorem spec_l09List.l4_ok (k : Nat) : ∀ (v1 : (List Siiii)) (v2 : (List Siiib)) (v7 : Int) (r : Int), (spec_l09List.l4 k) v1 v2 v7 = some r → Eng.Fin Go.Proofs.Tryz.prog 162 [] [] (I r) (itsL 4 (bodyOf Go.Proofs.Tryz.f162)) (mkS 40 [(1, R true 4 Siiii.cells v1), (2, R true 4 Siiib.cells v2), (7, I v7)] []) := by
  induction k with
  | zero => intro v1 v2 v7 r h; exact nomatch h
  | succ k ih =>
    exact fun v1 v2 v7 r h =>
      ifE_cases h
        (fun h1 h =>
          bind_cases h fun e2 h2 h =>
          bind_cases h fun r3 h3 h =>
          ifE_cases h
            (fun h4 h =>
              leaf h fun e => by subst e; exact fin_ret Go.Proofs.Tryz.func162 mix 1000 [.unroll, .br h1, .el (getE_el Siiii.cells h2), .call [] (spec_l04Is.calls h3), .br h4] (by kernel_rfl))
            (fun h4 h =>
              fin_fin Go.Proofs.Tryz.func162 mix 1000 [.unroll, .br h1, .el (getE_el Siiii.cells h2), .call [] (spec_l04Is.calls h3), .br h4, .fin 100000 [1, 2, 7] [] (ih v1 v2 (W (v7 + 1)) r h)] (by kernel_rfl)))
        (fun h1 h =>
          ifE_cases h
            (fun h5 h =>
              leaf h fun e => by subst e; exact fin_ret Go.Proofs.Tryz.func162 mix 1000 [.unroll, .br h1, .br h5] (by kernel_rfl))
            (fun h5 h =>
              ifE_cases h
                (fun h6 h =>
                  leaf h fun e => by subst e; exact fin_ret Go.Proofs.Tryz.func162 mix 1000 [.unroll, .br h1, .br h5, .br h6] (by kernel_rfl))
                (fun h6 h =>
                  ifE_cases h
                    (fun h7 h =>
                      leaf h fun e => by subst e; exact fin_ret Go.Proofs.Tryz.func162 mix 1000 [.unroll, .br h1, .br h5, .br h6, .br h7] (by kernel_rfl))
                    (fun h7 h =>
                      leaf h fun e => by subst e; exact fin_ret Go.Proofs.Tryz.func162 mix 1000 [.unroll, .br h1, .br h5, .br h6, .br h7] (by kernel_rfl)))))

theorem spec_l09List.calls {a0 : Int} {a1 : (List Siiii)} {a2 : (List Siiib)} {r : Int} (h : spec_l09List.f a0 a1 a2 = some r) : Eng.Fn Go.Proofs.Tryz.prog 162 [I a0, R true 4 Siiii.cells a1, R true 4 Siiib.cells a2] [] [] (I r) :=
  fn_fin Go.Proofs.Tryz.func162 (c := bodyOf Go.Proofs.Tryz.f162) (by kernel_rfl) (by kernel_rfl) <|
    bind_cases h fun r1 h1 h =>
    ifE_cases h
      (fun h2 h =>
        leaf h fun e => by subst e; exact fin_ret Go.Proofs.Tryz.func162 mix 1000 [.call [] (spec_l09Code.calls h1), .br h2] (by kernel_rfl))
      (fun h2 h =>
        fin_fin Go.Proofs.Tryz.func162 mix 1000 [.call [] (spec_l09Code.calls h1), .br h2, .fin 100000 [1, 2, 7] [] (spec_l09List.l4_ok fuelN a1 a2 0 r h)] (by kernel_rfl))

theorem spec_l09Word.l4_ok (k : Nat) : ∀ (v0 : Int) (v1 : (List Int)) (v5 : Int) (r : Bool), (spec_l09Word.l4 k) v0 v1 v5 = some r → Eng.Fin Go.Proofs.Tryz.prog 163 [] [] (B r) (itsL 4 (bodyOf Go.Proofs.Tryz.f163)) (mkS 36 [(0, I v0), (1, R true 1 cI v1), (5, I v5)] []) := by
  induction k with
  | zero => intro v0 v1 v5 r h; exact nomatch h
  | succ k ih =>
    exact fun v0 v1 v5 r h =>
      ifE_cases h
        (fun h1 h =>
          bind_cases h fun e2 h2 h =>
          ifE_cases h
            (fun h3 h =>
              leaf h fun e => by subst e; exact fin_ret Go.Proofs.Tryz.func163 mix 1000 [.unroll, .br h1, .el (getE_el cI h2), .br h3] (by kernel_rfl))
            (fun h3 h =>
              bind_cases h fun e3 h4 h =>
              bind_cases h fun r4 h5 h =>
              ifE_cases h
                (fun h6 h =>
                  leaf h fun e => by subst e; exact fin_ret Go.Proofs.Tryz.func163 mix 1000 [.unroll, .br h1, .el (getE_el cI h2), .br h3, .el (getE_el cI h4), .call [] (spec_l01In.calls h5), .br h6] (by kernel_rfl))
                (fun h6 h =>
                  fin_fin Go.Proofs.Tryz.func163 mix 1000 [.unroll, .br h1, .el (getE_el cI h2), .br h3, .el (getE_el cI h4), .call [] (spec_l01In.calls h5), .br h6, .fin 100000 [0, 1, 5] [] (ih v0 v1 (W (v5 + 1)) r h)] (by kernel_rfl))))
        (fun h1 h =>
          leaf h fun e => by subst e; exact fin_ret Go.Proofs.Tryz.func163 mix 1000 [.unroll, .br h1] (by kernel_rfl))

theorem spec_l09Word.calls {a0 : Int} {a1 : (List Int)} {r : Bool} (h : spec_l09Word.f a0 a1 = some r) : Eng.Fn Go.Proofs.Tryz.prog 163 [I a0, R true 1 cI a1] [] [] (B r) :=
  fn_fin Go.Proofs.Tryz.func163 (c := bodyOf Go.Proofs.Tryz.f163) (by kernel_rfl) (by kernel_rfl) <|
    bind_cases h fun r1 h1 h =>
    ifE_cases h
      (fun h2 h =>
        leaf h fun e => by subst e; exact fin_ret Go.Proofs.Tryz.func163 mix 1000 [.call [] (spec_l01In.calls h1), .br h2] (by kernel_rfl))
      (fun h2 h =>
        ifE_cases h
          (fun h3 h =>
            leaf h fun e => by subst e; exact fin_ret Go.Proofs.Tryz.func163 mix 1000 [.call [] (spec_l01In.calls h1), .br h2, .br h3] (by kernel_rfl))
          (fun h3 h =>
            fin_fin Go.Proofs.Tryz.func163 mix 1000 [.call [] (spec_l01In.calls h1), .br h2, .br h3, .fin 100000 [0, 1, 5] [] (spec_l09Word.l4_ok fuelN a0 a1 0 r h)] (by kernel_rfl)))

theorem spec_l09Free.l5_ok (rec2 : Int → (List Siiii) → (List Siiib) → Int → Option (Bool × Int)) (rec2H : ∀ (v0 : Int) (v1 : (List Siiii)) (v2 : (List Siiib)) (v8 : Int) (r : (Bool × Int)), rec2 v0 v1 v2 v8 = some r → Eng.Fin Go.Proofs.Tryz.prog 180 [] [] (.tu [B r.1, I r.2]) (itsL 2 (bodyOf Go.Proofs.Tryz.f180)) (mkS 71 [(0, I v0), (1, R true 4 Siiii.cells v1), (2, R true 4 Siiib.cells v2), (8, I v8)] [])) (k : Nat) : ∀ (v0 : Int) (v1 : (List Siiii)) (v2 : (List Siiib)) (v8 : Int) (v9 : Int) (r : (Bool × Int)), (spec_l09Free.l5 rec2 k) v0 v1 v2 v8 v9 = some r → Eng.Fin Go.Proofs.Tryz.prog 180 [] [] (.tu [B r.1, I r.2]) (itsL 5 (bodyOf Go.Proofs.Tryz.f180)) (mkS 71 [(0, I v0), (1, R true 4 Siiii.cells v1), (2, R true 4 Siiib.cells v2), (8, I v8), (9, I v9)] []) := by
  induction k with
  | zero => intro v0 v1 v2 v8 v9 r h; exact nomatch h
  | succ k ih =>
    exact fun v0 v1 v2 v8 v9 r h =>
      ifE_cases h
        (fun h1 h =>
          bind_cases h fun e1 h2 h =>
          bind_cases h fun e2 h3 h =>
          bind_cases h fun r3 h4 h =>
          ifE_cases h
            (fun h5 h =>
              leaf h fun e => by subst e; exact fin_ret Go.Proofs.Tryz.func180 mix 1000 [.unroll, .br h1, .el (getE_el Siiib.cells h2), .el (getE_el Siiib.cells h3), .call [] (spec_l09Apart.calls h4), .br h5] (by kernel_rfl))
            (fun h5 h =>
              fin_fin Go.Proofs.Tryz.func180 mix 1000 [.unroll, .br h1, .el (getE_el Siiib.cells h2), .el (getE_el Siiib.cells h3), .call [] (spec_l09Apart.calls h4), .br h5, .fin 100000 [0, 1, 2, 8, 9] [] (ih v0 v1 v2 v8 (W (v9 + 1)) r h)] (by kernel_rfl)))
        (fun h1 h =>
          fin_fin Go.Proofs.Tryz.func180 mix 1000 [.unroll, .br h1, .fin 100000 [0, 1, 2, 8] [] (rec2H v0 v1 v2 (W (v8 + 1)) r h)] (by kernel_rfl))

theorem spec_l09Free.l10_ok (k : Nat) : ∀ (v0 : Int) (v1 : (List Siiii)) (v2 : (List Siiib)) (v10 : Int) (r : (Bool × Int)), (spec_l09Free.l10 k) v0 v1 v2 v10 = some r → Eng.Fin Go.Proofs.Tryz.prog 180 [] [] (.tu [B r.1, I r.2]) (itsL 10 (bodyOf Go.Proofs.Tryz.f180)) (mkS 71 [(0, I v0), (1, R true 4 Siiii.cells v1), (2, R true 4 Siiib.cells v2), (10, I v10)] []) := by
  induction k with
  | zero => intro v0 v1 v2 v10 r h; exact nomatch h
  | succ k ih =>
    exact fun v0 v1 v2 v10 r h =>
      ifE_cases h
        (fun h1 h =>
          bind_cases h fun e4 h2 h =>
          bind_cases h fun e5 h3 h =>
          bind_cases h fun r6 h4 h =>
          ifE_cases h
            (fun h5 h =>
              leaf h fun e => by subst e; exact fin_ret Go.Proofs.Tryz.func180 mix 1000 [.unroll, .br h1, .el (getE_el Siiib.cells h2), .el (getE_el Siiii.cells h3), .call [] (spec_l09Move.calls h4), .br h5] (by kernel_rfl))
            (fun h5 h =>
              bind_cases h fun e7 h6 h =>
              ifE_cases h
                (fun h7 h =>
                  leaf h fun e => by subst e; exact fin_ret Go.Proofs.Tryz.func180 mix 1000 [.unroll, .br h1, .el (getE_el Siiib.cells h2), .el (getE_el Siiii.cells h3), .call [] (spec_l09Move.calls h4), .br h5, .el (getE_el Siiib.cells h6), .br h7] (by kernel_rfl))
                (fun h7 h =>
                  fin_fin Go.Proofs.Tryz.func180 mix 1000 [.unroll, .br h1, .el (getE_el Siiib.cells h2), .el (getE_el Siiii.cells h3), .call [] (spec_l09Move.calls h4), .br h5, .el (getE_el Siiib.cells h6), .br h7, .fin 100000 [0, 1, 2, 10] [] (ih v0 v1 v2 (W (v10 + 1)) r h)] (by kernel_rfl))))
        (fun h1 h =>
          leaf h fun e => by subst e; exact fin_ret Go.Proofs.Tryz.func180 mix 1000 [.unroll, .br h1] (by kernel_rfl))

theorem spec_l09Free.l2_ok (k : Nat) : ∀ (v0 : Int) (v1 : (List Siiii)) (v2 : (List Siiib)) (v8 : Int) (r : (Bool × Int)), (spec_l09Free.l2 k) v0 v1 v2 v8 = some r → Eng.Fin Go.Proofs.Tryz.prog 180 [] [] (.tu [B r.1, I r.2]) (itsL 2 (bodyOf Go.Proofs.Tryz.f180)) (mkS 71 [(0, I v0), (1, R true 4 Siiii.cells v1), (2, R true 4 Siiib.cells v2), (8, I v8)] []) := by
  induction k with
  | zero => intro v0 v1 v2 v8 r h; exact nomatch h
  | succ k ih =>
    exact fun v0 v1 v2 v8 r h =>
      ifE_cases h
        (fun h1 h =>
          fin_fin Go.Proofs.Tryz.func180 mix 1000 [.unroll, .br h1, .fin 100000 [0, 1, 2, 8, 9] [] (spec_l09Free.l5_ok (spec_l09Free.l2 k) ih fuelN v0 v1 v2 v8 0 r h)] (by kernel_rfl))
        (fun h1 h =>
          fin_fin Go.Proofs.Tryz.func180 mix 1000 [.unroll, .br h1, .fin 100000 [0, 1, 2, 10] [] (spec_l09Free.l10_ok fuelN v0 v1 v2 0 r h)] (by kernel_rfl))

theorem spec_l09Free.calls {a0 : Int} {a1 : (List Siiii)} {a2 : (List Siiib)} {r : (Bool × Int)} (h : spec_l09Free.f a0 a1 a2 = some r) : Eng.Fn Go.Proofs.Tryz.prog 180 [I a0, R true 4 Siiii.cells a1, R true 4 Siiib.cells a2] [] [] (.tu [B r.1, I r.2]) :=
  fn_fin Go.Proofs.Tryz.func180 (c := bodyOf Go.Proofs.Tryz.f180) (by kernel_rfl) (by kernel_rfl) <|
    fin_fin Go.Proofs.Tryz.func180 mix 1000 [.fin 100000 [0, 1, 2, 8] [] (spec_l09Free.l2_ok fuelN a0 a1 a2 0 r h)] (by kernel_rfl)

theorem spec_l09Ready.calls {a0 : Int} {a1 : (List Siiii)} {a2 : (List Siiib)} {r : Int} (h : spec_l09Ready.f a0 a1 a2 = some r) : Eng.Fn Go.Proofs.Tryz.prog 164 [I a0, R true 4 Siiii.cells a1, R true 4 Siiib.cells a2] [] [] (I r) :=
  fn_fin Go.Proofs.Tryz.func164 (c := bodyOf Go.Proofs.Tryz.f164) (by kernel_rfl) (by kernel_rfl) <|
    bind_cases h fun r1 h1 h =>
    ifE_cases h
      (fun h2 h =>
        ifE_cases h
          (fun h3 h =>
            leaf h fun e => by subst e; exact fin_ret Go.Proofs.Tryz.func164 mix 1000 [.call [] (spec_l09Free.calls h1), .br h2, .br h3] (by kernel_rfl))
          (fun h3 h =>
            leaf h fun e => by subst e; exact fin_ret Go.Proofs.Tryz.func164 mix 1000 [.call [] (spec_l09Free.calls h1), .br h2, .br h3] (by kernel_rfl)))
      (fun h2 h =>
        leaf h fun e => by subst e; exact fin_ret Go.Proofs.Tryz.func164 mix 1000 [.call [] (spec_l09Free.calls h1), .br h2] (by kernel_rfl))

theorem spec_l09Short.l2_ok (k : Nat) : ∀ (v0 : (List Int)) (v3 : Int) (r : Bool), (spec_l09Short.l2 k) v0 v3 = some r → Eng.Fin Go.Proofs.Tryz.prog 165 [] [] (B r) (itsL 2 (bodyOf Go.Proofs.Tryz.f165)) (mkS 21 [(0, R true 1 cI v0), (3, I v3)] []) := by
  induction k with
  | zero => intro v0 v3 r h; exact nomatch h
  | succ k ih =>
    exact fun v0 v3 r h =>
      ifE_cases h
        (fun h1 h =>
          bind_cases h fun e1 h2 h =>
          bind_cases h fun e2 h3 h =>
          ifE_cases h
            (fun h4 h =>
              leaf h fun e => by subst e; exact fin_ret Go.Proofs.Tryz.func165 mix 1000 [.unroll, .br h1, .el (getE_el cI h2), .el (getE_el cI h3), .br h4] (by kernel_rfl))
            (fun h4 h =>
              fin_fin Go.Proofs.Tryz.func165 mix 1000 [.unroll, .br h1, .el (getE_el cI h2), .el (getE_el cI h3), .br h4, .fin 100000 [0, 3] [] (ih v0 (W (v3 + 1)) r h)] (by kernel_rfl)))
        (fun h1 h =>
          leaf h fun e => by subst e; exact fin_ret Go.Proofs.Tryz.func165 mix 1000 [.unroll, .br h1] (by kernel_rfl))

theorem spec_l09Short.calls {a0 : (List Int)} {r : Bool} (h : spec_l09Short.f a0 = some r) : Eng.Fn Go.Proofs.Tryz.prog 165 [R true 1 cI a0] [] [] (B r) :=
  fn_fin Go.Proofs.Tryz.func165 (c := bodyOf Go.Proofs.Tryz.f165) (by kernel_rfl) (by kernel_rfl) <|
    fin_fin Go.Proofs.Tryz.func165 mix 1000 [.fin 100000 [0, 3] [] (spec_l09Short.l2_ok fuelN a0 1 r h)] (by kernel_rfl)

theorem spec_l09Of.calls {a0 : (List Siiib)} {a1 : Int} {r : Siiib} (h : spec_l09Of.f a0 a1 = some r) : Eng.Fn Go.Proofs.Tryz.prog 166 [R true 4 Siiib.cells a0, I a1] [] [] (.ag (Siiib.cells r)) :=
  fn_fin Go.Proofs.Tryz.func166 (c := bodyOf Go.Proofs.Tryz.f166) (by kernel_rfl) (by kernel_rfl) <|
    ifE_cases h
      (fun h1 h =>
        bind_cases h fun e1 h2 h =>
        leaf h fun e => by subst e; exact fin_ret Go.Proofs.Tryz.func166 mix 1000 [.br h1, .el (getE_el Siiib.cells h2)] (by kernel_rfl))
      (fun h1 h =>
        bind_cases h fun e2 h3 h =>
        leaf h fun e => by subst e; exact fin_ret Go.Proofs.Tryz.func166 mix 1000 [.br h1, .el (getE_el Siiib.cells h3)] (by kernel_rfl))

theorem spec_l09Letter.calls {a0 : (List Siiii)} {a1 : Int} {r : Siiii} (h : spec_l09Letter.f a0 a1 = some r) : Eng.Fn Go.Proofs.Tryz.prog 168 [R true 4 Siiii.cells a0, I a1] [] [] (.ag (Siiii.cells r)) :=
  fn_fin Go.Proofs.Tryz.func168 (c := bodyOf Go.Proofs.Tryz.f168) (by kernel_rfl) (by kernel_rfl) <|
    ifE_cases h
      (fun h1 h =>
        bind_cases h fun e1 h2 h =>
        leaf h fun e => by subst e; exact fin_ret Go.Proofs.Tryz.func168 mix 1000 [.br h1, .el (getE_el Siiii.cells h2)] (by kernel_rfl))
      (fun h1 h =>
        bind_cases h fun e2 h3 h =>
        bind_cases h fun r3 h4 h =>
        leaf h fun e => by subst e; exact fin_ret Go.Proofs.Tryz.func168 mix 1000 [.br h1, .el (getE_el Siiii.cells h3), .call [] (spec_l04Inverse.calls h4)] (by kernel_rfl))

theorem spec_SideOfWord.l13_ok (k : Nat) : ∀ (v0 : Int) (v1 : (List Siiii)) (v3 : (List Int)) (v13 : Int) (o8_0 : Int) (o8_1 : Int) (o8_2 : Int) (o8_3 : Bool) (o12_0 : Int) (o12_1 : Int) (o12_2 : Int) (o12_3 : Bool) (r : (Siiib × Int)), (spec_SideOfWord.l13 k) v0 v1 v3 v13 o8_0 o8_1 o8_2 o8_3 o12_0 o12_1 o12_2 o12_3 = some r → Eng.Fin Go.Proofs.Tryz.prog 51 [] [] (.tu [.ag (Siiib.cells r.1), I r.2]) (itsL 13 (bodyOf Go.Proofs.Tryz.f51)) (mkS 79 [(0, I v0), (1, R true 4 Siiii.cells v1), (3, R true 1 cI v3), (8, .bx 8 0), (12, .bx 12 0), (13, I v13)] [(8, .box [I o8_0, I o8_1, I o8_2, B o8_3]), (12, .box [I o12_0, I o12_1, I o12_2, B o12_3])]) := by
  induction k with
  | zero => intro v0 v1 v3 v13 o8_0 o8_1 o8_2 o8_3 o12_0 o12_1 o12_2 o12_3 r h; exact nomatch h
  | succ k ih =>
    exact fun v0 v1 v3 v13 o8_0 o8_1 o8_2 o8_3 o12_0 o12_1 o12_2 o12_3 r h =>
      ifE_cases h
        (fun h1 h =>
          bind_cases h fun e7 h2 h =>
          bind_cases h fun r8 h3 h =>
          bind_cases h fun r9 h4 h =>
          ifE_cases h
            (fun h5 h =>
              leaf h fun e => by subst e; exact fin_ret Go.Proofs.Tryz.func51 mix 1000 [.unroll, .br h1, .el (getE_el cI h2), .call [] (spec_l09Letter.calls h3), .call [] (spec_l09Move.calls h4), .br h5] (by kernel_rfl))
            (fun h5 h =>
              fin_fin Go.Proofs.Tryz.func51 mix 1000 [.unroll, .br h1, .el (getE_el cI h2), .call [] (spec_l09Letter.calls h3), .call [] (spec_l09Move.calls h4), .br h5, .fin 100000 [0, 1, 3, 8, 12, 13] [(8, 8), (12, 12)] (ih v0 v1 v3 (W (v13 - 1)) o8_0 o8_1 o8_2 o8_3 r9.1.c0 r9.1.c1 r9.1.c2 r9.1.c3 r h)] (by kernel_rfl)))
        (fun h1 h =>
          leaf h fun e => by subst e; exact fin_ret Go.Proofs.Tryz.func51 mix 1000 [.unroll, .br h1] (by kernel_rfl))

theorem spec_SideOfWord.calls {a0 : Int} {a1 : (List Siiii)} {a2 : (List Siiib)} {a3 : (List Int)} {r : (Siiib × Int)} (h : spec_SideOfWord.f a0 a1 a2 a3 = some r) : Eng.Fn Go.Proofs.Tryz.prog 51 [I a0, R true 4 Siiii.cells a1, R true 4 Siiib.cells a2, R true 1 cI a3] [] [] (.tu [.ag (Siiib.cells r.1), I r.2]) :=
  fn_fin Go.Proofs.Tryz.func51 (c := bodyOf Go.Proofs.Tryz.f51) (by kernel_rfl) (by kernel_rfl) <|
    bind_cases h fun r1 h1 h =>
    ifE_cases h
      (fun h2 h =>
        leaf h fun e => by subst e; exact fin_ret Go.Proofs.Tryz.func51 mix 1000 [.call [] (spec_l09List.calls h1), .br h2] (by kernel_rfl))
      (fun h2 h =>
        bind_cases h fun r2 h3 h =>
        ifE_cases h
          (fun h4 h =>
            leaf h fun e => by subst e; exact fin_ret Go.Proofs.Tryz.func51 mix 1000 [.call [] (spec_l09List.calls h1), .br h2, .call [] (spec_l09Word.calls h3), .br h4] (by kernel_rfl))
          (fun h4 h =>
            bind_cases h fun r3 h5 h =>
            ifE_cases h
              (fun h6 h =>
                leaf h fun e => by subst e; exact fin_ret Go.Proofs.Tryz.func51 mix 1000 [.call [] (spec_l09List.calls h1), .br h2, .call [] (spec_l09Word.calls h3), .br h4, .call [] (spec_l09Ready.calls h5), .br h6] (by kernel_rfl))
              (fun h6 h =>
                ifE_cases h
                  (fun h7 h =>
                    leaf h fun e => by subst e; exact fin_ret Go.Proofs.Tryz.func51 mix 1000 [.call [] (spec_l09List.calls h1), .br h2, .call [] (spec_l09Word.calls h3), .br h4, .call [] (spec_l09Ready.calls h5), .br h6, .br h7] (by kernel_rfl))
                  (fun h7 h =>
                    bind_cases h fun r4 h8 h =>
                    ifE_cases h
                      (fun h9 h =>
                        leaf h fun e => by subst e; exact fin_ret Go.Proofs.Tryz.func51 mix 1000 [.call [] (spec_l09List.calls h1), .br h2, .call [] (spec_l09Word.calls h3), .br h4, .call [] (spec_l09Ready.calls h5), .br h6, .br h7, .call [] (spec_l09Short.calls h8), .br h9] (by kernel_rfl))
                      (fun h9 h =>
                        bind_cases h fun e5 h10 h =>
                        bind_cases h fun r6 h11 h =>
                        fin_fin Go.Proofs.Tryz.func51 mix 1000 [.call [] (spec_l09List.calls h1), .br h2, .call [] (spec_l09Word.calls h3), .br h4, .call [] (spec_l09Ready.calls h5), .br h6, .br h7, .call [] (spec_l09Short.calls h8), .br h9, .el (getE_el cI h10), .call [] (spec_l09Of.calls h11), .fin 100000 [0, 1, 3, 8, 12, 13] [(8, 8), (12, 12)] (spec_SideOfWord.l13_ok fuelN a0 a1 a3 (W ((a3.length : Int) - 2)) 0 0 0 false r6.c0 r6.c1 r6.c2 r6.c3 r h)] (by kernel_rfl))))))

theorem spec_l05Small.calls {a0 : SLu8eiu64} {r : (Sii × SLu8eiu64)} (h : spec_l05Small.f a0 = some r) : Eng.Fn Go.Proofs.Tryz.prog 171 [.bx 2000 0] [(2000, .box [R true 1 (cK .u8) a0.c0, I a0.c1, K .u64 a0.c2])] [(2000, .box (SLu8eiu64.cells r.2))] (.ag (Sii.cells r.1)) :=
  fn_fin Go.Proofs.Tryz.func171 (c := bodyOf Go.Proofs.Tryz.f171) (by kernel_rfl) (by kernel_rfl) <|
    bind_cases h fun r1 h1 h =>
    ifE_cases h
      (fun h2 h =>
        leaf h fun e => by subst e; exact fin_ret Go.Proofs.Tryz.func171 mix 1000 [.call [(2000, 2000)] (spec_l01Next.calls h1), .br h2] (by kernel_rfl))
      (fun h2 h =>
        bind_cases h fun r2 h3 h =>
        bind_cases h fun r3 h4 h =>
        bind_cases h fun r4 h5 h =>
        leaf h fun e => by subst e; exact fin_ret Go.Proofs.Tryz.func171 mix 1000 [.call [(2000, 2000)] (spec_l01Next.calls h1), .br h2, .call [(2000, 2000)] (spec_l01Next.calls h3), .call [(2000, 2000)] (spec_l01Pick.calls h4), .call [] (spec_l01EndOf.calls h5)] (by kernel_rfl))

theorem spec_l04End.calls {a0 : Siiii} {a1 : Sii} {r : (Sii × Bool)} (h : spec_l04End.f a0 a1 = some r) : Eng.Fn Go.Proofs.Tryz.prog 172 [.ag (Siiii.cells a0), .ag (Sii.cells a1)] [] [] (.tu [.ag (Sii.cells r.1), B r.2]) :=
  fn_fin Go.Proofs.Tryz.func172 (c := bodyOf Go.Proofs.Tryz.f172) (by kernel_rfl) (by kernel_rfl) <|
    bind_cases h fun r1 h1 h =>
    leaf h fun e => by subst e; exact fin_ret Go.Proofs.Tryz.func172 mix 1000 [.call [] (spec_l01EndOf.calls h1)] (by kernel_rfl)

theorem spec_DrawBringOut.l5_ok (k : Nat) : ∀ (v7 : Int) (v8 : (List Siiii)) (v9 : (List Siiib)) (v11 : Int) (o5_0 : Int) (o5_1 : Int) (o15_0 : (List Int)) (o15_1 : Int) (o15_2 : Int) (o10_0 : Int) (o10_1 : Int) (r : (Int × (List Siiii) × (List Siiib) × Sii)), (spec_DrawBringOut.l5 k) v7 v8 v9 v11 o5_0 o5_1 o15_0 o15_1 o15_2 o10_0 o10_1 = some r → Eng.Fin Go.Proofs.Tryz.prog 53 [] [] (.tu [I r.1, R true 4 Siiii.cells r.2.1, R true 4 Siiib.cells r.2.2.1, .ag (Sii.cells r.2.2.2)]) (itsL 5 (bodyOf Go.Proofs.Tryz.f53)) (mkS 52 [(5, .bx 5 0), (6, .bx 15 0), (7, I v7), (8, R true 4 Siiii.cells v8), (9, R true 4 Siiib.cells v9), (10, .bx 10 0), (11, I v11)] [(5, .box [I o5_0, I o5_1]), (15, .box [R true 1 (cK .u8) o15_0, I o15_1, K .u64 o15_2]), (10, .box [I o10_0, I o10_1])]) := by
  induction k with
  | zero => intro v7 v8 v9 v11 o5_0 o5_1 o15_0 o15_1 o15_2 o10_0 o10_1 r h; exact nomatch h
  | succ k ih =>
    exact fun v7 v8 v9 v11 o5_0 o5_1 o15_0 o15_1 o15_2 o10_0 o10_1 r h =>
      ifE_cases h
        (fun h1 h =>
          bind_cases h fun r5 h2 h =>
          bind_cases h fun e6 h3 h =>
          bind_cases h fun r7 h4 h =>
          ifE_cases h
            (fun h5 h =>
              fin_fin Go.Proofs.Tryz.func53 mix 1000 [.unroll, .br h1, .call [(15, 2000)] (spec_l01Next.calls h2), .el (getE_el Siiii.cells h3), .call [] (spec_l04End.calls h4), .br h5, .fin 100000 [5, 6, 7, 8, 9, 10, 11] [(5, 5), (15, 15), (10, 10)] (ih v7 v8 v9 (W (v11 - 1)) o5_0 o5_1 r5.2.c0 r5.2.c1 r5.2.c2 r7.1.c0 r7.1.c1 r h)] (by kernel_rfl))
            (fun h5 h =>
              fin_fin Go.Proofs.Tryz.func53 mix 1000 [.unroll, .br h1, .call [(15, 2000)] (spec_l01Next.calls h2), .el (getE_el Siiii.cells h3), .call [] (spec_l04End.calls h4), .br h5, .fin 100000 [5, 6, 7, 8, 9, 10, 11] [(5, 5), (15, 15), (10, 10)] (ih v7 v8 v9 (W (v11 - 1)) o5_0 o5_1 r5.2.c0 r5.2.c1 r5.2.c2 o10_0 o10_1 r h)] (by kernel_rfl)))
        (fun h1 h =>
          bind_cases h fun r8 h6 h =>
          ifE_cases h
            (fun h7 h =>
              leaf h fun e => by subst e; exact fin_ret Go.Proofs.Tryz.func53 mix 1000 [.unroll, .br h1, .call [(15, 2000)] (spec_l01Next.calls h6), .br h7] (by kernel_rfl))
            (fun h7 h =>
              leaf h fun e => by subst e; exact fin_ret Go.Proofs.Tryz.func53 mix 1000 [.unroll, .br h1, .call [(15, 2000)] (spec_l01Next.calls h6), .br h7] (by kernel_rfl)))

theorem spec_DrawBringOut.calls {a0 : (List Int)} {r : (Int × (List Siiii) × (List Siiib) × Sii)} (h : spec_DrawBringOut.f a0 = some r) : Eng.Fn Go.Proofs.Tryz.prog 53 [R true 1 (cK .u8) a0] [] [] (.tu [I r.1, R true 4 Siiii.cells r.2.1, R true 4 Siiib.cells r.2.2.1, .ag (Sii.cells r.2.2.2)]) :=
  fn_fin Go.Proofs.Tryz.func53 (c := bodyOf Go.Proofs.Tryz.f53) (by kernel_rfl) (by kernel_rfl) <|
    bind_cases h fun r1 h1 h =>
    bind_cases h fun r2 h2 h =>
    bind_cases h fun r3 h3 h =>
    bind_cases h fun r4 h4 h =>
    fin_fin Go.Proofs.Tryz.func53 mix 1000 [.call [(15, 11)] (spec_l01From.calls h1), .call [(15, 2000)] (spec_l09Movers.calls h2), .call [(15, 2000)] (spec_l05Small.calls h3), .call [(15, 2000)] (spec_l01Next.calls h4), .fin 100000 [5, 6, 7, 8, 9, 10, 11] [(5, 5), (15, 15), (10, 10)] (spec_DrawBringOut.l5_ok fuelN r2.1 r2.2.1 r2.2.2.1 r4.1 0 0 r4.2.c0 r4.2.c1 r4.2.c2 r3.1.c0 r3.1.c1 r h)] (by kernel_rfl)

theorem impl_sideOf.l2_ok (k : Nat) : ∀ (v0 : Int) (v10 : (List Siiib)) (v11 : Int) (v12 : Int) (o5_0 : Int) (o5_1 : Int) (r : Int), (impl_sideOf.l2 k) v0 v10 v11 v12 o5_0 o5_1 = some r → Eng.Fin Go.Proofs.Tryz.prog 174 [] [] (I r) (itsL 2 (bodyOf Go.Proofs.Tryz.f174)) (mkS 32 [(0, I v0), (5, .bx 5 0), (10, R true 4 Siiib.cells v10), (11, I v11), (12, I v12)] [(5, .box [I o5_0, I o5_1])]) := by
  induction k with
  | zero => intro v0 v10 v11 v12 o5_0 o5_1 r h; exact nomatch h
  | succ k ih =>
    exact fun v0 v10 v11 v12 o5_0 o5_1 r h =>
      ifE_cases h
        (fun h1 h =>
          bind_cases h fun e1 h2 h =>
          bind_cases h fun r2 h3 h =>
          ifE_cases h
            (fun h4 h =>
              fin_fin Go.Proofs.Tryz.func174 mix 1000 [.unroll, .br h1, .el (getE_el Siiib.cells h2), .call [] (impl_sideHas.calls h3), .br h4, .fin 100000 [0, 5, 10, 11, 12] [(5, 5)] (ih v0 v10 v11 (W (v12 + 1)) o5_0 o5_1 r h)] (by kernel_rfl))
            (fun h4 h =>
              ifE_cases h
                (fun h5 h =>
                  leaf h fun e => by subst e; exact fin_ret Go.Proofs.Tryz.func174 mix 1000 [.unroll, .br h1, .el (getE_el Siiib.cells h2), .call [] (impl_sideHas.calls h3), .br h4, .nz (y := 2) (by decide), .nz (y := 2) (by decide), .br h5] (by kernel_rfl))
                (fun h5 h =>
                  leaf h fun e => by subst e; exact fin_ret Go.Proofs.Tryz.func174 mix 1000 [.unroll, .br h1, .el (getE_el Siiib.cells h2), .call [] (impl_sideHas.calls h3), .br h4, .nz (y := 2) (by decide), .nz (y := 2) (by decide), .br h5] (by kernel_rfl))))
        (fun h1 h =>
          leaf h fun e => by subst e; exact fin_ret Go.Proofs.Tryz.func174 mix 1000 [.unroll, .br h1] (by kernel_rfl))

theorem impl_sideOf.calls {a0 : Int} {a1 : (List Siiib)} {a2 : Sii} {r : Int} (h : impl_sideOf.f a0 a1 a2 = some r) : Eng.Fn Go.Proofs.Tryz.prog 174 [I a0, R true 4 Siiib.cells a1, .ag (Sii.cells a2)] [] [] (I r) :=
  fn_fin Go.Proofs.Tryz.func174 (c := bodyOf Go.Proofs.Tryz.f174) (by kernel_rfl) (by kernel_rfl) <|
    fin_fin Go.Proofs.Tryz.func174 mix 1000 [.fin 100000 [0, 5, 10, 11, 12] [(5, 5)] (impl_sideOf.l2_ok fuelN a0 a1 (a1.length : Int) 0 a2.c0 a2.c1 r h)] (by kernel_rfl)

theorem impl_BringOut.l9_ok (k : Nat) : ∀ (v0 : Int) (v1 : (List Siiii)) (v2 : (List Siiib)) (o7_0 : Int) (o7_1 : Int) (o9_0 : Int) (o9_1 : Int) (o1013 : (List Int)) (r : ((List Int) × Sii × Int)), (impl_BringOut.l9 k) v0 v1 v2 o7_0 o7_1 o9_0 o9_1 o1013 = some r → Eng.Fin Go.Proofs.Tryz.prog 54 [] [] (.tu [R true 1 cI r.1, .ag (Sii.cells r.2.1), I r.2.2]) (itsL 9 (bodyOf Go.Proofs.Tryz.f54)) (mkS 67 [(0, I v0), (1, R true 4 Siiii.cells v1), (2, R true 4 Siiib.cells v2), (7, .bx 7 0), (9, .bx 9 0), (13, .ow 1013)] [(7, .box [I o7_0, I o7_1]), (9, .box [I o9_0, I o9_1]), (1013, Row true 2 1 cI o1013)]) := by
  induction k with
  | zero => intro v0 v1 v2 o7_0 o7_1 o9_0 o9_1 o1013 r h; exact nomatch h
  | succ k ih =>
    exact fun v0 v1 v2 o7_0 o7_1 o9_0 o9_1 o1013 r h =>
      bind_cases h fun r3 h1 h =>
      ifE_cases h
        (fun h2 h =>
          leaf h fun e => by subst e; exact fin_ret Go.Proofs.Tryz.func54 mix 1000 [.unroll, .call [] (impl_sideOf.calls h1), .br h2, .adj 200000 (.frz (.sl 8))] (by kernel_rfl))
        (fun h2 h =>
          ifE_cases h
            (fun h3 h =>
              leaf h fun e => by subst e; exact fin_ret Go.Proofs.Tryz.func54 mix 1000 [.unroll, .call [] (impl_sideOf.calls h1), .br h2, .br h3, .adj 200000 (.nro (.sl 8) 1 true)] (by kernel_rfl))
            (fun h3 h =>
              guardE_cases h fun h4 h =>
              bind_cases h fun r4 h5 h =>
              bind_cases h fun r5 h6 h =>
              bind_cases h fun r6 h7 h =>
              ifE_cases h
                (fun h8 h =>
                  leaf h fun e => by subst e; exact fin_ret Go.Proofs.Tryz.func54 mix 1000 [.unroll, .call [] (impl_sideOf.calls h1), .br h2, .br h3, .le h4, .cat (cat_of cI o1013 [r3]), .call [] (impl_letterMatrix.calls h5), .call [] (impl_inverted.calls h6), .call [] (impl_moveEnd.calls h7), .br h8, .adj 200000 (.nro (.sl 8) 1 true)] (by kernel_rfl))
                (fun h8 h =>
                  fin_fin Go.Proofs.Tryz.func54 mix 1000 [.unroll, .call [] (impl_sideOf.calls h1), .br h2, .br h3, .le h4, .cat (cat_of cI o1013 [r3]), .call [] (impl_letterMatrix.calls h5), .call [] (impl_inverted.calls h6), .call [] (impl_moveEnd.calls h7), .br h8, .fin 100000 [0, 1, 2, 7, 9, 13] [(7, 7), (9, 9), (53, 1013)] (ih v0 v1 v2 r6.1.c0 r6.1.c1 o9_0 o9_1 (o1013 ++ [r3]) r h)] (by kernel_rfl))))

theorem impl_BringOut.calls {a0 : Int} {a1 : (List Siiii)} {a2 : (List Siiib)} {a3 : Sii} {r : ((List Int) × Sii × Int)} (h : impl_BringOut.f a0 a1 a2 a3 = some r) : Eng.Fn Go.Proofs.Tryz.prog 54 [I a0, R true 4 Siiii.cells a1, R true 4 Siiib.cells a2, .ag (Sii.cells a3)] [] [] (.tu [R true 1 cI r.1, .ag (Sii.cells r.2.1), I r.2.2]) :=
  fn_fin Go.Proofs.Tryz.func54 (c := bodyOf Go.Proofs.Tryz.f54) (by kernel_rfl) (by kernel_rfl) <|
    bind_cases h fun r1 h1 h =>
    ifE_cases h
      (fun h2 h =>
        leaf h fun e => by subst e; exact fin_ret Go.Proofs.Tryz.func54 mix 1000 [.call [] (impl_IsEnd.calls h1), .br h2, .adj 200000 (.nro (.sl 8) 1 true)] (by kernel_rfl))
      (fun h2 h =>
        bind_cases h fun r2 h3 h =>
        ifE_cases h
          (fun h4 h =>
            leaf h fun e => by subst e; exact fin_ret Go.Proofs.Tryz.func54 mix 1000 [.call [] (impl_IsEnd.calls h1), .br h2, .call [] (impl_freeCode.calls h3), .br h4, .adj 200000 (.nro (.sl 8) 1 true)] (by kernel_rfl))
          (fun h4 h =>
            ifE_cases h
              (fun h5 h =>
                leaf h fun e => by subst e; exact fin_ret Go.Proofs.Tryz.func54 mix 1000 [.call [] (impl_IsEnd.calls h1), .br h2, .call [] (impl_freeCode.calls h3), .br h4, .br h5, .adj 200000 (.nro (.sl 8) 1 true)] (by kernel_rfl))
              (fun h5 h =>
                fin_fin Go.Proofs.Tryz.func54 mix 1000 [.call [] (impl_IsEnd.calls h1), .br h2, .call [] (impl_freeCode.calls h3), .br h4, .br h5, .fin 100000 [0, 1, 2, 7, 9, 13] [(7, 7), (9, 9), (37, 1013)] (impl_BringOut.l9_ok fuelN a0 a1 a2 a3.c0 a3.c1 0 0 [] r h)] (by kernel_rfl))))

theorem spec_BringOut.l11_ok (rec9 : Int → (List Siiii) → (List Siiib) → Int → Int → Int → Int → (List Int) → Option ((List Int) × Sii × Int)) (rec9H : ∀ (v0 : Int) (v1 : (List Siiii)) (v2 : (List Siiib)) (o7_0 : Int) (o7_1 : Int) (o9_0 : Int) (o9_1 : Int) (o1012 : (List Int)) (r : ((List Int) × Sii × Int)), rec9 v0 v1 v2 o7_0 o7_1 o9_0 o9_1 o1012 = some r → Eng.Fin Go.Proofs.Tryz.prog 55 [] [] (.tu [R true 1 cI r.1, .ag (Sii.cells r.2.1), I r.2.2]) (itsL 9 (bodyOf Go.Proofs.Tryz.f55)) (mkS 88 [(0, I v0), (1, R true 4 Siiii.cells v1), (2, R true 4 Siiib.cells v2), (7, .bx 7 0), (9, .bx 9 0), (12, .ow 1012)] [(7, .box [I o7_0, I o7_1]), (9, .box [I o9_0, I o9_1]), (1012, Row true 2 1 cI o1012)])) (k : Nat) : ∀ (v0 : Int) (v1 : (List Siiii)) (v2 : (List Siiib)) (v13 : Int) (v14 : Int) (o7_0 : Int) (o7_1 : Int) (o9_0 : Int) (o9_1 : Int) (o1012 : (List Int)) (r : ((List Int) × Sii × Int)), (spec_BringOut.l11 rec9 k) v0 v1 v2 v13 v14 o7_0 o7_1 o9_0 o9_1 o1012 = some r → Eng.Fin Go.Proofs.Tryz.prog 55 [] [] (.tu [R true 1 cI r.1, .ag (Sii.cells r.2.1), I r.2.2]) (itsL 11 (bodyOf Go.Proofs.Tryz.f55)) (mkS 88 [(0, I v0), (1, R true 4 Siiii.cells v1), (2, R true 4 Siiib.cells v2), (7, .bx 7 0), (9, .bx 9 0), (12, .ow 1012), (13, I v13), (14, I v14)] [(7, .box [I o7_0, I o7_1]), (9, .box [I o9_0, I o9_1]), (1012, Row true 2 1 cI o1012)]) := by
  induction k with
  | zero => intro v0 v1 v2 v13 v14 o7_0 o7_1 o9_0 o9_1 o1012 r h; exact nomatch h
  | succ k ih =>
    exact fun v0 v1 v2 v13 v14 o7_0 o7_1 o9_0 o9_1 o1012 r h =>
      ifE_cases h
        (fun h1 h =>
          bind_cases h fun e4 h2 h =>
          bind_cases h fun r5 h3 h =>
          ifE_cases h
            (fun h4 h =>
              ifE_cases h
                (fun h5 h =>
                  fin_fin Go.Proofs.Tryz.func55 mix 1000 [.unroll, .br h1, .el (getE_el Siiib.cells h2), .call [] (spec_l09Has.calls h3), .br h4, .nz (y := 2) (by decide), .nz (y := 2) (by decide), .br h5, .fin 100000 [0, 1, 2, 7, 9, 12, 13, 14] [(7, 7), (9, 9), (1012, 1012)] (ih v0 v1 v2 (W (0 - (W ((W (Int.tdiv v14 2)) + 1)))) (W (v14 + 1)) o7_0 o7_1 o9_0 o9_1 o1012 r h)] (by kernel_rfl))
                (fun h5 h =>
                  fin_fin Go.Proofs.Tryz.func55 mix 1000 [.unroll, .br h1, .el (getE_el Siiib.cells h2), .call [] (spec_l09Has.calls h3), .br h4, .nz (y := 2) (by decide), .nz (y := 2) (by decide), .br h5, .fin 100000 [0, 1, 2, 7, 9, 12, 13, 14] [(7, 7), (9, 9), (1012, 1012)] (ih v0 v1 v2 (W ((W (Int.tdiv v14 2)) + 1)) (W (v14 + 1)) o7_0 o7_1 o9_0 o9_1 o1012 r h)] (by kernel_rfl)))
            (fun h4 h =>
              fin_fin Go.Proofs.Tryz.func55 mix 1000 [.unroll, .br h1, .el (getE_el Siiib.cells h2), .call [] (spec_l09Has.calls h3), .br h4, .fin 100000 [0, 1, 2, 7, 9, 12, 13, 14] [(7, 7), (9, 9), (1012, 1012)] (ih v0 v1 v2 v13 (W (v14 + 1)) o7_0 o7_1 o9_0 o9_1 o1012 r h)] (by kernel_rfl)))
        (fun h1 h =>
          ifE_cases h
            (fun h6 h =>
              leaf h fun e => by subst e; exact fin_ret Go.Proofs.Tryz.func55 mix 1000 [.unroll, .br h1, .br h6, .adj 200000 (.frz (.sl 8))] (by kernel_rfl))
            (fun h6 h =>
              ifE_cases h
                (fun h7 h =>
                  leaf h fun e => by subst e; exact fin_ret Go.Proofs.Tryz.func55 mix 1000 [.unroll, .br h1, .br h6, .br h7, .adj 200000 (.nro (.sl 8) 1 true)] (by kernel_rfl))
                (fun h7 h =>
                  bind_cases h fun r6 h8 h =>
                  bind_cases h fun r7 h9 h =>
                  ifE_cases h
                    (fun h10 h =>
                      leaf h fun e => by subst e; exact fin_ret Go.Proofs.Tryz.func55 mix 1000 [.unroll, .br h1, .br h6, .br h7, .call [] (spec_l09Letter.calls h8), .call [] (spec_l04End.calls h9), .br h10, .adj 200000 (.nro (.sl 8) 1 true)] (by kernel_rfl))
                    (fun h10 h =>
                      guardE_cases h fun h11 h =>
                      fin_fin Go.Proofs.Tryz.func55 mix 1000 [.unroll, .br h1, .br h6, .br h7, .call [] (spec_l09Letter.calls h8), .call [] (spec_l04End.calls h9), .br h10, .le h11, .cat (cat_of cI o1012 [v13]), .fin 100000 [0, 1, 2, 7, 9, 12] [(7, 7), (9, 9), (86, 1012)] (rec9H v0 v1 v2 r7.1.c0 r7.1.c1 o9_0 o9_1 (o1012 ++ [v13]) r h)] (by kernel_rfl)))))

theorem spec_BringOut.l9_ok (k : Nat) : ∀ (v0 : Int) (v1 : (List Siiii)) (v2 : (List Siiib)) (o7_0 : Int) (o7_1 : Int) (o9_0 : Int) (o9_1 : Int) (o1012 : (List Int)) (r : ((List Int) × Sii × Int)), (spec_BringOut.l9 k) v0 v1 v2 o7_0 o7_1 o9_0 o9_1 o1012 = some r → Eng.Fin Go.Proofs.Tryz.prog 55 [] [] (.tu [R true 1 cI r.1, .ag (Sii.cells r.2.1), I r.2.2]) (itsL 9 (bodyOf Go.Proofs.Tryz.f55)) (mkS 88 [(0, I v0), (1, R true 4 Siiii.cells v1), (2, R true 4 Siiib.cells v2), (7, .bx 7 0), (9, .bx 9 0), (12, .ow 1012)] [(7, .box [I o7_0, I o7_1]), (9, .box [I o9_0, I o9_1]), (1012, Row true 2 1 cI o1012)]) := by
  induction k with
  | zero => intro v0 v1 v2 o7_0 o7_1 o9_0 o9_1 o1012 r h; exact nomatch h
  | succ k ih =>
    exact fun v0 v1 v2 o7_0 o7_1 o9_0 o9_1 o1012 r h =>
      fin_fin Go.Proofs.Tryz.func55 mix 1000 [.unroll, .fin 100000 [0, 1, 2, 7, 9, 12, 13, 14] [(7, 7), (9, 9), (1012, 1012)] (spec_BringOut.l11_ok (spec_BringOut.l9 k) ih fuelN v0 v1 v2 0 0 o7_0 o7_1 o9_0 o9_1 o1012 r h)] (by kernel_rfl)

theorem spec_BringOut.j6_ok : ∀ (v0 : Int) (v1 : (List Siiii)) (v2 : (List Siiib)) (v11 : Int) (o7_0 : Int) (o7_1 : Int) (o9_0 : Int) (o9_1 : Int) (r : ((List Int) × Sii × Int)), (spec_BringOut.j6) v0 v1 v2 v11 o7_0 o7_1 o9_0 o9_1 = some r → Eng.Fin Go.Proofs.Tryz.prog 55 [] [] (.tu [R true 1 cI r.1, .ag (Sii.cells r.2.1), I r.2.2]) (itsR 6 (bodyOf Go.Proofs.Tryz.f55)) (mkS 88 [(0, I v0), (1, R true 4 Siiii.cells v1), (2, R true 4 Siiib.cells v2), (7, .bx 7 0), (9, .bx 9 0), (11, I v11)] [(7, .box [I o7_0, I o7_1]), (9, .box [I o9_0, I o9_1])]) :=
  fun v0 v1 v2 v11 o7_0 o7_1 o9_0 o9_1 r h =>
    ifE_cases h
      (fun h1 h =>
        leaf h fun e => by subst e; exact fin_ret Go.Proofs.Tryz.func55 mix 1000 [.br h1, .adj 200000 (.nro (.sl 8) 1 true)] (by kernel_rfl))
      (fun h1 h =>
        fin_fin Go.Proofs.Tryz.func55 mix 1000 [.br h1, .fin 100000 [0, 1, 2, 7, 9, 12] [(7, 7), (9, 9), (39, 1012)] (spec_BringOut.l9_ok fuelN v0 v1 v2 o7_0 o7_1 o9_0 o9_1 [] r h)] (by kernel_rfl))

theorem spec_BringOut.calls {a0 : Int} {a1 : (List Siiii)} {a2 : (List Siiib)} {a3 : Sii} {r : ((List Int) × Sii × Int)} (h : spec_BringOut.f a0 a1 a2 a3 = some r) : Eng.Fn Go.Proofs.Tryz.prog 55 [I a0, R true 4 Siiii.cells a1, R true 4 Siiib.cells a2, .ag (Sii.cells a3)] [] [] (.tu [R true 1 cI r.1, .ag (Sii.cells r.2.1), I r.2.2]) :=
  fn_fin Go.Proofs.Tryz.func55 (c := bodyOf Go.Proofs.Tryz.f55) (by kernel_rfl) (by kernel_rfl) <|
    bind_cases h fun r1 h1 h =>
    ifE_cases h
      (fun h2 h =>
        leaf h fun e => by subst e; exact fin_ret Go.Proofs.Tryz.func55 mix 1000 [.call [] (spec_l09List.calls h1), .br h2, .adj 200000 (.nro (.sl 8) 1 true)] (by kernel_rfl))
      (fun h2 h =>
        bind_cases h fun r2 h3 h =>
        ifE_cases h
          (fun h4 h =>
            leaf h fun e => by subst e; exact fin_ret Go.Proofs.Tryz.func55 mix 1000 [.call [] (spec_l09List.calls h1), .br h2, .call [] (spec_l01End.calls h3), .br h4, .adj 200000 (.nro (.sl 8) 1 true)] (by kernel_rfl))
          (fun h4 h =>
            ifE_cases h
              (fun h5 h =>
                bind_cases h fun r3 h6 h =>
                fin_fin Go.Proofs.Tryz.func55 mix 1000 [.call [] (spec_l09List.calls h1), .br h2, .call [] (spec_l01End.calls h3), .br h4, .br h5, .call [] (spec_l09Ready.calls h6), .fin 6 [0, 1, 2, 7, 9, 11] [(7, 7), (9, 9)] (spec_BringOut.j6_ok a0 a1 a2 r3 a3.c0 a3.c1 0 0 r h)] (by kernel_rfl))
              (fun h5 h =>
                fin_fin Go.Proofs.Tryz.func55 mix 1000 [.call [] (spec_l09List.calls h1), .br h2, .call [] (spec_l01End.calls h3), .br h4, .br h5, .fin 6 [0, 1, 2, 7, 9, 11] [(7, 7), (9, 9)] (spec_BringOut.j6_ok a0 a1 a2 r1 a3.c0 a3.c1 0 0 r h)] (by kernel_rfl))))

theorem impl_isMovers.calls {a0 : Int} {r : Bool} (h : impl_isMovers.f a0 = some r) : Eng.Fn Go.Proofs.Tryz.prog 178 [I a0] [] [] (B r) :=
  fn_fin Go.Proofs.Tryz.func178 (c := bodyOf Go.Proofs.Tryz.f178) (by kernel_rfl) (by kernel_rfl) <|
    ifE_cases h
      (fun h1 h =>
        leaf h fun e => by subst e; exact fin_ret Go.Proofs.Tryz.func178 mix 1000 [.br h1] (by kernel_rfl))
      (fun h1 h =>
        leaf h fun e => by subst e; exact fin_ret Go.Proofs.Tryz.func178 mix 1000 [.br h1] (by kernel_rfl))

theorem impl_IsShortWord.calls {a0 : Int} {a1 : (List Int)} {r : (Bool × Int)} (h : impl_IsShortWord.f a0 a1 = some r) : Eng.Fn Go.Proofs.Tryz.prog 56 [I a0, R true 1 cI a1] [] [] (.tu [B r.1, I r.2]) :=
  fn_fin Go.Proofs.Tryz.func56 (c := bodyOf Go.Proofs.Tryz.f56) (by kernel_rfl) (by kernel_rfl) <|
    bind_cases h fun r1 h1 h =>
    ifE_cases h
      (fun h2 h =>
        leaf h fun e => by subst e; exact fin_ret Go.Proofs.Tryz.func56 mix 1000 [.call [] (impl_isMovers.calls h1), .br h2] (by kernel_rfl))
      (fun h2 h =>
        bind_cases h fun r2 h3 h =>
        ifE_cases h
          (fun h4 h =>
            leaf h fun e => by subst e; exact fin_ret Go.Proofs.Tryz.func56 mix 1000 [.call [] (impl_isMovers.calls h1), .br h2, .call [] (impl_isWord.calls h3), .br h4] (by kernel_rfl))
          (fun h4 h =>
            bind_cases h fun r3 h5 h =>
            leaf h fun e => by subst e; exact fin_ret Go.Proofs.Tryz.func56 mix 1000 [.call [] (impl_isMovers.calls h1), .br h2, .call [] (impl_isWord.calls h3), .br h4, .call [] (impl_isShort.calls h5)] (by kernel_rfl)))

theorem impl_WordMatrix.l7_ok (k : Nat) : ∀ (v0 : (List Siiii)) (v30 : (List Int)) (v31 : Int) (v32 : Int) (o4_0 : Int) (o4_1 : Int) (o4_2 : Int) (o4_3 : Int) (o6_0 : Int) (o6_1 : Int) (o6_2 : Int) (o6_3 : Int) (r : (Siiii × Int)), (impl_WordMatrix.l7 k) v0 v30 v31 v32 o4_0 o4_1 o4_2 o4_3 o6_0 o6_1 o6_2 o6_3 = some r → Eng.Fin Go.Proofs.Tryz.prog 57 [] [] (.tu [.ag (Siiii.cells r.1), I r.2]) (itsL 7 (bodyOf Go.Proofs.Tryz.f57)) (mkS 50 [(0, R true 4 Siiii.cells v0), (4, .bx 4 0), (6, .bx 6 0), (30, R true 1 cI v30), (31, I v31), (32, I v32)] [(4, .box [I o4_0, I o4_1, I o4_2, I o4_3]), (6, .box [I o6_0, I o6_1, I o6_2, I o6_3])]) := by
  induction k with
  | zero => intro v0 v30 v31 v32 o4_0 o4_1 o4_2 o4_3 o6_0 o6_1 o6_2 o6_3 r h; exact nomatch h
  | succ k ih =>
    exact fun v0 v30 v31 v32 o4_0 o4_1 o4_2 o4_3 o6_0 o6_1 o6_2 o6_3 r h =>
      ifE_cases h
        (fun h1 h =>
          bind_cases h fun e5 h2 h =>
          bind_cases h fun r6 h3 h =>
          bind_cases h fun r7 h4 h =>
          ifE_cases h
            (fun h5 h =>
              leaf h fun e => by subst e; exact fin_ret Go.Proofs.Tryz.func57 mix 1000 [.unroll, .br h1, .el (getE_el cI h2), .call [] (impl_letterMatrix.calls h3), .call [] (impl_product.calls h4), .br h5] (by kernel_rfl))
            (fun h5 h =>
              fin_fin Go.Proofs.Tryz.func57 mix 1000 [.unroll, .br h1, .el (getE_el cI h2), .call [] (impl_letterMatrix.calls h3), .call [] (impl_product.calls h4), .br h5, .fin 100000 [0, 4, 6, 30, 31, 32] [(4, 4), (6, 6)] (ih v0 v30 v31 (W (v32 + 1)) o4_0 o4_1 o4_2 o4_3 r7.1.c0 r7.1.c1 r7.1.c2 r7.1.c3 r h)] (by kernel_rfl)))
        (fun h1 h =>
          leaf h fun e => by subst e; exact fin_ret Go.Proofs.Tryz.func57 mix 1000 [.unroll, .br h1] (by kernel_rfl))

theorem impl_WordMatrix.calls {a0 : (List Siiii)} {a1 : (List Int)} {r : (Siiii × Int)} (h : impl_WordMatrix.f a0 a1 = some r) : Eng.Fn Go.Proofs.Tryz.prog 57 [R true 4 Siiii.cells a0, R true 1 cI a1] [] [] (.tu [.ag (Siiii.cells r.1), I r.2]) :=
  fn_fin Go.Proofs.Tryz.func57 (c := bodyOf Go.Proofs.Tryz.f57) (by kernel_rfl) (by kernel_rfl) <|
    bind_cases h fun r1 h1 h =>
    ifE_cases h
      (fun h2 h =>
        leaf h fun e => by subst e; exact fin_ret Go.Proofs.Tryz.func57 mix 1000 [.call [] (impl_areMatrices.calls h1), .br h2] (by kernel_rfl))
      (fun h2 h =>
        bind_cases h fun r2 h3 h =>
        ifE_cases h
          (fun h4 h =>
            leaf h fun e => by subst e; exact fin_ret Go.Proofs.Tryz.func57 mix 1000 [.call [] (impl_areMatrices.calls h1), .br h2, .call [] (impl_isMovers.calls h3), .br h4] (by kernel_rfl))
          (fun h4 h =>
            bind_cases h fun r3 h5 h =>
            ifE_cases h
              (fun h6 h =>
                leaf h fun e => by subst e; exact fin_ret Go.Proofs.Tryz.func57 mix 1000 [.call [] (impl_areMatrices.calls h1), .br h2, .call [] (impl_isMovers.calls h3), .br h4, .call [] (impl_isWord.calls h5), .br h6] (by kernel_rfl))
              (fun h6 h =>
                bind_cases h fun r4 h7 h =>
                fin_fin Go.Proofs.Tryz.func57 mix 1000 [.call [] (impl_areMatrices.calls h1), .br h2, .call [] (impl_isMovers.calls h3), .br h4, .call [] (impl_isWord.calls h5), .br h6, .call [] (impl_one.calls h7), .fin 100000 [0, 4, 6, 30, 31, 32] [(4, 4), (6, 6)] (impl_WordMatrix.l7_ok fuelN a0 a1 (a1.length : Int) 0 0 0 0 0 r4.c0 r4.c1 r4.c2 r4.c3 r h)] (by kernel_rfl))))

theorem spec_DrawIsFree.calls {a0 : (List Int)} {r : (Int × (List Siiii) × (List Siiib))} (h : spec_DrawIsFree.f a0 = some r) : Eng.Fn Go.Proofs.Tryz.prog 59 [R true 1 (cK .u8) a0] [] [] (.tu [I r.1, R true 4 Siiii.cells r.2.1, R true 4 Siiib.cells r.2.2]) :=
  fn_fin Go.Proofs.Tryz.func59 (c := bodyOf Go.Proofs.Tryz.f59) (by kernel_rfl) (by kernel_rfl) <|
    bind_cases h fun r1 h1 h =>
    bind_cases h fun r2 h2 h =>
    leaf h fun e => by subst e; exact fin_ret Go.Proofs.Tryz.func59 mix 1000 [.call [(10, 11)] (spec_l01From.calls h1), .call [(10, 2000)] (spec_l09Movers.calls h2)] (by kernel_rfl)

theorem spec_IsFree.calls {a0 : Int} {a1 : (List Siiii)} {a2 : (List Siiib)} {r : (Bool × Int)} (h : spec_IsFree.f a0 a1 a2 = some r) : Eng.Fn Go.Proofs.Tryz.prog 61 [I a0, R true 4 Siiii.cells a1, R true 4 Siiib.cells a2] [] [] (.tu [B r.1, I r.2]) :=
  fn_fin Go.Proofs.Tryz.func61 (c := bodyOf Go.Proofs.Tryz.f61) (by kernel_rfl) (by kernel_rfl) <|
    bind_cases h fun r1 h1 h =>
    ifE_cases h
      (fun h2 h =>
        leaf h fun e => by subst e; exact fin_ret Go.Proofs.Tryz.func61 mix 1000 [.call [] (spec_l09List.calls h1), .br h2] (by kernel_rfl))
      (fun h2 h =>
        bind_cases h fun r2 h3 h =>
        leaf h fun e => by subst e; exact fin_ret Go.Proofs.Tryz.func61 mix 1000 [.call [] (spec_l09List.calls h1), .br h2, .call [] (spec_l09Free.calls h3)] (by kernel_rfl))

theorem spec_l01Near.calls {a0 : SLu8eiu64} {a1 : Int} {r : (Int × SLu8eiu64)} (h : spec_l01Near.f a0 a1 = some r) : Eng.Fn Go.Proofs.Tryz.prog 181 [.bx 2000 0, I a1] [(2000, .box [R true 1 (cK .u8) a0.c0, I a0.c1, K .u64 a0.c2])] [(2000, .box (SLu8eiu64.cells r.2))] (I r.1) :=
  fn_fin Go.Proofs.Tryz.func181 (c := bodyOf Go.Proofs.Tryz.f181) (by kernel_rfl) (by kernel_rfl) <|
    bind_cases h fun r1 h1 h =>
    ifE_cases h
      (fun h2 h =>
        bind_cases h fun r2 h3 h =>
        leaf h fun e => by subst e; exact fin_ret Go.Proofs.Tryz.func181 mix 1000 [.call [(2000, 2000)] (spec_l01Next.calls h1), .br h2, .call [(2000, 2000)] (spec_l01Pick.calls h3)] (by kernel_rfl))
      (fun h2 h =>
        bind_cases h fun r3 h4 h =>
        leaf h fun e => by subst e; exact fin_ret Go.Proofs.Tryz.func181 mix 1000 [.call [(2000, 2000)] (spec_l01Next.calls h1), .br h2, .call [(2000, 2000)] (spec_l01Next.calls h4)] (by kernel_rfl))

theorem spec_DrawCountShortWords.calls {a0 : (List Int)} {r : (Int × Int)} (h : spec_DrawCountShortWords.f a0 = some r) : Eng.Fn Go.Proofs.Tryz.prog 62 [R true 1 (cK .u8) a0] [] [] (.tu [I r.1, I r.2]) :=
  fn_fin Go.Proofs.Tryz.func62 (c := bodyOf Go.Proofs.Tryz.f62) (by kernel_rfl) (by kernel_rfl) <|
    bind_cases h fun r1 h1 h =>
    bind_cases h fun r2 h2 h =>
    bind_cases h fun r3 h3 h =>
    leaf h fun e => by subst e; exact fin_ret Go.Proofs.Tryz.func62 mix 1000 [.call [(6, 11)] (spec_l01From.calls h1), .call [(6, 2000)] (spec_l01Near.calls h2), .call [(6, 2000)] (spec_l01Near.calls h3)] (by kernel_rfl)

theorem impl_CountShortWords.calls {a0 : Int} {a1 : Int} {r : (Int × Int)} (h : impl_CountShortWords.f a0 a1 = some r) : Eng.Fn Go.Proofs.Tryz.prog 63 [I a0, I a1] [] [] (.tu [I r.1, I r.2]) :=
  fn_fin Go.Proofs.Tryz.func63 (c := bodyOf Go.Proofs.Tryz.f63) (by kernel_rfl) (by kernel_rfl) <|
    bind_cases h fun r1 h1 h =>
    ifE_cases h
      (fun h2 h =>
        leaf h fun e => by subst e; exact fin_ret Go.Proofs.Tryz.func63 mix 1000 [.call [] (impl_isMovers.calls h1), .br h2] (by kernel_rfl))
      (fun h2 h =>
        ifE_cases h
          (fun h3 h =>
            leaf h fun e => by subst e; exact fin_ret Go.Proofs.Tryz.func63 mix 1000 [.call [] (impl_isMovers.calls h1), .br h2, .br h3] (by kernel_rfl))
          (fun h3 h =>
            ifE_cases h
              (fun h4 h =>
                leaf h fun e => by subst e; exact fin_ret Go.Proofs.Tryz.func63 mix 1000 [.call [] (impl_isMovers.calls h1), .br h2, .br h3, .br h4] (by kernel_rfl))
              (fun h4 h =>
                ifE_cases h
                  (fun h5 h =>
                    leaf h fun e => by subst e; exact fin_ret Go.Proofs.Tryz.func63 mix 1000 [.call [] (impl_isMovers.calls h1), .br h2, .br h3, .br h4, .br h5] (by kernel_rfl))
                  (fun h5 h =>
                    bind_cases h fun r2 h6 h =>
                    leaf h fun e => by subst e; exact fin_ret Go.Proofs.Tryz.func63 mix 1000 [.call [] (impl_isMovers.calls h1), .br h2, .br h3, .br h4, .br h5, .call [] (impl_power.calls h6)] (by kernel_rfl)))))

theorem spec_CountShortWords.calls {a0 : Int} {a1 : Int} {r : (Int × Int)} (h : spec_CountShortWords.f a0 a1 = some r) : Eng.Fn Go.Proofs.Tryz.prog 64 [I a0, I a1] [] [] (.tu [I r.1, I r.2]) :=
  fn_fin Go.Proofs.Tryz.func64 (c := bodyOf Go.Proofs.Tryz.f64) (by kernel_rfl) (by kernel_rfl) <|
    bind_cases h fun r1 h1 h =>
    ifE_cases h
      (fun h2 h =>
        leaf h fun e => by subst e; exact fin_ret Go.Proofs.Tryz.func64 mix 1000 [.call [] (spec_l01In.calls h1), .br h2] (by kernel_rfl))
      (fun h2 h =>
        bind_cases h fun r2 h3 h =>
        ifE_cases h
          (fun h4 h =>
            leaf h fun e => by subst e; exact fin_ret Go.Proofs.Tryz.func64 mix 1000 [.call [] (spec_l01In.calls h1), .br h2, .call [] (spec_l01In.calls h3), .br h4] (by kernel_rfl))
          (fun h4 h =>
            ifE_cases h
              (fun h5 h =>
                leaf h fun e => by subst e; exact fin_ret Go.Proofs.Tryz.func64 mix 1000 [.call [] (spec_l01In.calls h1), .br h2, .call [] (spec_l01In.calls h3), .br h4, .br h5] (by kernel_rfl))
              (fun h5 h =>
                bind_cases h fun r3 h6 h =>
                leaf h fun e => by subst e; exact fin_ret Go.Proofs.Tryz.func64 mix 1000 [.call [] (spec_l01In.calls h1), .br h2, .call [] (spec_l01In.calls h3), .br h4, .br h5, .call [] (spec_l01Power.calls h6)] (by kernel_rfl))))

theorem spec_DrawIsShortWord.calls {a0 : (List Int)} {r : (Int × (List Int))} (h : spec_DrawIsShortWord.f a0 = some r) : Eng.Fn Go.Proofs.Tryz.prog 65 [R true 1 (cK .u8) a0] [] [] (.tu [I r.1, R true 1 cI r.2]) :=
  fn_fin Go.Proofs.Tryz.func65 (c := bodyOf Go.Proofs.Tryz.f65) (by kernel_rfl) (by kernel_rfl) <|
    bind_cases h fun r1 h1 h =>
    bind_cases h fun r2 h2 h =>
    bind_cases h fun r3 h3 h =>
    leaf h fun e => by subst e; exact fin_ret Go.Proofs.Tryz.func65 mix 1000 [.call [(7, 11)] (spec_l01From.calls h1), .call [(7, 2000)] (spec_l01Near.calls h2), .call [(7, 2000)] (spec_l09Words.calls h3)] (by kernel_rfl)

theorem spec_IsShortWord.calls {a0 : Int} {a1 : (List Int)} {r : (Bool × Int)} (h : spec_IsShortWord.f a0 a1 = some r) : Eng.Fn Go.Proofs.Tryz.prog 66 [I a0, R true 1 cI a1] [] [] (.tu [B r.1, I r.2]) :=
  fn_fin Go.Proofs.Tryz.func66 (c := bodyOf Go.Proofs.Tryz.f66) (by kernel_rfl) (by kernel_rfl) <|
    bind_cases h fun r1 h1 h =>
    ifE_cases h
      (fun h2 h =>
        leaf h fun e => by subst e; exact fin_ret Go.Proofs.Tryz.func66 mix 1000 [.call [] (spec_l09Word.calls h1), .br h2] (by kernel_rfl))
      (fun h2 h =>
        bind_cases h fun r2 h3 h =>
        leaf h fun e => by subst e; exact fin_ret Go.Proofs.Tryz.func66 mix 1000 [.call [] (spec_l09Word.calls h1), .br h2, .call [] (spec_l09Short.calls h3)] (by kernel_rfl))

theorem spec_DrawWordMatrix.calls {a0 : (List Int)} {r : ((List Siiii) × (List Int))} (h : spec_DrawWordMatrix.f a0 = some r) : Eng.Fn Go.Proofs.Tryz.prog 67 [R true 1 (cK .u8) a0] [] [] (.tu [R true 4 Siiii.cells r.1, R true 1 cI r.2]) :=
  fn_fin Go.Proofs.Tryz.func67 (c := bodyOf Go.Proofs.Tryz.f67) (by kernel_rfl) (by kernel_rfl) <|
    bind_cases h fun r1 h1 h =>
    bind_cases h fun r2 h2 h =>
    bind_cases h fun r3 h3 h =>
    leaf h fun e => by subst e; exact fin_ret Go.Proofs.Tryz.func67 mix 1000 [.call [(9, 11)] (spec_l01From.calls h1), .call [(9, 2000)] (spec_l09Movers.calls h2), .call [(9, 2000)] (spec_l09Words.calls h3)] (by kernel_rfl)

theorem spec_WordMatrix.l10_ok (k : Nat) : ∀ (v0 : (List Siiii)) (v1 : (List Int)) (v8 : Int) (o4_0 : Int) (o4_1 : Int) (o4_2 : Int) (o4_3 : Int) (o7_0 : Int) (o7_1 : Int) (o7_2 : Int) (o7_3 : Int) (r : (Siiii × Int)), (spec_WordMatrix.l10 k) v0 v1 v8 o4_0 o4_1 o4_2 o4_3 o7_0 o7_1 o7_2 o7_3 = some r → Eng.Fin Go.Proofs.Tryz.prog 68 [] [] (.tu [.ag (Siiii.cells r.1), I r.2]) (itsL 10 (bodyOf Go.Proofs.Tryz.f68)) (mkS 55 [(0, R true 4 Siiii.cells v0), (1, R true 1 cI v1), (4, .bx 4 0), (7, .bx 7 0), (8, I v8)] [(4, .box [I o4_0, I o4_1, I o4_2, I o4_3]), (7, .box [I o7_0, I o7_1, I o7_2, I o7_3])]) := by
  induction k with
  | zero => intro v0 v1 v8 o4_0 o4_1 o4_2 o4_3 o7_0 o7_1 o7_2 o7_3 r h; exact nomatch h
  | succ k ih =>
    exact fun v0 v1 v8 o4_0 o4_1 o4_2 o4_3 o7_0 o7_1 o7_2 o7_3 r h =>
      ifE_cases h
        (fun h1 h =>
          bind_cases h fun e4 h2 h =>
          bind_cases h fun r5 h3 h =>
          bind_cases h fun r6 h4 h =>
          ifE_cases h
            (fun h5 h =>
              leaf h fun e => by subst e; exact fin_ret Go.Proofs.Tryz.func68 mix 1000 [.unroll, .br h1, .el (getE_el cI h2), .call [] (spec_l09Letter.calls h3), .call [] (spec_l04Times.calls h4), .br h5] (by kernel_rfl))
            (fun h5 h =>
              fin_fin Go.Proofs.Tryz.func68 mix 1000 [.unroll, .br h1, .el (getE_el cI h2), .call [] (spec_l09Letter.calls h3), .call [] (spec_l04Times.calls h4), .br h5, .fin 100000 [0, 1, 4, 7, 8] [(4, 4), (7, 7)] (ih v0 v1 (W (v8 + 1)) o4_0 o4_1 o4_2 o4_3 r6.1.c0 r6.1.c1 r6.1.c2 r6.1.c3 r h)] (by kernel_rfl)))
        (fun h1 h =>
          leaf h fun e => by subst e; exact fin_ret Go.Proofs.Tryz.func68 mix 1000 [.unroll, .br h1] (by kernel_rfl))

theorem spec_WordMatrix.l2_ok (k : Nat) : ∀ (v0 : (List Siiii)) (v1 : (List Int)) (v6 : Int) (o4_0 : Int) (o4_1 : Int) (o4_2 : Int) (o4_3 : Int) (r : (Siiii × Int)), (spec_WordMatrix.l2 k) v0 v1 v6 o4_0 o4_1 o4_2 o4_3 = some r → Eng.Fin Go.Proofs.Tryz.prog 68 [] [] (.tu [.ag (Siiii.cells r.1), I r.2]) (itsL 2 (bodyOf Go.Proofs.Tryz.f68)) (mkS 55 [(0, R true 4 Siiii.cells v0), (1, R true 1 cI v1), (4, .bx 4 0), (6, I v6)] [(4, .box [I o4_0, I o4_1, I o4_2, I o4_3])]) := by
  induction k with
  | zero => intro v0 v1 v6 o4_0 o4_1 o4_2 o4_3 r h; exact nomatch h
  | succ k ih =>
    exact fun v0 v1 v6 o4_0 o4_1 o4_2 o4_3 r h =>
      ifE_cases h
        (fun h1 h =>
          bind_cases h fun e1 h2 h =>
          bind_cases h fun r2 h3 h =>
          ifE_cases h
            (fun h4 h =>
              leaf h fun e => by subst e; exact fin_ret Go.Proofs.Tryz.func68 mix 1000 [.unroll, .br h1, .el (getE_el Siiii.cells h2), .call [] (spec_l04Is.calls h3), .br h4] (by kernel_rfl))
            (fun h4 h =>
              fin_fin Go.Proofs.Tryz.func68 mix 1000 [.unroll, .br h1, .el (getE_el Siiii.cells h2), .call [] (spec_l04Is.calls h3), .br h4, .fin 100000 [0, 1, 4, 6] [(4, 4)] (ih v0 v1 (W (v6 + 1)) o4_0 o4_1 o4_2 o4_3 r h)] (by kernel_rfl)))
        (fun h1 h =>
          bind_cases h fun r3 h5 h =>
          ifE_cases h
            (fun h6 h =>
              leaf h fun e => by subst e; exact fin_ret Go.Proofs.Tryz.func68 mix 1000 [.unroll, .br h1, .call [] (spec_l09Word.calls h5), .br h6] (by kernel_rfl))
            (fun h6 h =>
              fin_fin Go.Proofs.Tryz.func68 mix 1000 [.unroll, .br h1, .call [] (spec_l09Word.calls h5), .br h6, .fin 100000 [0, 1, 4, 7, 8] [(4, 4), (7, 7)] (spec_WordMatrix.l10_ok fuelN v0 v1 0 o4_0 o4_1 o4_2 o4_3 1 0 0 1 r h)] (by kernel_rfl)))

theorem spec_WordMatrix.calls {a0 : (List Siiii)} {a1 : (List Int)} {r : (Siiii × Int)} (h : spec_WordMatrix.f a0 a1 = some r) : Eng.Fn Go.Proofs.Tryz.prog 68 [R true 4 Siiii.cells a0, R true 1 cI a1] [] [] (.tu [.ag (Siiii.cells r.1), I r.2]) :=
  fn_fin Go.Proofs.Tryz.func68 (c := bodyOf Go.Proofs.Tryz.f68) (by kernel_rfl) (by kernel_rfl) <|
    fin_fin Go.Proofs.Tryz.func68 mix 1000 [.fin 100000 [0, 1, 4, 6] [(4, 4)] (spec_WordMatrix.l2_ok fuelN a0 a1 0 0 0 0 0 r h)] (by kernel_rfl)

theorem laws_FnFreeWords.j29_ok : ∀ (v0 : (List Int)) (r : Bool), (laws_FnFreeWords.j29) v0 = some r → Eng.Fin Go.Proofs.Tryz.prog 5 [] [] (B r) (itsR 29 (bodyOf Go.Proofs.Tryz.f5)) (mkS 311 [(0, R true 1 (cK .u8) v0)] []) :=
  fun v0 r h =>
    bind_cases h fun r15 h1 h =>
    bind_cases h fun r16 h2 h =>
    bind_cases h fun r17 h3 h =>
    bind_cases h fun r18 h4 h =>
    bind_cases h fun r19 h5 h =>
    bind_cases h fun r20 h6 h =>
    bind_cases h fun r21 h7 h =>
    bind_cases h fun r22 h8 h =>
    bind_cases h fun r23 h9 h =>
    bind_cases h fun r24 h10 h =>
    bind_cases h fun r25 h11 h =>
    bind_cases h fun r26 h12 h =>
    ifE_cases h
      (fun h13 h =>
        ifE_cases h
          (fun h14 h =>
            ifE_cases h
              (fun h15 h =>
                ifE_cases h
                  (fun h16 h =>
                    ifE_cases h
                      (fun h17 h =>
                        ifE_cases h
                          (fun h18 h =>
                            ifE_cases h
                              (fun h19 h =>
                                leaf h fun e => by subst e; exact fin_ret Go.Proofs.Tryz.func5 mix 1000 [.call [] (spec_DrawIsFree.calls h1), .call [] (impl_IsFree.calls h2), .call [] (spec_IsFree.calls h3), .call [] (spec_DrawCountShortWords.calls h4), .call [] (impl_CountShortWords.calls h5), .call [] (spec_CountShortWords.calls h6), .call [] (spec_DrawIsShortWord.calls h7), .call [] (impl_IsShortWord.calls h8), .call [] (spec_IsShortWord.calls h9), .call [] (spec_DrawWordMatrix.calls h10), .call [] (impl_WordMatrix.calls h11), .call [] (spec_WordMatrix.calls h12), .br h13, .br h14, .br h15, .br h16, .br h17, .br h18, .br h19] (by kernel_rfl))
                              (fun h19 h =>
                                leaf h fun e => by subst e; exact fin_ret Go.Proofs.Tryz.func5 mix 1000 [.call [] (spec_DrawIsFree.calls h1), .call [] (impl_IsFree.calls h2), .call [] (spec_IsFree.calls h3), .call [] (spec_DrawCountShortWords.calls h4), .call [] (impl_CountShortWords.calls h5), .call [] (spec_CountShortWords.calls h6), .call [] (spec_DrawIsShortWord.calls h7), .call [] (impl_IsShortWord.calls h8), .call [] (spec_IsShortWord.calls h9), .call [] (spec_DrawWordMatrix.calls h10), .call [] (impl_WordMatrix.calls h11), .call [] (spec_WordMatrix.calls h12), .br h13, .br h14, .br h15, .br h16, .br h17, .br h18, .br h19] (by kernel_rfl)))
                          (fun h18 h =>
                            leaf h fun e => by subst e; exact fin_ret Go.Proofs.Tryz.func5 mix 1000 [.call [] (spec_DrawIsFree.calls h1), .call [] (impl_IsFree.calls h2), .call [] (spec_IsFree.calls h3), .call [] (spec_DrawCountShortWords.calls h4), .call [] (impl_CountShortWords.calls h5), .call [] (spec_CountShortWords.calls h6), .call [] (spec_DrawIsShortWord.calls h7), .call [] (impl_IsShortWord.calls h8), .call [] (spec_IsShortWord.calls h9), .call [] (spec_DrawWordMatrix.calls h10), .call [] (impl_WordMatrix.calls h11), .call [] (spec_WordMatrix.calls h12), .br h13, .br h14, .br h15, .br h16, .br h17, .br h18] (by kernel_rfl)))
                      (fun h17 h =>
                        leaf h fun e => by subst e; exact fin_ret Go.Proofs.Tryz.func5 mix 1000 [.call [] (spec_DrawIsFree.calls h1), .call [] (impl_IsFree.calls h2), .call [] (spec_IsFree.calls h3), .call [] (spec_DrawCountShortWords.calls h4), .call [] (impl_CountShortWords.calls h5), .call [] (spec_CountShortWords.calls h6), .call [] (spec_DrawIsShortWord.calls h7), .call [] (impl_IsShortWord.calls h8), .call [] (spec_IsShortWord.calls h9), .call [] (spec_DrawWordMatrix.calls h10), .call [] (impl_WordMatrix.calls h11), .call [] (spec_WordMatrix.calls h12), .br h13, .br h14, .br h15, .br h16, .br h17] (by kernel_rfl)))
                  (fun h16 h =>
                    leaf h fun e => by subst e; exact fin_ret Go.Proofs.Tryz.func5 mix 1000 [.call [] (spec_DrawIsFree.calls h1), .call [] (impl_IsFree.calls h2), .call [] (spec_IsFree.calls h3), .call [] (spec_DrawCountShortWords.calls h4), .call [] (impl_CountShortWords.calls h5), .call [] (spec_CountShortWords.calls h6), .call [] (spec_DrawIsShortWord.calls h7), .call [] (impl_IsShortWord.calls h8), .call [] (spec_IsShortWord.calls h9), .call [] (spec_DrawWordMatrix.calls h10), .call [] (impl_WordMatrix.calls h11), .call [] (spec_WordMatrix.calls h12), .br h13, .br h14, .br h15, .br h16] (by kernel_rfl)))
              (fun h15 h =>
                leaf h fun e => by subst e; exact fin_ret Go.Proofs.Tryz.func5 mix 1000 [.call [] (spec_DrawIsFree.calls h1), .call [] (impl_IsFree.calls h2), .call [] (spec_IsFree.calls h3), .call [] (spec_DrawCountShortWords.calls h4), .call [] (impl_CountShortWords.calls h5), .call [] (spec_CountShortWords.calls h6), .call [] (spec_DrawIsShortWord.calls h7), .call [] (impl_IsShortWord.calls h8), .call [] (spec_IsShortWord.calls h9), .call [] (spec_DrawWordMatrix.calls h10), .call [] (impl_WordMatrix.calls h11), .call [] (spec_WordMatrix.calls h12), .br h13, .br h14, .br h15] (by kernel_rfl)))
          (fun h14 h =>
            leaf h fun e => by subst e; exact fin_ret Go.Proofs.Tryz.func5 mix 1000 [.call [] (spec_DrawIsFree.calls h1), .call [] (impl_IsFree.calls h2), .call [] (spec_IsFree.calls h3), .call [] (spec_DrawCountShortWords.calls h4), .call [] (impl_CountShortWords.calls h5), .call [] (spec_CountShortWords.calls h6), .call [] (spec_DrawIsShortWord.calls h7), .call [] (impl_IsShortWord.calls h8), .call [] (spec_IsShortWord.calls h9), .call [] (spec_DrawWordMatrix.calls h10), .call [] (impl_WordMatrix.calls h11), .call [] (spec_WordMatrix.calls h12), .br h13, .br h14] (by kernel_rfl)))
      (fun h13 h =>
        leaf h fun e => by subst e; exact fin_ret Go.Proofs.Tryz.func5 mix 1000 [.call [] (spec_DrawIsFree.calls h1), .call [] (impl_IsFree.calls h2), .call [] (spec_IsFree.calls h3), .call [] (spec_DrawCountShortWords.calls h4), .call [] (impl_CountShortWords.calls h5), .call [] (spec_CountShortWords.calls h6), .call [] (spec_DrawIsShortWord.calls h7), .call [] (impl_IsShortWord.calls h8), .call [] (spec_IsShortWord.calls h9), .call [] (spec_DrawWordMatrix.calls h10), .call [] (impl_WordMatrix.calls h11), .call [] (spec_WordMatrix.calls h12), .br h13] (by kernel_rfl))

theorem laws_FnFreeWords.j15_ok : ∀ (v0 : (List Int)) (r : Bool), (laws_FnFreeWords.j15) v0 = some r → Eng.Fin Go.Proofs.Tryz.prog 5 [] [] (B r) (itsR 15 (bodyOf Go.Proofs.Tryz.f5)) (mkS 311 [(0, R true 1 (cK .u8) v0)] []) :=
  fun v0 r h =>
    bind_cases h fun r8 h1 h =>
    bind_cases h fun r9 h2 h =>
    bind_cases h fun r10 h3 h =>
    ifE_cases h
      (fun h4 h =>
        leaf h fun e => by subst e; exact fin_ret Go.Proofs.Tryz.func5 mix 1000 [.call [] (spec_DrawBringOut.calls h1), .call [] (impl_BringOut.calls h2), .call [] (spec_BringOut.calls h3), .br h4] (by kernel_rfl))
      (fun h4 h =>
        bind_cases h fun r11 h5 h =>
        ifE_cases h
          (fun h6 h =>
            leaf h fun e => by subst e; exact fin_ret Go.Proofs.Tryz.func5 mix 1000 [.call [] (spec_DrawBringOut.calls h1), .call [] (impl_BringOut.calls h2), .call [] (spec_BringOut.calls h3), .br h4, .call [] (laws_likeInts.calls h5), .br h6] (by kernel_rfl))
          (fun h6 h =>
            ifE_cases h
              (fun h7 h =>
                leaf h fun e => by subst e; exact fin_ret Go.Proofs.Tryz.func5 mix 1000 [.call [] (spec_DrawBringOut.calls h1), .call [] (impl_BringOut.calls h2), .call [] (spec_BringOut.calls h3), .br h4, .call [] (laws_likeInts.calls h5), .br h6, .br h7] (by kernel_rfl))
              (fun h7 h =>
                ifE_cases h
                  (fun h8 h =>
                    bind_cases h fun r12 h9 h =>
                    bind_cases h fun r13 h10 h =>
                    ifE_cases h
                      (fun h11 h =>
                        leaf h fun e => by subst e; exact fin_ret Go.Proofs.Tryz.func5 mix 1000 [.call [] (spec_DrawBringOut.calls h1), .call [] (impl_BringOut.calls h2), .call [] (spec_BringOut.calls h3), .br h4, .call [] (laws_likeInts.calls h5), .br h6, .br h7, .br h8, .call [] (impl_IsShortWord.calls h9), .call [] (impl_WordMatrix.calls h10), .br h11] (by kernel_rfl))
                      (fun h11 h =>
                        ifE_cases h
                          (fun h12 h =>
                            leaf h fun e => by subst e; exact fin_ret Go.Proofs.Tryz.func5 mix 1000 [.call [] (spec_DrawBringOut.calls h1), .call [] (impl_BringOut.calls h2), .call [] (spec_BringOut.calls h3), .br h4, .call [] (laws_likeInts.calls h5), .br h6, .br h7, .br h8, .call [] (impl_IsShortWord.calls h9), .call [] (impl_WordMatrix.calls h10), .br h11, .br h12] (by kernel_rfl))
                          (fun h12 h =>
                            ifE_cases h
                              (fun h13 h =>
                                bind_cases h fun r14 h14 h =>
                                ifE_cases h
                                  (fun h15 h =>
                                    ifE_cases h
                                      (fun h16 h =>
                                        leaf h fun e => by subst e; exact fin_ret Go.Proofs.Tryz.func5 mix 1000 [.call [] (spec_DrawBringOut.calls h1), .call [] (impl_BringOut.calls h2), .call [] (spec_BringOut.calls h3), .br h4, .call [] (laws_likeInts.calls h5), .br h6, .br h7, .br h8, .call [] (impl_IsShortWord.calls h9), .call [] (impl_WordMatrix.calls h10), .br h11, .br h12, .br h13, .call [] (impl_MoveEnd.calls h14), .br h15, .br h16] (by kernel_rfl))
                                      (fun h16 h =>
                                        fin_fin Go.Proofs.Tryz.func5 mix 1000 [.call [] (spec_DrawBringOut.calls h1), .call [] (impl_BringOut.calls h2), .call [] (spec_BringOut.calls h3), .br h4, .call [] (laws_likeInts.calls h5), .br h6, .br h7, .br h8, .call [] (impl_IsShortWord.calls h9), .call [] (impl_WordMatrix.calls h10), .br h11, .br h12, .br h13, .call [] (impl_MoveEnd.calls h14), .br h15, .br h16, .fin 29 [0] [] (laws_FnFreeWords.j29_ok v0 r h)] (by kernel_rfl)))
                                  (fun h15 h =>
                                    fin_fin Go.Proofs.Tryz.func5 mix 1000 [.call [] (spec_DrawBringOut.calls h1), .call [] (impl_BringOut.calls h2), .call [] (spec_BringOut.calls h3), .br h4, .call [] (laws_likeInts.calls h5), .br h6, .br h7, .br h8, .call [] (impl_IsShortWord.calls h9), .call [] (impl_WordMatrix.calls h10), .br h11, .br h12, .br h13, .call [] (impl_MoveEnd.calls h14), .br h15, .fin 29 [0] [] (laws_FnFreeWords.j29_ok v0 r h)] (by kernel_rfl)))
                              (fun h13 h =>
                                fin_fin Go.Proofs.Tryz.func5 mix 1000 [.call [] (spec_DrawBringOut.calls h1), .call [] (impl_BringOut.calls h2), .call [] (spec_BringOut.calls h3), .br h4, .call [] (laws_likeInts.calls h5), .br h6, .br h7, .br h8, .call [] (impl_IsShortWord.calls h9), .call [] (impl_WordMatrix.calls h10), .br h11, .br h12, .br h13, .fin 29 [0] [] (laws_FnFreeWords.j29_ok v0 r h)] (by kernel_rfl)))))
                  (fun h8 h =>
                    fin_fin Go.Proofs.Tryz.func5 mix 1000 [.call [] (spec_DrawBringOut.calls h1), .call [] (impl_BringOut.calls h2), .call [] (spec_BringOut.calls h3), .br h4, .call [] (laws_likeInts.calls h5), .br h6, .br h7, .br h8, .fin 29 [0] [] (laws_FnFreeWords.j29_ok v0 r h)] (by kernel_rfl)))))

theorem laws_FnFreeWords.calls {a0 : (List Int)} {r : Bool} (h : laws_FnFreeWords.f a0 = some r) : Eng.Fn Go.Proofs.Tryz.prog 5 [R true 1 (cK .u8) a0] [] [] (B r) :=
  fn_fin Go.Proofs.Tryz.func5 (c := bodyOf Go.Proofs.Tryz.f5) (by kernel_rfl) (by kernel_rfl) <|
    bind_cases h fun r1 h1 h =>
    ifE_cases h
      (fun h2 h =>
        leaf h fun e => by subst e; exact fin_ret Go.Proofs.Tryz.func5 mix 1000 [.call [] (laws_big.calls h1), .br h2] (by kernel_rfl))
      (fun h2 h =>
        bind_cases h fun r2 h3 h =>
        bind_cases h fun r3 h4 h =>
        bind_cases h fun r4 h5 h =>
        ifE_cases h
          (fun h6 h =>
            leaf h fun e => by subst e; exact fin_ret Go.Proofs.Tryz.func5 mix 1000 [.call [] (laws_big.calls h1), .br h2, .call [] (spec_DrawSideOfWord.calls h3), .call [] (impl_SideOfWord.calls h4), .call [] (spec_SideOfWord.calls h5), .br h6] (by kernel_rfl))
          (fun h6 h =>
            ifE_cases h
              (fun h7 h =>
                leaf h fun e => by subst e; exact fin_ret Go.Proofs.Tryz.func5 mix 1000 [.call [] (laws_big.calls h1), .br h2, .call [] (spec_DrawSideOfWord.calls h3), .call [] (impl_SideOfWord.calls h4), .call [] (spec_SideOfWord.calls h5), .br h6, .br h7] (by kernel_rfl))
              (fun h7 h =>
                ifE_cases h
                  (fun h8 h =>
                    ifE_cases h
                      (fun h9 h =>
                        bind_cases h fun l5 h10 h =>
                        bind_cases h fun r6 h11 h =>
                        ifE_cases h
                          (fun h12 h =>
                            bind_cases h fun r7 h13 h =>
                            ifE_cases h
                              (fun h14 h =>
                                leaf h fun e => by subst e; exact fin_ret Go.Proofs.Tryz.func5 mix 1000 [.call [] (laws_big.calls h1), .br h2, .call [] (spec_DrawSideOfWord.calls h3), .call [] (impl_SideOfWord.calls h4), .call [] (spec_SideOfWord.calls h5), .br h6, .br h7, .br h8, .br h9, .seg (getS_seg cI h10), .call [] (impl_SideOfWord.calls h11), .br h12, .call [] (impl_AreApartSides.calls h13), .br h14] (by kernel_rfl))
                              (fun h14 h =>
                                ifE_cases h
                                  (fun h15 h =>
                                    leaf h fun e => by subst e; exact fin_ret Go.Proofs.Tryz.func5 mix 1000 [.call [] (laws_big.calls h1), .br h2, .call [] (spec_DrawSideOfWord.calls h3), .call [] (impl_SideOfWord.calls h4), .call [] (spec_SideOfWord.calls h5), .br h6, .br h7, .br h8, .br h9, .seg (getS_seg cI h10), .call [] (impl_SideOfWord.calls h11), .br h12, .call [] (impl_AreApartSides.calls h13), .br h14, .br h15] (by kernel_rfl))
                                  (fun h15 h =>
                                    fin_fin Go.Proofs.Tryz.func5 mix 1000 [.call [] (laws_big.calls h1), .br h2, .call [] (spec_DrawSideOfWord.calls h3), .call [] (impl_SideOfWord.calls h4), .call [] (spec_SideOfWord.calls h5), .br h6, .br h7, .br h8, .br h9, .seg (getS_seg cI h10), .call [] (impl_SideOfWord.calls h11), .br h12, .call [] (impl_AreApartSides.calls h13), .br h14, .br h15, .fin 15 [0] [] (laws_FnFreeWords.j15_ok a0 r h)] (by kernel_rfl))))
                          (fun h12 h =>
                            fin_fin Go.Proofs.Tryz.func5 mix 1000 [.call [] (laws_big.calls h1), .br h2, .call [] (spec_DrawSideOfWord.calls h3), .call [] (impl_SideOfWord.calls h4), .call [] (spec_SideOfWord.calls h5), .br h6, .br h7, .br h8, .br h9, .seg (getS_seg cI h10), .call [] (impl_SideOfWord.calls h11), .br h12, .fin 15 [0] [] (laws_FnFreeWords.j15_ok a0 r h)] (by kernel_rfl)))
                      (fun h9 h =>
                        fin_fin Go.Proofs.Tryz.func5 mix 1000 [.call [] (laws_big.calls h1), .br h2, .call [] (spec_DrawSideOfWord.calls h3), .call [] (impl_SideOfWord.calls h4), .call [] (spec_SideOfWord.calls h5), .br h6, .br h7, .br h8, .br h9, .fin 15 [0] [] (laws_FnFreeWords.j15_ok a0 r h)] (by kernel_rfl)))
                  (fun h8 h =>
                    fin_fin Go.Proofs.Tryz.func5 mix 1000 [.call [] (laws_big.calls h1), .br h2, .call [] (spec_DrawSideOfWord.calls h3), .call [] (impl_SideOfWord.calls h4), .call [] (spec_SideOfWord.calls h5), .br h6, .br h7, .br h8, .fin 15 [0] [] (laws_FnFreeWords.j15_ok a0 r h)] (by kernel_rfl)))))

end Go.CTryz
