import Derived.Test.YtdfepbmcglnhcaaGreatPtF
import Derived.Test.YtdfepbmcglnhcaaGreatPtCB
set_option linter.unusedVariables false
set_option maxRecDepth 100000
open Go Go.Eng
namespace Go.CTryz
open Go.Gn
theorem spec_l10Word.l12_ok (a0 : SLu8eiu64) (k : Nat) : ∀ (o2000_0 : (List Int)) (o2000_1 : Int) (o2000_2 : Int) (o1005 : (List Int)) (r : (ByteArray × SLu8eiu64)), (spec_l10Word.l12 k) o2000_0 o2000_1 o2000_2 o1005 = some r → Eng.Fin Go.Proofs.Tryz.prog 277 [(2000, .box [R true 1 (cK .u8) a0.c0, I a0.c1, K .u64 a0.c2])] [(2000, .box (SLu8eiu64.cells r.2))] (Z r.1) (itsL 12 (bodyOf Go.Proofs.Tryz.f277)) (mkS 52 [(0, .bx 2000 0), (5, .ow 1005)] [(2000, .box [R true 1 (cK .u8) o2000_0, I o2000_1, K .u64 o2000_2]), (1005, Row true 5 1 (cK .u8) o1005)]) := by
  induction k with
  | zero => intro o2000_0 o2000_1 o2000_2 o1005 r h; exact nomatch h
  | succ k ih =>
    exact fun o2000_0 o2000_1 o2000_2 o1005 r h =>
      ifE_cases h
        (fun h1 h =>
          guardE_cases h fun h2 h =>
          fin_fin Go.Proofs.Tryz.func277 mix 1000 [.unroll, .br h1, .le h2, .cat (cat_of (cK .u8) o1005 [48, 117]), .fin 100000 [0, 5] [(2000, 2000), (49, 1005)] (ih o2000_0 o2000_1 o2000_2 (o1005 ++ [48, 117]) r h)] (by kernel_rfl))
        (fun h1 h =>
          bind_cases h fun z9 h3 h =>
          leaf h fun e => by subst e; exact fin_ret Go.Proofs.Tryz.func277 mix 1000 [.unroll, .br h1, .str (toStr_of h3)] (by kernel_rfl))

theorem spec_l10Word.l3_ok (a0 : SLu8eiu64) (k : Nat) : ∀ (v1 : Int) (v6 : Int) (o2000_0 : (List Int)) (o2000_1 : Int) (o2000_2 : Int) (o1005 : (List Int)) (r : (ByteArray × SLu8eiu64)), (spec_l10Word.l3 k) v1 v6 o2000_0 o2000_1 o2000_2 o1005 = some r → Eng.Fin Go.Proofs.Tryz.prog 277 [(2000, .box [R true 1 (cK .u8) a0.c0, I a0.c1, K .u64 a0.c2])] [(2000, .box (SLu8eiu64.cells r.2))] (Z r.1) (itsL 3 (bodyOf Go.Proofs.Tryz.f277)) (mkS 52 [(0, .bx 2000 0), (1, I v1), (5, .ow 1005), (6, I v6)] [(2000, .box [R true 1 (cK .u8) o2000_0, I o2000_1, K .u64 o2000_2]), (1005, Row true 5 1 (cK .u8) o1005)]) := by
  induction k with
  | zero => intro v1 v6 o2000_0 o2000_1 o2000_2 o1005 r h; exact nomatch h
  | succ k ih =>
    exact fun v1 v6 o2000_0 o2000_1 o2000_2 o1005 r h =>
      ifE_cases h
        (fun h1 h =>
          bind_cases h fun r4 h2 h =>
          ifE_cases h
            (fun h3 h =>
              guardE_cases h fun h4 h =>
              fin_fin Go.Proofs.Tryz.func277 mix 1000 [.unroll, .br h1, .call [(2000, 2000)] (spec_l01Next.calls h2), .br h3, .le h4, .cat (cat_of (cK .u8) o1005 [117]), .fin 100000 [0, 1, 5, 6] [(2000, 2000), (24, 1005)] (ih v1 (W (v6 - 1)) r4.2.c0 r4.2.c1 r4.2.c2 (o1005 ++ [117]) r h)] (by kernel_rfl))
            (fun h3 h =>
              bind_cases h fun r5 h5 h =>
              guardE_cases h fun h6 h =>
              fin_fin Go.Proofs.Tryz.func277 mix 1000 [.unroll, .br h1, .call [(2000, 2000)] (spec_l01Next.calls h2), .br h3, .call [(2000, 2000)] (spec_l01Next.calls h5), .le h6, .cat (cat_of (cK .u8) o1005 [IntKind.wrap .u8 (W (48 + r5.1))]), .fin 100000 [0, 1, 5, 6] [(2000, 2000), (34, 1005)] (ih v1 (W (v6 - 1)) r5.2.c0 r5.2.c1 r5.2.c2 (o1005 ++ [IntKind.wrap .u8 (W (48 + r5.1))]) r h)] (by kernel_rfl)))
        (fun h1 h =>
          bind_cases h fun r6 h7 h =>
          ifE_cases h
            (fun h8 h =>
              bind_cases h fun z7 h9 h =>
              guardE_cases h fun h10 h =>
              leaf h fun e => by subst e; exact fin_ret Go.Proofs.Tryz.func277 mix 1000 [.unroll, .br h1, .call [(2000, 2000)] (spec_l01Next.calls h7), .br h8, .str (toStr_of h9), .le h10] (by kernel_rfl))
            (fun h8 h =>
              ifE_cases h
                (fun h11 h =>
                  fin_fin Go.Proofs.Tryz.func277 mix 1000 [.unroll, .br h1, .call [(2000, 2000)] (spec_l01Next.calls h7), .br h8, .br h11, .fin 100000 [0, 5] [(2000, 2000), (1005, 1005)] (spec_l10Word.l12_ok a0 fuelN r6.2.c0 r6.2.c1 r6.2.c2 o1005 r h)] (by kernel_rfl))
                (fun h11 h =>
                  bind_cases h fun z8 h12 h =>
                  leaf h fun e => by subst e; exact fin_ret Go.Proofs.Tryz.func277 mix 1000 [.unroll, .br h1, .call [(2000, 2000)] (spec_l01Next.calls h7), .br h8, .br h11, .str (toStr_of h12)] (by kernel_rfl))))

theorem spec_l10Word.calls {a0 : SLu8eiu64} {a1 : Int} {r : (ByteArray × SLu8eiu64)} (h : spec_l10Word.f a0 a1 = some r) : Eng.Fn Go.Proofs.Tryz.prog 277 [.bx 2000 0, I a1] [(2000, .box [R true 1 (cK .u8) a0.c0, I a0.c1, K .u64 a0.c2])] [(2000, .box (SLu8eiu64.cells r.2))] (Z r.1) :=
  fn_fin Go.Proofs.Tryz.func277 (c := bodyOf Go.Proofs.Tryz.f277) (by kernel_rfl) (by kernel_rfl) <|
    bind_cases h fun r1 h1 h =>
    bind_cases h fun r2 h2 h =>
    bind_cases h fun r3 h3 h =>
    fin_fin Go.Proofs.Tryz.func277 mix 1000 [.call [(2000, 2000)] (spec_l01Next.calls h1), .call [(2000, 2000)] (spec_l01Next.calls h2), .call [(2000, 2000)] (spec_l01Pick.calls h3), .fin 100000 [0, 1, 5, 6] [(2000, 2000), (7, 1005)] (spec_l10Word.l3_ok a0 fuelN a1 r3.1 r3.2.c0 r3.2.c1 r3.2.c2 [] r h)] (by kernel_rfl)

theorem spec_DrawFollowSteps.calls {a0 : (List Int)} {r : (Int × Siii × ByteArray)} (h : spec_DrawFollowSteps.f a0 = some r) : Eng.Fn Go.Proofs.Tryz.prog 224 [R true 1 (cK .u8) a0] [] [] (.tu [I r.1, .ag (Siii.cells r.2.1), Z r.2.2]) :=
  fn_fin Go.Proofs.Tryz.func224 (c := bodyOf Go.Proofs.Tryz.f224) (by kernel_rfl) (by kernel_rfl) <|
    bind_cases h fun r1 h1 h =>
    bind_cases h fun r2 h2 h =>
    bind_cases h fun r3 h3 h =>
    leaf h fun e => by subst e; exact fin_ret Go.Proofs.Tryz.func224 mix 1000 [.call [(9, 11)] (spec_l01From.calls h1), .call [(9, 2000)] (spec_l01Spoil.calls h2), .call [(9, 2000)] (spec_l10Word.calls h3)] (by kernel_rfl)

theorem spec_DrawNormalSteps.calls {a0 : (List Int)} {r : (Int × ByteArray)} (h : spec_DrawNormalSteps.f a0 = some r) : Eng.Fn Go.Proofs.Tryz.prog 105 [R true 1 (cK .u8) a0] [] [] (.tu [I r.1, Z r.2]) :=
  fn_fin Go.Proofs.Tryz.func105 (c := bodyOf Go.Proofs.Tryz.f105) (by kernel_rfl) (by kernel_rfl) <|
    bind_cases h fun r1 h1 h =>
    leaf h fun e => by subst e; exact fin_ret Go.Proofs.Tryz.func105 mix 1000 [.call [] (spec_DrawFollowSteps.calls h1)] (by kernel_rfl)

theorem spec_DrawMatrixOfSteps.calls {a0 : (List Int)} {r : (Int × ByteArray)} (h : spec_DrawMatrixOfSteps.f a0 = some r) : Eng.Fn Go.Proofs.Tryz.prog 9 [R true 1 (cK .u8) a0] [] [] (.tu [I r.1, Z r.2]) :=
  fn_fin Go.Proofs.Tryz.func9 (c := bodyOf Go.Proofs.Tryz.f9) (by kernel_rfl) (by kernel_rfl) <|
    bind_cases h fun r1 h1 h =>
    leaf h fun e => by subst e; exact fin_ret Go.Proofs.Tryz.func9 mix 1000 [.call [] (spec_DrawNormalSteps.calls h1)] (by kernel_rfl)

theorem impl_isSteps.l2_ok (k : Nat) : ∀ (v0 : Int) (v1 : ByteArray) (v8 : Int) (v9 : Int) (r : Bool), (impl_isSteps.l2 k) v0 v1 v8 v9 = some r → Eng.Fin Go.Proofs.Tryz.prog 225 [] [] (B r) (itsL 2 (bodyOf Go.Proofs.Tryz.f225)) (mkS 32 [(0, I v0), (1, Z v1), (8, I v8), (9, I v9)] []) := by
  induction k with
  | zero => intro v0 v1 v8 v9 r h; exact nomatch h
  | succ k ih =>
    exact fun v0 v1 v8 v9 r h =>
      ifE_cases h
        (fun h1 h =>
          bind_cases h fun b1 h2 h =>
          ifE_cases h
            (fun h3 h =>
              ifE_cases h
                (fun h4 h =>
                  leaf h fun e => by subst e; exact fin_ret Go.Proofs.Tryz.func225 mix 1000 [.unroll, .br h1, .sx (getB_sx h2), .br h3, .br h4] (by kernel_rfl))
                (fun h4 h =>
                  ifE_cases h
                    (fun h5 h =>
                      leaf h fun e => by subst e; exact fin_ret Go.Proofs.Tryz.func225 mix 1000 [.unroll, .br h1, .sx (getB_sx h2), .br h3, .br h4, .br h5] (by kernel_rfl))
                    (fun h5 h =>
                      fin_fin Go.Proofs.Tryz.func225 mix 1000 [.unroll, .br h1, .sx (getB_sx h2), .br h3, .br h4, .br h5, .fin 100000 [0, 1, 8, 9] [] (ih v0 v1 v8 (W (v9 + 1)) r h)] (by kernel_rfl))))
            (fun h3 h =>
              fin_fin Go.Proofs.Tryz.func225 mix 1000 [.unroll, .br h1, .sx (getB_sx h2), .br h3, .fin 100000 [0, 1, 8, 9] [] (ih v0 v1 v8 (W (v9 + 1)) r h)] (by kernel_rfl)))
        (fun h1 h =>
          leaf h fun e => by subst e; exact fin_ret Go.Proofs.Tryz.func225 mix 1000 [.unroll, .br h1] (by kernel_rfl))

theorem impl_isSteps.calls {a0 : Int} {a1 : ByteArray} {r : Bool} (h : impl_isSteps.f a0 a1 = some r) : Eng.Fn Go.Proofs.Tryz.prog 225 [I a0, Z a1] [] [] (B r) :=
  fn_fin Go.Proofs.Tryz.func225 (c := bodyOf Go.Proofs.Tryz.f225) (by kernel_rfl) (by kernel_rfl) <|
    fin_fin Go.Proofs.Tryz.func225 mix 1000 [.fin 100000 [0, 1, 8, 9] [] (impl_isSteps.l2_ok fuelN a0 a1 (a1.size : Int) 0 r h)] (by kernel_rfl)

theorem impl_stepsCode.calls {a0 : Int} {a1 : Siii} {a2 : ByteArray} {r : Int} (h : impl_stepsCode.f a0 a1 a2 = some r) : Eng.Fn Go.Proofs.Tryz.prog 106 [I a0, .ag (Siii.cells a1), Z a2] [] [] (I r) :=
  fn_fin Go.Proofs.Tryz.func106 (c := bodyOf Go.Proofs.Tryz.f106) (by kernel_rfl) (by kernel_rfl) <|
    bind_cases h fun r1 h1 h =>
    ifE_cases h
      (fun h2 h =>
        leaf h fun e => by subst e; exact fin_ret Go.Proofs.Tryz.func106 mix 1000 [.call [] (impl_IsBall.calls h1), .br h2] (by kernel_rfl))
      (fun h2 h =>
        bind_cases h fun r2 h3 h =>
        ifE_cases h
          (fun h4 h =>
            leaf h fun e => by subst e; exact fin_ret Go.Proofs.Tryz.func106 mix 1000 [.call [] (impl_IsBall.calls h1), .br h2, .call [] (impl_isSteps.calls h3), .br h4] (by kernel_rfl))
          (fun h4 h =>
            leaf h fun e => by subst e; exact fin_ret Go.Proofs.Tryz.func106 mix 1000 [.call [] (impl_IsBall.calls h1), .br h2, .call [] (impl_isSteps.calls h3), .br h4] (by kernel_rfl)))

theorem impl_MatrixOfSteps.j11_ok (rec6 : Int → ByteArray → Int → Int → Int → Int → Int → Int → Int → Int → Int → Int → Option (Siiii × Int)) (rec6H : ∀ (v0 : Int) (v1 : ByteArray) (v22 : Int) (v23 : Int) (o4_0 : Int) (o4_1 : Int) (o4_2 : Int) (o4_3 : Int) (o7_0 : Int) (o7_1 : Int) (o7_2 : Int) (o7_3 : Int) (r : (Siiii × Int)), rec6 v0 v1 v22 v23 o4_0 o4_1 o4_2 o4_3 o7_0 o7_1 o7_2 o7_3 = some r → Eng.Fin Go.Proofs.Tryz.prog 10 [] [] (.tu [.ag (Siiii.cells r.1), I r.2]) (itsL 6 (bodyOf Go.Proofs.Tryz.f10)) (mkS 55 [(0, I v0), (1, Z v1), (4, .bx 4 0), (7, .bx 7 0), (22, I v22), (23, I v23)] [(4, .box [I o4_0, I o4_1, I o4_2, I o4_3]), (7, .box [I o7_0, I o7_1, I o7_2, I o7_3])])) : ∀ (v0 : Int) (v1 : ByteArray) (v22 : Int) (v23 : Int) (o4_0 : Int) (o4_1 : Int) (o4_2 : Int) (o4_3 : Int) (o7_0 : Int) (o7_1 : Int) (o7_2 : Int) (o7_3 : Int) (o9_0 : Int) (o9_1 : Int) (o9_2 : Int) (o9_3 : Int) (r : (Siiii × Int)), (impl_MatrixOfSteps.j11 rec6) v0 v1 v22 v23 o4_0 o4_1 o4_2 o4_3 o7_0 o7_1 o7_2 o7_3 o9_0 o9_1 o9_2 o9_3 = some r → Eng.Fin Go.Proofs.Tryz.prog 10 [] [] (.tu [.ag (Siiii.cells r.1), I r.2]) (itsR 11 (bodyOf Go.Proofs.Tryz.f10)) (mkS 55 [(0, I v0), (1, Z v1), (4, .bx 4 0), (7, .bx 7 0), (9, .bx 9 0), (22, I v22), (23, I v23)] [(4, .box [I o4_0, I o4_1, I o4_2, I o4_3]), (7, .box [I o7_0, I o7_1, I o7_2, I o7_3]), (9, .box [I o9_0, I o9_1, I o9_2, I o9_3])]) :=
  fun v0 v1 v22 v23 o4_0 o4_1 o4_2 o4_3 o7_0 o7_1 o7_2 o7_3 o9_0 o9_1 o9_2 o9_3 r h =>
    bind_cases h fun r5 h1 h =>
    ifE_cases h
      (fun h2 h =>
        leaf h fun e => by subst e; exact fin_ret Go.Proofs.Tryz.func10 mix 1000 [.call [] (impl_product.calls h1), .br h2] (by kernel_rfl))
      (fun h2 h =>
        fin_fin Go.Proofs.Tryz.func10 mix 1000 [.call [] (impl_product.calls h1), .br h2, .fin 100000 [0, 1, 4, 7, 22, 23] [(4, 4), (7, 7)] (rec6H v0 v1 v22 (W (v23 + 1)) o4_0 o4_1 o4_2 o4_3 r5.1.c0 r5.1.c1 r5.1.c2 r5.1.c3 r h)] (by kernel_rfl))

theorem impl_MatrixOfSteps.l6_ok (k : Nat) : ∀ (v0 : Int) (v1 : ByteArray) (v22 : Int) (v23 : Int) (o4_0 : Int) (o4_1 : Int) (o4_2 : Int) (o4_3 : Int) (o7_0 : Int) (o7_1 : Int) (o7_2 : Int) (o7_3 : Int) (r : (Siiii × Int)), (impl_MatrixOfSteps.l6 k) v0 v1 v22 v23 o4_0 o4_1 o4_2 o4_3 o7_0 o7_1 o7_2 o7_3 = some r → Eng.Fin Go.Proofs.Tryz.prog 10 [] [] (.tu [.ag (Siiii.cells r.1), I r.2]) (itsL 6 (bodyOf Go.Proofs.Tryz.f10)) (mkS 55 [(0, I v0), (1, Z v1), (4, .bx 4 0), (7, .bx 7 0), (22, I v22), (23, I v23)] [(4, .box [I o4_0, I o4_1, I o4_2, I o4_3]), (7, .box [I o7_0, I o7_1, I o7_2, I o7_3])]) := by
  induction k with
  | zero => intro v0 v1 v22 v23 o4_0 o4_1 o4_2 o4_3 o7_0 o7_1 o7_2 o7_3 r h; exact nomatch h
  | succ k ih =>
    exact fun v0 v1 v22 v23 o4_0 o4_1 o4_2 o4_3 o7_0 o7_1 o7_2 o7_3 r h =>
      ifE_cases h
        (fun h1 h =>
          bind_cases h fun b3 h2 h =>
          ifE_cases h
            (fun h3 h =>
              bind_cases h fun b4 h4 h =>
              fin_fin Go.Proofs.Tryz.func10 mix 1000 [.unroll, .br h1, .sx (getB_sx h2), .br h3, .sx (getB_sx h4), .fin 11 [0, 1, 4, 7, 9, 22, 23] [(4, 4), (7, 7), (9, 9)] (impl_MatrixOfSteps.j11_ok (impl_MatrixOfSteps.l6 k) ih v0 v1 v22 v23 o4_0 o4_1 o4_2 o4_3 o7_0 o7_1 o7_2 o7_3 v0 (W (IntKind.wrap .u8 ((b4.toNat : Int) - 48))) 0 1 r h)] (by kernel_rfl))
            (fun h3 h =>
              fin_fin Go.Proofs.Tryz.func10 mix 1000 [.unroll, .br h1, .sx (getB_sx h2), .br h3, .fin 11 [0, 1, 4, 7, 9, 22, 23] [(4, 4), (7, 7), (9, 9)] (impl_MatrixOfSteps.j11_ok (impl_MatrixOfSteps.l6 k) ih v0 v1 v22 v23 o4_0 o4_1 o4_2 o4_3 o7_0 o7_1 o7_2 o7_3 1 0 0 v0 r h)] (by kernel_rfl)))
        (fun h1 h =>
          leaf h fun e => by subst e; exact fin_ret Go.Proofs.Tryz.func10 mix 1000 [.unroll, .br h1] (by kernel_rfl))

theorem impl_MatrixOfSteps.calls {a0 : Int} {a1 : ByteArray} {r : (Siiii × Int)} (h : impl_MatrixOfSteps.f a0 a1 = some r) : Eng.Fn Go.Proofs.Tryz.prog 10 [I a0, Z a1] [] [] (.tu [.ag (Siiii.cells r.1), I r.2]) :=
  fn_fin Go.Proofs.Tryz.func10 (c := bodyOf Go.Proofs.Tryz.f10) (by kernel_rfl) (by kernel_rfl) <|
    bind_cases h fun r1 h1 h =>
    ifE_cases h
      (fun h2 h =>
        leaf h fun e => by subst e; exact fin_ret Go.Proofs.Tryz.func10 mix 1000 [.call [] (impl_stepsCode.calls h1), .br h2] (by kernel_rfl))
      (fun h2 h =>
        bind_cases h fun r2 h3 h =>
        fin_fin Go.Proofs.Tryz.func10 mix 1000 [.call [] (impl_stepsCode.calls h1), .br h2, .call [] (impl_one.calls h3), .fin 100000 [0, 1, 4, 7, 22, 23] [(4, 4), (7, 7)] (impl_MatrixOfSteps.l6_ok fuelN a0 a1 (a1.size : Int) 0 0 0 0 0 r2.c0 r2.c1 r2.c2 r2.c3 r h)] (by kernel_rfl))

theorem spec_l10Is.l4_ok (k : Nat) : ∀ (v0 : Int) (v1 : ByteArray) (v5 : Int) (r : Bool), (spec_l10Is.l4 k) v0 v1 v5 = some r → Eng.Fin Go.Proofs.Tryz.prog 227 [] [] (B r) (itsL 4 (bodyOf Go.Proofs.Tryz.f227)) (mkS 30 [(0, I v0), (1, Z v1), (5, I v5)] []) := by
  induction k with
  | zero => intro v0 v1 v5 r h; exact nomatch h
  | succ k ih =>
    exact fun v0 v1 v5 r h =>
      ifE_cases h
        (fun h1 h =>
          bind_cases h fun b1 h2 h =>
          ifE_cases h
            (fun h3 h =>
              bind_cases h fun b2 h4 h =>
              bind_cases h fun r3 h5 h =>
              ifE_cases h
                (fun h6 h =>
                  leaf h fun e => by subst e; exact fin_ret Go.Proofs.Tryz.func227 mix 1000 [.unroll, .br h1, .sx (getB_sx h2), .br h3, .sx (getB_sx h4), .call [] (spec_l01In.calls h5), .br h6] (by kernel_rfl))
                (fun h6 h =>
                  fin_fin Go.Proofs.Tryz.func227 mix 1000 [.unroll, .br h1, .sx (getB_sx h2), .br h3, .sx (getB_sx h4), .call [] (spec_l01In.calls h5), .br h6, .fin 100000 [0, 1, 5] [] (ih v0 v1 (W (v5 + 1)) r h)] (by kernel_rfl)))
            (fun h3 h =>
              fin_fin Go.Proofs.Tryz.func227 mix 1000 [.unroll, .br h1, .sx (getB_sx h2), .br h3, .fin 100000 [0, 1, 5] [] (ih v0 v1 (W (v5 + 1)) r h)] (by kernel_rfl)))
        (fun h1 h =>
          leaf h fun e => by subst e; exact fin_ret Go.Proofs.Tryz.func227 mix 1000 [.unroll, .br h1] (by kernel_rfl))

theorem spec_l10Is.calls {a0 : Int} {a1 : ByteArray} {r : Bool} (h : spec_l10Is.f a0 a1 = some r) : Eng.Fn Go.Proofs.Tryz.prog 227 [I a0, Z a1] [] [] (B r) :=
  fn_fin Go.Proofs.Tryz.func227 (c := bodyOf Go.Proofs.Tryz.f227) (by kernel_rfl) (by kernel_rfl) <|
    ifE_cases h
      (fun h1 h =>
        leaf h fun e => by subst e; exact fin_ret Go.Proofs.Tryz.func227 mix 1000 [.br h1] (by kernel_rfl))
      (fun h1 h =>
        fin_fin Go.Proofs.Tryz.func227 mix 1000 [.br h1, .fin 100000 [0, 1, 5] [] (spec_l10Is.l4_ok fuelN a0 a1 0 r h)] (by kernel_rfl))

theorem spec_l10Code.calls {a0 : Int} {a1 : ByteArray} {a2 : (List Siii)} {r : Int} (h : spec_l10Code.f a0 a1 a2 = some r) : Eng.Fn Go.Proofs.Tryz.prog 109 [I a0, Z a1, R true 3 Siii.cells a2] [] [] (I r) :=
  fn_fin Go.Proofs.Tryz.func109 (c := bodyOf Go.Proofs.Tryz.f109) (by kernel_rfl) (by kernel_rfl) <|
    bind_cases h fun r1 h1 h =>
    ifE_cases h
      (fun h2 h =>
        leaf h fun e => by subst e; exact fin_ret Go.Proofs.Tryz.func109 mix 1000 [.call [] (spec_l01Code.calls h1), .br h2] (by kernel_rfl))
      (fun h2 h =>
        bind_cases h fun r2 h3 h =>
        ifE_cases h
          (fun h4 h =>
            leaf h fun e => by subst e; exact fin_ret Go.Proofs.Tryz.func109 mix 1000 [.call [] (spec_l01Code.calls h1), .br h2, .call [] (spec_l10Is.calls h3), .br h4] (by kernel_rfl))
          (fun h4 h =>
            leaf h fun e => by subst e; exact fin_ret Go.Proofs.Tryz.func109 mix 1000 [.call [] (spec_l01Code.calls h1), .br h2, .call [] (spec_l10Is.calls h3), .br h4] (by kernel_rfl)))

theorem spec_MatrixOfSteps.j11_ok (rec6 : Int → ByteArray → Int → Int → Int → Int → Int → Int → Int → Int → Int → Option (Siiii × Int)) (rec6H : ∀ (v0 : Int) (v1 : ByteArray) (v8 : Int) (o4_0 : Int) (o4_1 : Int) (o4_2 : Int) (o4_3 : Int) (o7_0 : Int) (o7_1 : Int) (o7_2 : Int) (o7_3 : Int) (r : (Siiii × Int)), rec6 v0 v1 v8 o4_0 o4_1 o4_2 o4_3 o7_0 o7_1 o7_2 o7_3 = some r → Eng.Fin Go.Proofs.Tryz.prog 11 [] [] (.tu [.ag (Siiii.cells r.1), I r.2]) (itsL 6 (bodyOf Go.Proofs.Tryz.f11)) (mkS 56 [(0, I v0), (1, Z v1), (4, .bx 4 0), (7, .bx 7 0), (8, I v8)] [(4, .box [I o4_0, I o4_1, I o4_2, I o4_3]), (7, .box [I o7_0, I o7_1, I o7_2, I o7_3])])) : ∀ (v0 : Int) (v1 : ByteArray) (v8 : Int) (o4_0 : Int) (o4_1 : Int) (o4_2 : Int) (o4_3 : Int) (o7_0 : Int) (o7_1 : Int) (o7_2 : Int) (o7_3 : Int) (o9_0 : Int) (o9_1 : Int) (o9_2 : Int) (o9_3 : Int) (r : (Siiii × Int)), (spec_MatrixOfSteps.j11 rec6) v0 v1 v8 o4_0 o4_1 o4_2 o4_3 o7_0 o7_1 o7_2 o7_3 o9_0 o9_1 o9_2 o9_3 = some r → Eng.Fin Go.Proofs.Tryz.prog 11 [] [] (.tu [.ag (Siiii.cells r.1), I r.2]) (itsR 11 (bodyOf Go.Proofs.Tryz.f11)) (mkS 56 [(0, I v0), (1, Z v1), (4, .bx 4 0), (7, .bx 7 0), (8, I v8), (9, .bx 9 0)] [(4, .box [I o4_0, I o4_1, I o4_2, I o4_3]), (7, .box [I o7_0, I o7_1, I o7_2, I o7_3]), (9, .box [I o9_0, I o9_1, I o9_2, I o9_3])]) :=
  fun v0 v1 v8 o4_0 o4_1 o4_2 o4_3 o7_0 o7_1 o7_2 o7_3 o9_0 o9_1 o9_2 o9_3 r h =>
    bind_cases h fun r4 h1 h =>
    ifE_cases h
      (fun h2 h =>
        leaf h fun e => by subst e; exact fin_ret Go.Proofs.Tryz.func11 mix 1000 [.call [] (spec_l04Times.calls h1), .br h2] (by kernel_rfl))
      (fun h2 h =>
        fin_fin Go.Proofs.Tryz.func11 mix 1000 [.call [] (spec_l04Times.calls h1), .br h2, .fin 100000 [0, 1, 4, 7, 8] [(4, 4), (7, 7)] (rec6H v0 v1 (W (v8 + 1)) o4_0 o4_1 o4_2 o4_3 r4.1.c0 r4.1.c1 r4.1.c2 r4.1.c3 r h)] (by kernel_rfl))

theorem spec_MatrixOfSteps.l6_ok (k : Nat) : ∀ (v0 : Int) (v1 : ByteArray) (v8 : Int) (o4_0 : Int) (o4_1 : Int) (o4_2 : Int) (o4_3 : Int) (o7_0 : Int) (o7_1 : Int) (o7_2 : Int) (o7_3 : Int) (r : (Siiii × Int)), (spec_MatrixOfSteps.l6 k) v0 v1 v8 o4_0 o4_1 o4_2 o4_3 o7_0 o7_1 o7_2 o7_3 = some r → Eng.Fin Go.Proofs.Tryz.prog 11 [] [] (.tu [.ag (Siiii.cells r.1), I r.2]) (itsL 6 (bodyOf Go.Proofs.Tryz.f11)) (mkS 56 [(0, I v0), (1, Z v1), (4, .bx 4 0), (7, .bx 7 0), (8, I v8)] [(4, .box [I o4_0, I o4_1, I o4_2, I o4_3]), (7, .box [I o7_0, I o7_1, I o7_2, I o7_3])]) := by
  induction k with
  | zero => intro v0 v1 v8 o4_0 o4_1 o4_2 o4_3 o7_0 o7_1 o7_2 o7_3 r h; exact nomatch h
  | succ k ih =>
    exact fun v0 v1 v8 o4_0 o4_1 o4_2 o4_3 o7_0 o7_1 o7_2 o7_3 r h =>
      ifE_cases h
        (fun h1 h =>
          bind_cases h fun b2 h2 h =>
          ifE_cases h
            (fun h3 h =>
              bind_cases h fun b3 h4 h =>
              fin_fin Go.Proofs.Tryz.func11 mix 1000 [.unroll, .br h1, .sx (getB_sx h2), .br h3, .sx (getB_sx h4), .fin 11 [0, 1, 4, 7, 8, 9] [(4, 4), (7, 7), (9, 9)] (spec_MatrixOfSteps.j11_ok (spec_MatrixOfSteps.l6 k) ih v0 v1 v8 o4_0 o4_1 o4_2 o4_3 o7_0 o7_1 o7_2 o7_3 v0 (W ((W ((b3.toNat : Int))) - 48)) 0 1 r h)] (by kernel_rfl))
            (fun h3 h =>
              fin_fin Go.Proofs.Tryz.func11 mix 1000 [.unroll, .br h1, .sx (getB_sx h2), .br h3, .fin 11 [0, 1, 4, 7, 8, 9] [(4, 4), (7, 7), (9, 9)] (spec_MatrixOfSteps.j11_ok (spec_MatrixOfSteps.l6 k) ih v0 v1 v8 o4_0 o4_1 o4_2 o4_3 o7_0 o7_1 o7_2 o7_3 1 0 0 v0 r h)] (by kernel_rfl)))
        (fun h1 h =>
          leaf h fun e => by subst e; exact fin_ret Go.Proofs.Tryz.func11 mix 1000 [.unroll, .br h1] (by kernel_rfl))

theorem spec_MatrixOfSteps.calls {a0 : Int} {a1 : ByteArray} {r : (Siiii × Int)} (h : spec_MatrixOfSteps.f a0 a1 = some r) : Eng.Fn Go.Proofs.Tryz.prog 11 [I a0, Z a1] [] [] (.tu [.ag (Siiii.cells r.1), I r.2]) :=
  fn_fin Go.Proofs.Tryz.func11 (c := bodyOf Go.Proofs.Tryz.f11) (by kernel_rfl) (by kernel_rfl) <|
    bind_cases h fun r1 h1 h =>
    ifE_cases h
      (fun h2 h =>
        leaf h fun e => by subst e; exact fin_ret Go.Proofs.Tryz.func11 mix 1000 [.call [] (Eng.Fn.fits (.cons .refl (.cons .refl (.cons .nl .nil))) (spec_l10Code.calls h1)), .br h2] (by kernel_rfl))
      (fun h2 h =>
        fin_fin Go.Proofs.Tryz.func11 mix 1000 [.call [] (Eng.Fn.fits (.cons .refl (.cons .refl (.cons .nl .nil))) (spec_l10Code.calls h1)), .br h2, .fin 100000 [0, 1, 4, 7, 8] [(4, 4), (7, 7)] (spec_MatrixOfSteps.l6_ok fuelN a0 a1 0 0 0 0 0 1 0 0 1 r h)] (by kernel_rfl))

theorem spec_l04With.calls {a0 : (List Int)} {r : (Int × Siiii × Siii)} (h : spec_l04With.f a0 = some r) : Eng.Fn Go.Proofs.Tryz.prog 111 [R true 1 (cK .u8) a0] [] [] (.tu [I r.1, .ag (Siiii.cells r.2.1), .ag (Siii.cells r.2.2)]) :=
  fn_fin Go.Proofs.Tryz.func111 (c := bodyOf Go.Proofs.Tryz.f111) (by kernel_rfl) (by kernel_rfl) <|
    bind_cases h fun r1 h1 h =>
    bind_cases h fun r2 h2 h =>
    bind_cases h fun r3 h3 h =>
    ifE_cases h
      (fun h4 h =>
        bind_cases h fun r4 h5 h =>
        leaf h fun e => by subst e; exact fin_ret Go.Proofs.Tryz.func111 mix 1000 [.call [(9, 11)] (spec_l01From.calls h1), .call [(9, 2000)] (spec_l01Spoil.calls h2), .call [(9, 2000)] (spec_l01Next.calls h3), .br h4, .call [(9, 2000)] (spec_l04Draw.calls h5)] (by kernel_rfl))
      (fun h4 h =>
        bind_cases h fun r5 h6 h =>
        leaf h fun e => by subst e; exact fin_ret Go.Proofs.Tryz.func111 mix 1000 [.call [(9, 11)] (spec_l01From.calls h1), .call [(9, 2000)] (spec_l01Spoil.calls h2), .call [(9, 2000)] (spec_l01Next.calls h3), .br h4, .call [(9, 2000)] (spec_l04Draw.calls h6)] (by kernel_rfl))

theorem spec_DrawTriangularPart.calls {a0 : (List Int)} {r : (Int × Siiii)} (h : spec_DrawTriangularPart.f a0 = some r) : Eng.Fn Go.Proofs.Tryz.prog 12 [R true 1 (cK .u8) a0] [] [] (.tu [I r.1, .ag (Siiii.cells r.2)]) :=
  fn_fin Go.Proofs.Tryz.func12 (c := bodyOf Go.Proofs.Tryz.f12) (by kernel_rfl) (by kernel_rfl) <|
    bind_cases h fun r1 h1 h =>
    leaf h fun e => by subst e; exact fin_ret Go.Proofs.Tryz.func12 mix 1000 [.call [] (spec_l04With.calls h1)] (by kernel_rfl)

theorem impl_partCode.calls {a0 : Int} {a1 : Siiii} {r : Int} (h : impl_partCode.f a0 a1 = some r) : Eng.Fn Go.Proofs.Tryz.prog 112 [I a0, .ag (Siiii.cells a1)] [] [] (I r) :=
  fn_fin Go.Proofs.Tryz.func112 (c := bodyOf Go.Proofs.Tryz.f112) (by kernel_rfl) (by kernel_rfl) <|
    bind_cases h fun r1 h1 h =>
    ifE_cases h
      (fun h2 h =>
        leaf h fun e => by subst e; exact fin_ret Go.Proofs.Tryz.func112 mix 1000 [.call [] (impl_isPrime.calls h1), .br h2] (by kernel_rfl))
      (fun h2 h =>
        bind_cases h fun r2 h3 h =>
        ifE_cases h
          (fun h4 h =>
            leaf h fun e => by subst e; exact fin_ret Go.Proofs.Tryz.func112 mix 1000 [.call [] (impl_isPrime.calls h1), .br h2, .call [] (impl_IsMatrix.calls h3), .br h4] (by kernel_rfl))
          (fun h4 h =>
            leaf h fun e => by subst e; exact fin_ret Go.Proofs.Tryz.func112 mix 1000 [.call [] (impl_isPrime.calls h1), .br h2, .call [] (impl_IsMatrix.calls h3), .br h4] (by kernel_rfl)))

theorem impl_triangular.calls {a0 : Int} {a1 : Siiii} {r : (Siiii × Bool)} (h : impl_triangular.f a0 a1 = some r) : Eng.Fn Go.Proofs.Tryz.prog 114 [I a0, .ag (Siiii.cells a1)] [] [] (.tu [.ag (Siiii.cells r.1), B r.2]) :=
  fn_fin Go.Proofs.Tryz.func114 (c := bodyOf Go.Proofs.Tryz.f114) (by kernel_rfl) (by kernel_rfl) <|
    bind_cases h fun r1 h1 h =>
    ifE_cases h
      (fun h2 h =>
        leaf h fun e => by subst e; exact fin_ret Go.Proofs.Tryz.func114 mix 1000 [.call [] (impl_moveBall.calls h1), .br h2] (by kernel_rfl))
      (fun h2 h =>
        bind_cases h fun r2 h3 h =>
        bind_cases h fun r3 h4 h =>
        bind_cases h fun r4 h5 h =>
        bind_cases h fun r5 h6 h =>
        leaf h fun e => by subst e; exact fin_ret Go.Proofs.Tryz.func114 mix 1000 [.call [] (impl_moveBall.calls h1), .br h2, .call [] (impl_power.calls h3), .call [] (impl_power.calls h4), .call [] (impl_power.calls h5), .call [] (impl_reduced.calls h6)] (by kernel_rfl))

theorem impl_TriangularPart.calls {a0 : Int} {a1 : Siiii} {r : (Siiii × Int)} (h : impl_TriangularPart.f a0 a1 = some r) : Eng.Fn Go.Proofs.Tryz.prog 13 [I a0, .ag (Siiii.cells a1)] [] [] (.tu [.ag (Siiii.cells r.1), I r.2]) :=
  fn_fin Go.Proofs.Tryz.func13 (c := bodyOf Go.Proofs.Tryz.f13) (by kernel_rfl) (by kernel_rfl) <|
    bind_cases h fun r1 h1 h =>
    ifE_cases h
      (fun h2 h =>
        leaf h fun e => by subst e; exact fin_ret Go.Proofs.Tryz.func13 mix 1000 [.call [] (impl_partCode.calls h1), .br h2] (by kernel_rfl))
      (fun h2 h =>
        bind_cases h fun r2 h3 h =>
        bind_cases h fun r3 h4 h =>
        leaf h fun e => by subst e; exact fin_ret Go.Proofs.Tryz.func13 mix 1000 [.call [] (impl_partCode.calls h1), .br h2, .call [] (impl_triangular.calls h3), .call [] (impl_fittedMatrix.calls h4)] (by kernel_rfl))

theorem spec_l10Triangular.calls {a0 : Int} {a1 : Siiii} {r : (Siiii × Bool)} (h : spec_l10Triangular.f a0 a1 = some r) : Eng.Fn Go.Proofs.Tryz.prog 116 [I a0, .ag (Siiii.cells a1)] [] [] (.tu [.ag (Siiii.cells r.1), B r.2]) :=
  fn_fin Go.Proofs.Tryz.func116 (c := bodyOf Go.Proofs.Tryz.f116) (by kernel_rfl) (by kernel_rfl) <|
    bind_cases h fun r1 h1 h =>
    ifE_cases h
      (fun h2 h =>
        leaf h fun e => by subst e; exact fin_ret Go.Proofs.Tryz.func116 mix 1000 [.call [] (spec_l04Move.calls h1), .br h2] (by kernel_rfl))
      (fun h2 h =>
        bind_cases h fun r2 h3 h =>
        bind_cases h fun r3 h4 h =>
        bind_cases h fun r4 h5 h =>
        bind_cases h fun r5 h6 h =>
        leaf h fun e => by subst e; exact fin_ret Go.Proofs.Tryz.func116 mix 1000 [.call [] (spec_l04Move.calls h1), .br h2, .call [] (spec_l01Power.calls h3), .call [] (spec_l01Power.calls h4), .call [] (spec_l01Power.calls h5), .call [] (spec_l04Reduce.calls h6)] (by kernel_rfl))

theorem spec_TriangularPart.calls {a0 : Int} {a1 : Siiii} {r : (Siiii × Int)} (h : spec_TriangularPart.f a0 a1 = some r) : Eng.Fn Go.Proofs.Tryz.prog 14 [I a0, .ag (Siiii.cells a1)] [] [] (.tu [.ag (Siiii.cells r.1), I r.2]) :=
  fn_fin Go.Proofs.Tryz.func14 (c := bodyOf Go.Proofs.Tryz.f14) (by kernel_rfl) (by kernel_rfl) <|
    bind_cases h fun r1 h1 h =>
    ifE_cases h
      (fun h2 h =>
        leaf h fun e => by subst e; exact fin_ret Go.Proofs.Tryz.func14 mix 1000 [.call [] (Eng.Fn.fits (.cons .refl (.cons .refl (.cons .nl .nil))) (spec_l04Code.calls h1)), .br h2] (by kernel_rfl))
      (fun h2 h =>
        bind_cases h fun r2 h3 h =>
        ifE_cases h
          (fun h4 h =>
            leaf h fun e => by subst e; exact fin_ret Go.Proofs.Tryz.func14 mix 1000 [.call [] (Eng.Fn.fits (.cons .refl (.cons .refl (.cons .nl .nil))) (spec_l04Code.calls h1)), .br h2, .call [] (spec_l10Triangular.calls h3), .br h4] (by kernel_rfl))
          (fun h4 h =>
            leaf h fun e => by subst e; exact fin_ret Go.Proofs.Tryz.func14 mix 1000 [.call [] (Eng.Fn.fits (.cons .refl (.cons .refl (.cons .nl .nil))) (spec_l04Code.calls h1)), .br h2, .call [] (spec_l10Triangular.calls h3), .br h4] (by kernel_rfl)))

theorem impl_UnitPart.calls {a0 : Int} {a1 : Siiii} {r : (Siiii × Int)} (h : impl_UnitPart.f a0 a1 = some r) : Eng.Fn Go.Proofs.Tryz.prog 15 [I a0, .ag (Siiii.cells a1)] [] [] (.tu [.ag (Siiii.cells r.1), I r.2]) :=
  fn_fin Go.Proofs.Tryz.func15 (c := bodyOf Go.Proofs.Tryz.f15) (by kernel_rfl) (by kernel_rfl) <|
    bind_cases h fun r1 h1 h =>
    ifE_cases h
      (fun h2 h =>
        leaf h fun e => by subst e; exact fin_ret Go.Proofs.Tryz.func15 mix 1000 [.call [] (impl_partCode.calls h1), .br h2] (by kernel_rfl))
      (fun h2 h =>
        bind_cases h fun r2 h3 h =>
        ifE_cases h
          (fun h4 h =>
            leaf h fun e => by subst e; exact fin_ret Go.Proofs.Tryz.func15 mix 1000 [.call [] (impl_partCode.calls h1), .br h2, .call [] (impl_triangular.calls h3), .br h4] (by kernel_rfl))
          (fun h4 h =>
            bind_cases h fun r3 h5 h =>
            bind_cases h fun r4 h6 h =>
            bind_cases h fun r5 h7 h =>
            leaf h fun e => by subst e; exact fin_ret Go.Proofs.Tryz.func15 mix 1000 [.call [] (impl_partCode.calls h1), .br h2, .call [] (impl_triangular.calls h3), .br h4, .call [] (impl_inverted.calls h5), .call [] (impl_product.calls h6), .call [] (impl_fittedMatrix.calls h7)] (by kernel_rfl)))

theorem spec_UnitPart.calls {a0 : Int} {a1 : Siiii} {r : (Siiii × Int)} (h : spec_UnitPart.f a0 a1 = some r) : Eng.Fn Go.Proofs.Tryz.prog 16 [I a0, .ag (Siiii.cells a1)] [] [] (.tu [.ag (Siiii.cells r.1), I r.2]) :=
  fn_fin Go.Proofs.Tryz.func16 (c := bodyOf Go.Proofs.Tryz.f16) (by kernel_rfl) (by kernel_rfl) <|
    bind_cases h fun r1 h1 h =>
    ifE_cases h
      (fun h2 h =>
        leaf h fun e => by subst e; exact fin_ret Go.Proofs.Tryz.func16 mix 1000 [.call [] (Eng.Fn.fits (.cons .refl (.cons .refl (.cons .nl .nil))) (spec_l04Code.calls h1)), .br h2] (by kernel_rfl))
      (fun h2 h =>
        bind_cases h fun r2 h3 h =>
        ifE_cases h
          (fun h4 h =>
            leaf h fun e => by subst e; exact fin_ret Go.Proofs.Tryz.func16 mix 1000 [.call [] (Eng.Fn.fits (.cons .refl (.cons .refl (.cons .nl .nil))) (spec_l04Code.calls h1)), .br h2, .call [] (spec_l10Triangular.calls h3), .br h4] (by kernel_rfl))
          (fun h4 h =>
            bind_cases h fun r3 h5 h =>
            bind_cases h fun r4 h6 h =>
            ifE_cases h
              (fun h7 h =>
                leaf h fun e => by subst e; exact fin_ret Go.Proofs.Tryz.func16 mix 1000 [.call [] (Eng.Fn.fits (.cons .refl (.cons .refl (.cons .nl .nil))) (spec_l04Code.calls h1)), .br h2, .call [] (spec_l10Triangular.calls h3), .br h4, .call [] (spec_l04Inverse.calls h5), .call [] (spec_l04Times.calls h6), .br h7] (by kernel_rfl))
              (fun h7 h =>
                leaf h fun e => by subst e; exact fin_ret Go.Proofs.Tryz.func16 mix 1000 [.call [] (Eng.Fn.fits (.cons .refl (.cons .refl (.cons .nl .nil))) (spec_l04Code.calls h1)), .br h2, .call [] (spec_l10Triangular.calls h3), .br h4, .call [] (spec_l04Inverse.calls h5), .call [] (spec_l04Times.calls h6), .br h7] (by kernel_rfl))))

theorem impl_IsUnitMatrix.calls {a0 : Int} {a1 : Siiii} {r : (Bool × Int)} (h : impl_IsUnitMatrix.f a0 a1 = some r) : Eng.Fn Go.Proofs.Tryz.prog 17 [I a0, .ag (Siiii.cells a1)] [] [] (.tu [B r.1, I r.2]) :=
  fn_fin Go.Proofs.Tryz.func17 (c := bodyOf Go.Proofs.Tryz.f17) (by kernel_rfl) (by kernel_rfl) <|
    bind_cases h fun r1 h1 h =>
    ifE_cases h
      (fun h2 h =>
        leaf h fun e => by subst e; exact fin_ret Go.Proofs.Tryz.func17 mix 1000 [.call [] (impl_partCode.calls h1), .br h2] (by kernel_rfl))
      (fun h2 h =>
        bind_cases h fun r2 h3 h =>
        bind_cases h fun r3 h4 h =>
        guardE_cases h fun h5 h =>
        leaf h fun e => by subst e; exact fin_ret Go.Proofs.Tryz.func17 mix 1000 [.call [] (impl_partCode.calls h1), .br h2, .call [] (impl_reduce.calls h3), .call [] (impl_determinant.calls h4), .nz h5] (by kernel_rfl))

theorem spec_l10Position.calls {a0 : Int} {a1 : Siiii} {r : Int} (h : spec_l10Position.f a0 a1 = some r) : Eng.Fn Go.Proofs.Tryz.prog 121 [I a0, .ag (Siiii.cells a1)] [] [] (I r) :=
  fn_fin Go.Proofs.Tryz.func121 (c := bodyOf Go.Proofs.Tryz.f121) (by kernel_rfl) (by kernel_rfl) <|
    bind_cases h fun r1 h1 h =>
    bind_cases h fun r2 h2 h =>
    bind_cases h fun r3 h3 h =>
    leaf h fun e => by subst e; exact fin_ret Go.Proofs.Tryz.func121 mix 1000 [.call [] (spec_l04Reduce.calls h1), .call [] (spec_l04Det.calls h2), .call [] (spec_l01Val.calls h3)] (by kernel_rfl)

theorem spec_IsUnitMatrix.calls {a0 : Int} {a1 : Siiii} {r : (Bool × Int)} (h : spec_IsUnitMatrix.f a0 a1 = some r) : Eng.Fn Go.Proofs.Tryz.prog 18 [I a0, .ag (Siiii.cells a1)] [] [] (.tu [B r.1, I r.2]) :=
  fn_fin Go.Proofs.Tryz.func18 (c := bodyOf Go.Proofs.Tryz.f18) (by kernel_rfl) (by kernel_rfl) <|
    bind_cases h fun r1 h1 h =>
    ifE_cases h
      (fun h2 h =>
        leaf h fun e => by subst e; exact fin_ret Go.Proofs.Tryz.func18 mix 1000 [.call [] (Eng.Fn.fits (.cons .refl (.cons .refl (.cons .nl .nil))) (spec_l04Code.calls h1)), .br h2] (by kernel_rfl))
      (fun h2 h =>
        bind_cases h fun r2 h3 h =>
        leaf h fun e => by subst e; exact fin_ret Go.Proofs.Tryz.func18 mix 1000 [.call [] (Eng.Fn.fits (.cons .refl (.cons .refl (.cons .nl .nil))) (spec_l04Code.calls h1)), .br h2, .call [] (spec_l10Position.calls h3)] (by kernel_rfl))

theorem impl_MatrixPosition.calls {a0 : Int} {a1 : Siiii} {r : (Int × Int)} (h : impl_MatrixPosition.f a0 a1 = some r) : Eng.Fn Go.Proofs.Tryz.prog 19 [I a0, .ag (Siiii.cells a1)] [] [] (.tu [I r.1, I r.2]) :=
  fn_fin Go.Proofs.Tryz.func19 (c := bodyOf Go.Proofs.Tryz.f19) (by kernel_rfl) (by kernel_rfl) <|
    bind_cases h fun r1 h1 h =>
    ifE_cases h
      (fun h2 h =>
        leaf h fun e => by subst e; exact fin_ret Go.Proofs.Tryz.func19 mix 1000 [.call [] (impl_partCode.calls h1), .br h2] (by kernel_rfl))
      (fun h2 h =>
        bind_cases h fun r2 h3 h =>
        bind_cases h fun r3 h4 h =>
        bind_cases h fun r4 h5 h =>
        leaf h fun e => by subst e; exact fin_ret Go.Proofs.Tryz.func19 mix 1000 [.call [] (impl_partCode.calls h1), .br h2, .call [] (impl_reduce.calls h3), .call [] (impl_determinant.calls h4), .call [] (impl_valuation.calls h5)] (by kernel_rfl))

theorem spec_MatrixPosition.calls {a0 : Int} {a1 : Siiii} {r : (Int × Int)} (h : spec_MatrixPosition.f a0 a1 = some r) : Eng.Fn Go.Proofs.Tryz.prog 20 [I a0, .ag (Siiii.cells a1)] [] [] (.tu [I r.1, I r.2]) :=
  fn_fin Go.Proofs.Tryz.func20 (c := bodyOf Go.Proofs.Tryz.f20) (by kernel_rfl) (by kernel_rfl) <|
    bind_cases h fun r1 h1 h =>
    ifE_cases h
      (fun h2 h =>
        leaf h fun e => by subst e; exact fin_ret Go.Proofs.Tryz.func20 mix 1000 [.call [] (Eng.Fn.fits (.cons .refl (.cons .refl (.cons .nl .nil))) (spec_l04Code.calls h1)), .br h2] (by kernel_rfl))
      (fun h2 h =>
        bind_cases h fun r2 h3 h =>
        leaf h fun e => by subst e; exact fin_ret Go.Proofs.Tryz.func20 mix 1000 [.call [] (Eng.Fn.fits (.cons .refl (.cons .refl (.cons .nl .nil))) (spec_l04Code.calls h1)), .br h2, .call [] (spec_l10Position.calls h3)] (by kernel_rfl))

theorem impl_above.calls {a0 : Int} {a1 : Siii} {a2 : Int} {r : Siii} (h : impl_above.f a0 a1 a2 = some r) : Eng.Fn Go.Proofs.Tryz.prog 272 [I a0, .ag (Siii.cells a1), I a2] [] [] (.ag (Siii.cells r)) :=
  fn_fin Go.Proofs.Tryz.func272 (c := bodyOf Go.Proofs.Tryz.f272) (by kernel_rfl) (by kernel_rfl) <|
    bind_cases h fun r1 h1 h =>
    bind_cases h fun r2 h2 h =>
    leaf h fun e => by subst e; exact fin_ret Go.Proofs.Tryz.func272 mix 1000 [.call [] (impl_mark.calls h1), .call [] (impl_ofMark.calls h2)] (by kernel_rfl)

theorem impl_geodesic.l7_ok (k : Nat) : ∀ (v0 : Int) (v10 : Int) (o5_0 : Int) (o5_1 : Int) (o5_2 : Int) (o1008 : (List Siii)) (r : (List Siii)), (impl_geodesic.l7 k) v0 v10 o5_0 o5_1 o5_2 o1008 = some r → Eng.Fin Go.Proofs.Tryz.prog 233 [] [] (R true 3 Siii.cells r) (itsL 7 (bodyOf Go.Proofs.Tryz.f233)) (mkS 46 [(0, I v0), (5, .bx 5 0), (8, .ow 1008), (10, I v10)] [(5, .box [I o5_0, I o5_1, I o5_2]), (1008, Row true 42 3 Siii.cells o1008)]) := by
  induction k with
  | zero => intro v0 v10 o5_0 o5_1 o5_2 o1008 r h; exact nomatch h
  | succ k ih =>
    exact fun v0 v10 o5_0 o5_1 o5_2 o1008 r h =>
      ifE_cases h
        (fun h1 h =>
          bind_cases h fun r3 h2 h =>
          guardE_cases h fun h3 h =>
          fin_fin Go.Proofs.Tryz.func233 mix 1000 [.unroll, .br h1, .call [] (impl_above.calls h2), .le h3, .cat (cat_of Siii.cells o1008 [r3]), .fin 100000 [0, 5, 8, 10] [(5, 5), (44, 1008)] (ih v0 (W (v10 + 1)) o5_0 o5_1 o5_2 (o1008 ++ [r3]) r h)] (by kernel_rfl))
        (fun h1 h =>
          leaf h fun e => by subst e; exact fin_ret Go.Proofs.Tryz.func233 mix 1000 [.unroll, .br h1, .adj 200000 (.frz (.sl 6))] (by kernel_rfl))

theorem impl_geodesic.l3_ok (k : Nat) : ∀ (v0 : Int) (v7 : Int) (v9 : Int) (o4_0 : Int) (o4_1 : Int) (o4_2 : Int) (o5_0 : Int) (o5_1 : Int) (o5_2 : Int) (o1008 : (List Siii)) (r : (List Siii)), (impl_geodesic.l3 k) v0 v7 v9 o4_0 o4_1 o4_2 o5_0 o5_1 o5_2 o1008 = some r → Eng.Fin Go.Proofs.Tryz.prog 233 [] [] (R true 3 Siii.cells r) (itsL 3 (bodyOf Go.Proofs.Tryz.f233)) (mkS 46 [(0, I v0), (4, .bx 4 0), (5, .bx 5 0), (7, I v7), (8, .ow 1008), (9, I v9)] [(4, .box [I o4_0, I o4_1, I o4_2]), (5, .box [I o5_0, I o5_1, I o5_2]), (1008, Row true 42 3 Siii.cells o1008)]) := by
  induction k with
  | zero => intro v0 v7 v9 o4_0 o4_1 o4_2 o5_0 o5_1 o5_2 o1008 r h; exact nomatch h
  | succ k ih =>
    exact fun v0 v7 v9 o4_0 o4_1 o4_2 o5_0 o5_1 o5_2 o1008 r h =>
      ifE_cases h
        (fun h1 h =>
          bind_cases h fun r2 h2 h =>
          guardE_cases h fun h3 h =>
          fin_fin Go.Proofs.Tryz.func233 mix 1000 [.unroll, .br h1, .call [] (impl_above.calls h2), .le h3, .cat (cat_of Siii.cells o1008 [r2]), .fin 100000 [0, 4, 5, 7, 8, 9] [(4, 4), (5, 5), (29, 1008)] (ih v0 v7 (W (v9 - 1)) o4_0 o4_1 o4_2 o5_0 o5_1 o5_2 (o1008 ++ [r2]) r h)] (by kernel_rfl))
        (fun h1 h =>
          fin_fin Go.Proofs.Tryz.func233 mix 1000 [.unroll, .br h1, .fin 100000 [0, 5, 8, 10] [(5, 5), (1008, 1008)] (impl_geodesic.l7_ok fuelN v0 (W (v7 + 1)) o5_0 o5_1 o5_2 o1008 r h)] (by kernel_rfl))

theorem impl_geodesic.calls {a0 : Int} {a1 : Siii} {a2 : Siii} {r : (List Siii)} (h : impl_geodesic.f a0 a1 a2 = some r) : Eng.Fn Go.Proofs.Tryz.prog 233 [I a0, .ag (Siii.cells a1), .ag (Siii.cells a2)] [] [] (R true 3 Siii.cells r) :=
  fn_fin Go.Proofs.Tryz.func233 (c := bodyOf Go.Proofs.Tryz.f233) (by kernel_rfl) (by kernel_rfl) <|
    bind_cases h fun r1 h1 h =>
    fin_fin Go.Proofs.Tryz.func233 mix 1000 [.call [] (impl_joinLevel.calls h1), .fin 100000 [0, 4, 5, 7, 8, 9] [(4, 4), (5, 5), (15, 1008)] (impl_geodesic.l3_ok fuelN a0 r1 a1.c0 a1.c0 a1.c1 a1.c2 a2.c0 a2.c1 a2.c2 [] r h)] (by kernel_rfl)

theorem impl_toward.l2_ok (k : Nat) : ∀ (v0 : Int) (v7 : Int) (o4_0 : Int) (o4_1 : Int) (o4_2 : Int) (o5_0 : Int) (o5_1 : Int) (o5_2 : Int) (r : Int), (impl_toward.l2 k) v0 v7 o4_0 o4_1 o4_2 o5_0 o5_1 o5_2 = some r → Eng.Fin Go.Proofs.Tryz.prog 281 [] [] (I r) (itsL 2 (bodyOf Go.Proofs.Tryz.f281)) (mkS 29 [(0, I v0), (4, .bx 4 0), (5, .bx 5 0), (7, I v7)] [(4, .box [I o4_0, I o4_1, I o4_2]), (5, .box [I o5_0, I o5_1, I o5_2])]) := by
  induction k with
  | zero => intro v0 v7 o4_0 o4_1 o4_2 o5_0 o5_1 o5_2 r h; exact nomatch h
  | succ k ih =>
    exact fun v0 v7 o4_0 o4_1 o4_2 o5_0 o5_1 o5_2 r h =>
      ifE_cases h
        (fun h1 h =>
          bind_cases h fun r1 h2 h =>
          ifE_cases h
            (fun h3 h =>
              ifE_cases h
                (fun h4 h =>
                  leaf h fun e => by subst e; exact fin_ret Go.Proofs.Tryz.func281 mix 1000 [.unroll, .br h1, .call [] (impl_neighbour.calls h2), .br h3, .br h4] (by kernel_rfl))
                (fun h4 h =>
                  fin_fin Go.Proofs.Tryz.func281 mix 1000 [.unroll, .br h1, .call [] (impl_neighbour.calls h2), .br h3, .br h4, .fin 100000 [0, 4, 5, 7] [(4, 4), (5, 5)] (ih v0 (W (v7 + 1)) o4_0 o4_1 o4_2 o5_0 o5_1 o5_2 r h)] (by kernel_rfl)))
            (fun h3 h =>
              fin_fin Go.Proofs.Tryz.func281 mix 1000 [.unroll, .br h1, .call [] (impl_neighbour.calls h2), .br h3, .fin 100000 [0, 4, 5, 7] [(4, 4), (5, 5)] (ih v0 (W (v7 + 1)) o4_0 o4_1 o4_2 o5_0 o5_1 o5_2 r h)] (by kernel_rfl)))
        (fun h1 h =>
          leaf h fun e => by subst e; exact fin_ret Go.Proofs.Tryz.func281 mix 1000 [.unroll, .br h1] (by kernel_rfl))

theorem impl_toward.calls {a0 : Int} {a1 : Siii} {a2 : Siii} {r : Int} (h : impl_toward.f a0 a1 a2 = some r) : Eng.Fn Go.Proofs.Tryz.prog 281 [I a0, .ag (Siii.cells a1), .ag (Siii.cells a2)] [] [] (I r) :=
  fn_fin Go.Proofs.Tryz.func281 (c := bodyOf Go.Proofs.Tryz.f281) (by kernel_rfl) (by kernel_rfl) <|
    fin_fin Go.Proofs.Tryz.func281 mix 1000 [.fin 100000 [0, 4, 5, 7] [(4, 4), (5, 5)] (impl_toward.l2_ok fuelN a0 1 a1.c0 a1.c1 a1.c2 a2.c0 a2.c1 a2.c2 r h)] (by kernel_rfl)

theorem impl_letterTo.calls {a0 : Int} {a1 : Siii} {a2 : Siii} {r : Int} (h : impl_letterTo.f a0 a1 a2 = some r) : Eng.Fn Go.Proofs.Tryz.prog 234 [I a0, .ag (Siii.cells a1), .ag (Siii.cells a2)] [] [] (K .u8 r) :=
  fn_fin Go.Proofs.Tryz.func234 (c := bodyOf Go.Proofs.Tryz.f234) (by kernel_rfl) (by kernel_rfl) <|
    ifE_cases h
      (fun h1 h =>
        leaf h fun e => by subst e; exact fin_ret Go.Proofs.Tryz.func234 mix 1000 [.br h1] (by kernel_rfl))
      (fun h1 h =>
        bind_cases h fun r1 h2 h =>
        leaf h fun e => by subst e; exact fin_ret Go.Proofs.Tryz.func234 mix 1000 [.br h1, .call [] (impl_toward.calls h2)] (by kernel_rfl))

theorem impl_wayWord.l3_ok (k : Nat) : ∀ (v0 : Int) (v8 : (List Siii)) (v9 : Int) (o1007 : (List Int)) (r : ByteArray), (impl_wayWord.l3 k) v0 v8 v9 o1007 = some r → Eng.Fin Go.Proofs.Tryz.prog 124 [] [] (Z r) (itsL 3 (bodyOf Go.Proofs.Tryz.f124)) (mkS 37 [(0, I v0), (7, .ow 1007), (8, R true 3 Siii.cells v8), (9, I v9)] [(1007, Row true 5 1 (cK .u8) o1007)]) := by
  induction k with
  | zero => intro v0 v8 v9 o1007 r h; exact nomatch h
  | succ k ih =>
    exact fun v0 v8 v9 o1007 r h =>
      ifE_cases h
        (fun h1 h =>
          bind_cases h fun e2 h2 h =>
          bind_cases h fun e3 h3 h =>
          bind_cases h fun r4 h4 h =>
          guardE_cases h fun h5 h =>
          fin_fin Go.Proofs.Tryz.func124 mix 1000 [.unroll, .br h1, .el (getE_el Siii.cells h2), .el (getE_el Siii.cells h3), .call [] (impl_letterTo.calls h4), .le h5, .cat (cat_of (cK .u8) o1007 [r4]), .fin 100000 [0, 7, 8, 9] [(34, 1007)] (ih v0 v8 (W (v9 + 1)) (o1007 ++ [r4]) r h)] (by kernel_rfl))
        (fun h1 h =>
          bind_cases h fun z5 h6 h =>
          leaf h fun e => by subst e; exact fin_ret Go.Proofs.Tryz.func124 mix 1000 [.unroll, .br h1, .str (toStr_of h6)] (by kernel_rfl))

theorem impl_wayWord.calls {a0 : Int} {a1 : Siii} {a2 : Siii} {r : ByteArray} (h : impl_wayWord.f a0 a1 a2 = some r) : Eng.Fn Go.Proofs.Tryz.prog 124 [I a0, .ag (Siii.cells a1), .ag (Siii.cells a2)] [] [] (Z r) :=
  fn_fin Go.Proofs.Tryz.func124 (c := bodyOf Go.Proofs.Tryz.f124) (by kernel_rfl) (by kernel_rfl) <|
    bind_cases h fun r1 h1 h =>
    fin_fin Go.Proofs.Tryz.func124 mix 1000 [.call [] (impl_geodesic.calls h1), .fin 100000 [0, 7, 8, 9] [(10, 1007)] (impl_wayWord.l3_ok fuelN a0 r1 1 [] r h)] (by kernel_rfl)

theorem impl_StepsOfMatrix.calls {a0 : Int} {a1 : Siiii} {r : (ByteArray × Int)} (h : impl_StepsOfMatrix.f a0 a1 = some r) : Eng.Fn Go.Proofs.Tryz.prog 21 [I a0, .ag (Siiii.cells a1)] [] [] (.tu [Z r.1, I r.2]) :=
  fn_fin Go.Proofs.Tryz.func21 (c := bodyOf Go.Proofs.Tryz.f21) (by kernel_rfl) (by kernel_rfl) <|
    bind_cases h fun r1 h1 h =>
    ifE_cases h
      (fun h2 h =>
        leaf h fun e => by subst e; exact fin_ret Go.Proofs.Tryz.func21 mix 1000 [.call [] (impl_partCode.calls h1), .br h2] (by kernel_rfl))
      (fun h2 h =>
        bind_cases h fun r2 h3 h =>
        ifE_cases h
          (fun h4 h =>
            leaf h fun e => by subst e; exact fin_ret Go.Proofs.Tryz.func21 mix 1000 [.call [] (impl_partCode.calls h1), .br h2, .call [] (impl_triangular.calls h3), .br h4] (by kernel_rfl))
          (fun h4 h =>
            bind_cases h fun r3 h5 h =>
            bind_cases h fun r4 h6 h =>
            leaf h fun e => by subst e; exact fin_ret Go.Proofs.Tryz.func21 mix 1000 [.call [] (impl_partCode.calls h1), .br h2, .call [] (impl_triangular.calls h3), .br h4, .call [] (impl_moveBall.calls h5), .call [] (impl_wayWord.calls h6)] (by kernel_rfl)))

theorem spec_l02Up.calls {a0 : Int} {a1 : Siii} {a2 : Int} {r : (Siii × Bool)} (h : spec_l02Up.f a0 a1 a2 = some r) : Eng.Fn Go.Proofs.Tryz.prog 237 [I a0, .ag (Siii.cells a1), I a2] [] [] (.tu [.ag (Siii.cells r.1), B r.2]) :=
  fn_fin Go.Proofs.Tryz.func237 (c := bodyOf Go.Proofs.Tryz.f237) (by kernel_rfl) (by kernel_rfl) <|
    bind_cases h fun r1 h1 h =>
    bind_cases h fun r2 h2 h =>
    leaf h fun e => by subst e; exact fin_ret Go.Proofs.Tryz.func237 mix 1000 [.call [] (spec_l01Power.calls h1), .call [] (spec_l01Of.calls h2)] (by kernel_rfl)

theorem spec_l10Digit.l3_ok (k : Nat) : ∀ (v0 : Int) (v7 : Int) (o3_0 : Int) (o3_1 : Int) (o3_2 : Int) (o5_0 : Int) (o5_1 : Int) (o5_2 : Int) (r : Int), (spec_l10Digit.l3 k) v0 v7 o3_0 o3_1 o3_2 o5_0 o5_1 o5_2 = some r → Eng.Fin Go.Proofs.Tryz.prog 238 [] [] (I r) (itsL 3 (bodyOf Go.Proofs.Tryz.f238)) (mkS 35 [(0, I v0), (3, .bx 3 0), (5, .bx 5 0), (7, I v7)] [(3, .box [I o3_0, I o3_1, I o3_2]), (5, .box [I o5_0, I o5_1, I o5_2])]) := by
  induction k with
  | zero => intro v0 v7 o3_0 o3_1 o3_2 o5_0 o5_1 o5_2 r h; exact nomatch h
  | succ k ih =>
    exact fun v0 v7 o3_0 o3_1 o3_2 o5_0 o5_1 o5_2 r h =>
      ifE_cases h
        (fun h1 h =>
          bind_cases h fun r2 h2 h =>
          ifE_cases h
            (fun h3 h =>
              ifE_cases h
                (fun h4 h =>
                  leaf h fun e => by subst e; exact fin_ret Go.Proofs.Tryz.func238 mix 1000 [.unroll, .br h1, .call [] (spec_l01Child.calls h2), .br h3, .br h4] (by kernel_rfl))
                (fun h4 h =>
                  fin_fin Go.Proofs.Tryz.func238 mix 1000 [.unroll, .br h1, .call [] (spec_l01Child.calls h2), .br h3, .br h4, .fin 100000 [0, 3, 5, 7] [(3, 3), (5, 5)] (ih v0 (W (v7 + 1)) o3_0 o3_1 o3_2 o5_0 o5_1 o5_2 r h)] (by kernel_rfl)))
            (fun h3 h =>
              fin_fin Go.Proofs.Tryz.func238 mix 1000 [.unroll, .br h1, .call [] (spec_l01Child.calls h2), .br h3, .fin 100000 [0, 3, 5, 7] [(3, 3), (5, 5)] (ih v0 (W (v7 + 1)) o3_0 o3_1 o3_2 o5_0 o5_1 o5_2 r h)] (by kernel_rfl)))
        (fun h1 h =>
          leaf h fun e => by subst e; exact fin_ret Go.Proofs.Tryz.func238 mix 1000 [.unroll, .br h1] (by kernel_rfl))

theorem spec_l10Digit.calls {a0 : Int} {a1 : Siii} {r : Int} (h : spec_l10Digit.f a0 a1 = some r) : Eng.Fn Go.Proofs.Tryz.prog 238 [I a0, .ag (Siii.cells a1)] [] [] (I r) :=
  fn_fin Go.Proofs.Tryz.func238 (c := bodyOf Go.Proofs.Tryz.f238) (by kernel_rfl) (by kernel_rfl) <|
    bind_cases h fun r1 h1 h =>
    fin_fin Go.Proofs.Tryz.func238 mix 1000 [.call [] (spec_l01Parent.calls h1), .fin 100000 [0, 3, 5, 7] [(3, 3), (5, 5)] (spec_l10Digit.l3_ok fuelN a0 0 a1.c0 a1.c1 a1.c2 r1.1.c0 r1.1.c1 r1.1.c2 r h)] (by kernel_rfl)

theorem spec_l10Way.l7_ok (k : Nat) : ∀ (v0 : Int) (v11 : Int) (o5_0 : Int) (o5_1 : Int) (o5_2 : Int) (o1009 : (List Int)) (r : (ByteArray × Bool)), (spec_l10Way.l7 k) v0 v11 o5_0 o5_1 o5_2 o1009 = some r → Eng.Fin Go.Proofs.Tryz.prog 126 [] [] (.tu [Z r.1, B r.2]) (itsL 7 (bodyOf Go.Proofs.Tryz.f126)) (mkS 56 [(0, I v0), (5, .bx 5 0), (9, .ow 1009), (11, I v11)] [(5, .box [I o5_0, I o5_1, I o5_2]), (1009, Row true 5 1 (cK .u8) o1009)]) := by
  induction k with
  | zero => intro v0 v11 o5_0 o5_1 o5_2 o1009 r h; exact nomatch h
  | succ k ih =>
    exact fun v0 v11 o5_0 o5_1 o5_2 o1009 r h =>
      ifE_cases h
        (fun h1 h =>
          bind_cases h fun r2 h2 h =>
          ifE_cases h
            (fun h3 h =>
              leaf h fun e => by subst e; exact fin_ret Go.Proofs.Tryz.func126 mix 1000 [.unroll, .br h1, .call [] (spec_l02Up.calls h2), .br h3] (by kernel_rfl))
            (fun h3 h =>
              bind_cases h fun r3 h4 h =>
              guardE_cases h fun h5 h =>
              fin_fin Go.Proofs.Tryz.func126 mix 1000 [.unroll, .br h1, .call [] (spec_l02Up.calls h2), .br h3, .call [] (spec_l10Digit.calls h4), .le h5, .cat (cat_of (cK .u8) o1009 [IntKind.wrap .u8 (W (48 + r3))]), .fin 100000 [0, 5, 9, 11] [(5, 5), (53, 1009)] (ih v0 (W (v11 + 1)) o5_0 o5_1 o5_2 (o1009 ++ [IntKind.wrap .u8 (W (48 + r3))]) r h)] (by kernel_rfl)))
        (fun h1 h =>
          bind_cases h fun z4 h6 h =>
          leaf h fun e => by subst e; exact fin_ret Go.Proofs.Tryz.func126 mix 1000 [.unroll, .br h1, .str (toStr_of h6)] (by kernel_rfl))

theorem spec_l10Way.l3_ok (k : Nat) : ∀ (v0 : Int) (v8 : Int) (v10 : Int) (o5_0 : Int) (o5_1 : Int) (o5_2 : Int) (o1009 : (List Int)) (r : (ByteArray × Bool)), (spec_l10Way.l3 k) v0 v8 v10 o5_0 o5_1 o5_2 o1009 = some r → Eng.Fin Go.Proofs.Tryz.prog 126 [] [] (.tu [Z r.1, B r.2]) (itsL 3 (bodyOf Go.Proofs.Tryz.f126)) (mkS 56 [(0, I v0), (5, .bx 5 0), (8, I v8), (9, .ow 1009), (10, I v10)] [(5, .box [I o5_0, I o5_1, I o5_2]), (1009, Row true 5 1 (cK .u8) o1009)]) := by
  induction k with
  | zero => intro v0 v8 v10 o5_0 o5_1 o5_2 o1009 r h; exact nomatch h
  | succ k ih =>
    exact fun v0 v8 v10 o5_0 o5_1 o5_2 o1009 r h =>
      ifE_cases h
        (fun h1 h =>
          guardE_cases h fun h2 h =>
          fin_fin Go.Proofs.Tryz.func126 mix 1000 [.unroll, .br h1, .le h2, .cat (cat_of (cK .u8) o1009 [117]), .fin 100000 [0, 5, 8, 9, 10] [(5, 5), (28, 1009)] (ih v0 v8 (W (v10 - 1)) o5_0 o5_1 o5_2 (o1009 ++ [117]) r h)] (by kernel_rfl))
        (fun h1 h =>
          fin_fin Go.Proofs.Tryz.func126 mix 1000 [.unroll, .br h1, .fin 100000 [0, 5, 9, 11] [(5, 5), (1009, 1009)] (spec_l10Way.l7_ok fuelN v0 (W (v8 + 1)) o5_0 o5_1 o5_2 o1009 r h)] (by kernel_rfl))

theorem spec_l10Way.calls {a0 : Int} {a1 : Siii} {a2 : Siii} {r : (ByteArray × Bool)} (h : spec_l10Way.f a0 a1 a2 = some r) : Eng.Fn Go.Proofs.Tryz.prog 126 [I a0, .ag (Siii.cells a1), .ag (Siii.cells a2)] [] [] (.tu [Z r.1, B r.2]) :=
  fn_fin Go.Proofs.Tryz.func126 (c := bodyOf Go.Proofs.Tryz.f126) (by kernel_rfl) (by kernel_rfl) <|
    bind_cases h fun r1 h1 h =>
    fin_fin Go.Proofs.Tryz.func126 mix 1000 [.call [] (spec_l02Join.calls h1), .fin 100000 [0, 5, 8, 9, 10] [(5, 5), (18, 1009)] (spec_l10Way.l3_ok fuelN a0 r1 a1.c0 a2.c0 a2.c1 a2.c2 [] r h)] (by kernel_rfl)

theorem spec_StepsOfMatrix.calls {a0 : Int} {a1 : Siiii} {r : (ByteArray × Int)} (h : spec_StepsOfMatrix.f a0 a1 = some r) : Eng.Fn Go.Proofs.Tryz.prog 22 [I a0, .ag (Siiii.cells a1)] [] [] (.tu [Z r.1, I r.2]) :=
  fn_fin Go.Proofs.Tryz.func22 (c := bodyOf Go.Proofs.Tryz.f22) (by kernel_rfl) (by kernel_rfl) <|
    bind_cases h fun r1 h1 h =>
    ifE_cases h
      (fun h2 h =>
        leaf h fun e => by subst e; exact fin_ret Go.Proofs.Tryz.func22 mix 1000 [.call [] (Eng.Fn.fits (.cons .refl (.cons .refl (.cons .nl .nil))) (spec_l04Code.calls h1)), .br h2] (by kernel_rfl))
      (fun h2 h =>
        bind_cases h fun r2 h3 h =>
        bind_cases h fun r3 h4 h =>
        ifE_cases h
          (fun h5 h =>
            leaf h fun e => by subst e; exact fin_ret Go.Proofs.Tryz.func22 mix 1000 [.call [] (Eng.Fn.fits (.cons .refl (.cons .refl (.cons .nl .nil))) (spec_l04Code.calls h1)), .br h2, .call [] (spec_l04Move.calls h3), .call [] (spec_l10Triangular.calls h4), .br h5] (by kernel_rfl))
          (fun h5 h =>
            ifE_cases h
              (fun h6 h =>
                leaf h fun e => by subst e; exact fin_ret Go.Proofs.Tryz.func22 mix 1000 [.call [] (Eng.Fn.fits (.cons .refl (.cons .refl (.cons .nl .nil))) (spec_l04Code.calls h1)), .br h2, .call [] (spec_l04Move.calls h3), .call [] (spec_l10Triangular.calls h4), .br h5, .br h6] (by kernel_rfl))
              (fun h6 h =>
                bind_cases h fun r4 h7 h =>
                ifE_cases h
                  (fun h8 h =>
                    leaf h fun e => by subst e; exact fin_ret Go.Proofs.Tryz.func22 mix 1000 [.call [] (Eng.Fn.fits (.cons .refl (.cons .refl (.cons .nl .nil))) (spec_l04Code.calls h1)), .br h2, .call [] (spec_l04Move.calls h3), .call [] (spec_l10Triangular.calls h4), .br h5, .br h6, .call [] (spec_l10Way.calls h7), .br h8] (by kernel_rfl))
                  (fun h8 h =>
                    leaf h fun e => by subst e; exact fin_ret Go.Proofs.Tryz.func22 mix 1000 [.call [] (Eng.Fn.fits (.cons .refl (.cons .refl (.cons .nl .nil))) (spec_l04Code.calls h1)), .br h2, .call [] (spec_l04Move.calls h3), .call [] (spec_l10Triangular.calls h4), .br h5, .br h6, .call [] (spec_l10Way.calls h7), .br h8] (by kernel_rfl)))))

theorem spec_NormalSteps.l6_ok (k : Nat) : ∀ (v1 : ByteArray) (v8 : Int) (o1007 : (List Int)) (r : (ByteArray × Int)), (spec_NormalSteps.l6 k) v1 v8 o1007 = some r → Eng.Fin Go.Proofs.Tryz.prog 23 [] [] (.tu [Z r.1, I r.2]) (itsL 6 (bodyOf Go.Proofs.Tryz.f23)) (mkS 53 [(1, Z v1), (7, .ow 1007), (8, I v8)] [(1007, Row true 5 1 (cK .u8) o1007)]) := by
  induction k with
  | zero => intro v1 v8 o1007 r h; exact nomatch h
  | succ k ih =>
    exact fun v1 v8 o1007 r h =>
      ifE_cases h
        (fun h1 h =>
          bind_cases h fun b2 h2 h =>
          ifE_cases h
            (fun h3 h =>
              ifE_cases h
                (fun h4 h =>
                  bind_cases h fun e3 h5 h =>
                  ifE_cases h
                    (fun h6 h =>
                      bind_cases h fun l4 h7 h =>
                      fin_fin Go.Proofs.Tryz.func23 mix 1000 [.unroll, .br h1, .sx (getB_sx h2), .br h3, .br h4, .ib (getE_ib h5), .el (getE_pw (cK .u8) h5), .br h6, .seg (getS_seg (cK .u8) h7), .fin 100000 [1, 7, 8] [(44, 1007)] (ih v1 (W (v8 + 1)) l4 r h)] (by kernel_rfl))
                    (fun h6 h =>
                      bind_cases h fun b5 h8 h =>
                      guardE_cases h fun h9 h =>
                      fin_fin Go.Proofs.Tryz.func23 mix 1000 [.unroll, .br h1, .sx (getB_sx h2), .br h3, .br h4, .ib (getE_ib h5), .el (getE_pw (cK .u8) h5), .br h6, .sx (getB_sx h8), .le h9, .cat (cat_of (cK .u8) o1007 [(b5.toNat : Int)]), .fin 100000 [1, 7, 8] [(50, 1007)] (ih v1 (W (v8 + 1)) (o1007 ++ [(b5.toNat : Int)]) r h)] (by kernel_rfl)))
                (fun h4 h =>
                  bind_cases h fun b6 h10 h =>
                  guardE_cases h fun h11 h =>
                  fin_fin Go.Proofs.Tryz.func23 mix 1000 [.unroll, .br h1, .sx (getB_sx h2), .br h3, .br h4, .sx (getB_sx h10), .le h11, .cat (cat_of (cK .u8) o1007 [(b6.toNat : Int)]), .fin 100000 [1, 7, 8] [(50, 1007)] (ih v1 (W (v8 + 1)) (o1007 ++ [(b6.toNat : Int)]) r h)] (by kernel_rfl)))
            (fun h3 h =>
              bind_cases h fun b7 h12 h =>
              guardE_cases h fun h13 h =>
              fin_fin Go.Proofs.Tryz.func23 mix 1000 [.unroll, .br h1, .sx (getB_sx h2), .br h3, .sx (getB_sx h12), .le h13, .cat (cat_of (cK .u8) o1007 [(b7.toNat : Int)]), .fin 100000 [1, 7, 8] [(50, 1007)] (ih v1 (W (v8 + 1)) (o1007 ++ [(b7.toNat : Int)]) r h)] (by kernel_rfl)))
        (fun h1 h =>
          bind_cases h fun z8 h14 h =>
          leaf h fun e => by subst e; exact fin_ret Go.Proofs.Tryz.func23 mix 1000 [.unroll, .br h1, .str (toStr_of h14)] (by kernel_rfl))

theorem spec_NormalSteps.calls {a0 : Int} {a1 : ByteArray} {r : (ByteArray × Int)} (h : spec_NormalSteps.f a0 a1 = some r) : Eng.Fn Go.Proofs.Tryz.prog 23 [I a0, Z a1] [] [] (.tu [Z r.1, I r.2]) :=
  fn_fin Go.Proofs.Tryz.func23 (c := bodyOf Go.Proofs.Tryz.f23) (by kernel_rfl) (by kernel_rfl) <|
    bind_cases h fun r1 h1 h =>
    ifE_cases h
      (fun h2 h =>
        leaf h fun e => by subst e; exact fin_ret Go.Proofs.Tryz.func23 mix 1000 [.call [] (Eng.Fn.fits (.cons .refl (.cons .refl (.cons .nl .nil))) (spec_l10Code.calls h1)), .br h2] (by kernel_rfl))
      (fun h2 h =>
        fin_fin Go.Proofs.Tryz.func23 mix 1000 [.call [] (Eng.Fn.fits (.cons .refl (.cons .refl (.cons .nl .nil))) (spec_l10Code.calls h1)), .br h2, .fin 100000 [1, 7, 8] [(16, 1007)] (spec_NormalSteps.l6_ok fuelN a1 0 [] r h)] (by kernel_rfl))

theorem impl_follow.j8_ok (rec3 : Int → ByteArray → Int → Int → Int → Int → Int → (List Siii) → Option ((List Siii) × Bool)) (rec3H : ∀ (v0 : Int) (v2 : ByteArray) (v16 : Int) (v17 : Int) (o4_0 : Int) (o4_1 : Int) (o4_2 : Int) (o1008 : (List Siii)) (r : ((List Siii) × Bool)), rec3 v0 v2 v16 v17 o4_0 o4_1 o4_2 o1008 = some r → Eng.Fin Go.Proofs.Tryz.prog 130 [] [] (.tu [R true 3 Siii.cells r.1, B r.2]) (itsL 3 (bodyOf Go.Proofs.Tryz.f130)) (mkS 46 [(0, I v0), (2, Z v2), (4, .bx 4 0), (8, .ow 1008), (16, I v16), (17, I v17)] [(4, .box [I o4_0, I o4_1, I o4_2]), (1008, Row true 42 3 Siii.cells o1008)])) : ∀ (v0 : Int) (v2 : ByteArray) (v10 : Int) (v16 : Int) (v17 : Int) (o4_0 : Int) (o4_1 : Int) (o4_2 : Int) (o1008 : (List Siii)) (r : ((List Siii) × Bool)), (impl_follow.j8 rec3) v0 v2 v10 v16 v17 o4_0 o4_1 o4_2 o1008 = some r → Eng.Fin Go.Proofs.Tryz.prog 130 [] [] (.tu [R true 3 Siii.cells r.1, B r.2]) (itsR 8 (bodyOf Go.Proofs.Tryz.f130)) (mkS 46 [(0, I v0), (2, Z v2), (4, .bx 4 0), (8, .ow 1008), (10, I v10), (16, I v16), (17, I v17)] [(4, .box [I o4_0, I o4_1, I o4_2]), (1008, Row true 42 3 Siii.cells o1008)]) :=
  fun v0 v2 v10 v16 v17 o4_0 o4_1 o4_2 o1008 r h =>
    bind_cases h fun r3 h1 h =>
    ifE_cases h
      (fun h2 h =>
        leaf h fun e => by subst e; exact fin_ret Go.Proofs.Tryz.func130 mix 1000 [.call [] (impl_neighbour.calls h1), .br h2, .adj 200000 (.nro (.sl 6) 3 true)] (by kernel_rfl))
      (fun h2 h =>
        guardE_cases h fun h3 h =>
        fin_fin Go.Proofs.Tryz.func130 mix 1000 [.call [] (impl_neighbour.calls h1), .br h2, .le h3, .cat (cat_of Siii.cells o1008 [r3.1]), .fin 100000 [0, 2, 4, 8, 16, 17] [(4, 4), (43, 1008)] (rec3H v0 v2 v16 (W (v17 + 1)) r3.1.c0 r3.1.c1 r3.1.c2 (o1008 ++ [r3.1]) r h)] (by kernel_rfl))

theorem impl_follow.l3_ok (k : Nat) : ∀ (v0 : Int) (v2 : ByteArray) (v16 : Int) (v17 : Int) (o4_0 : Int) (o4_1 : Int) (o4_2 : Int) (o1008 : (List Siii)) (r : ((List Siii) × Bool)), (impl_follow.l3 k) v0 v2 v16 v17 o4_0 o4_1 o4_2 o1008 = some r → Eng.Fin Go.Proofs.Tryz.prog 130 [] [] (.tu [R true 3 Siii.cells r.1, B r.2]) (itsL 3 (bodyOf Go.Proofs.Tryz.f130)) (mkS 46 [(0, I v0), (2, Z v2), (4, .bx 4 0), (8, .ow 1008), (16, I v16), (17, I v17)] [(4, .box [I o4_0, I o4_1, I o4_2]), (1008, Row true 42 3 Siii.cells o1008)]) := by
  induction k with
  | zero => intro v0 v2 v16 v17 o4_0 o4_1 o4_2 o1008 r h; exact nomatch h
  | succ k ih =>
    exact fun v0 v2 v16 v17 o4_0 o4_1 o4_2 o1008 r h =>
      ifE_cases h
        (fun h1 h =>
          bind_cases h fun b1 h2 h =>
          ifE_cases h
            (fun h3 h =>
              bind_cases h fun b2 h4 h =>
              fin_fin Go.Proofs.Tryz.func130 mix 1000 [.unroll, .br h1, .sx (getB_sx h2), .br h3, .sx (getB_sx h4), .fin 8 [0, 2, 4, 8, 10, 16, 17] [(4, 4), (1008, 1008)] (impl_follow.j8_ok (impl_follow.l3 k) ih v0 v2 (W ((W (IntKind.wrap .u8 ((b2.toNat : Int) - 48))) + 1)) v16 v17 o4_0 o4_1 o4_2 o1008 r h)] (by kernel_rfl))
            (fun h3 h =>
              fin_fin Go.Proofs.Tryz.func130 mix 1000 [.unroll, .br h1, .sx (getB_sx h2), .br h3, .fin 8 [0, 2, 4, 8, 10, 16, 17] [(4, 4), (1008, 1008)] (impl_follow.j8_ok (impl_follow.l3 k) ih v0 v2 0 v16 v17 o4_0 o4_1 o4_2 o1008 r h)] (by kernel_rfl)))
        (fun h1 h =>
          leaf h fun e => by subst e; exact fin_ret Go.Proofs.Tryz.func130 mix 1000 [.unroll, .br h1, .adj 200000 (.frz (.sl 6))] (by kernel_rfl))

theorem impl_follow.calls {a0 : Int} {a1 : Siii} {a2 : ByteArray} {r : ((List Siii) × Bool)} (h : impl_follow.f a0 a1 a2 = some r) : Eng.Fn Go.Proofs.Tryz.prog 130 [I a0, .ag (Siii.cells a1), Z a2] [] [] (.tu [R true 3 Siii.cells r.1, B r.2]) :=
  fn_fin Go.Proofs.Tryz.func130 (c := bodyOf Go.Proofs.Tryz.f130) (by kernel_rfl) (by kernel_rfl) <|
    fin_fin Go.Proofs.Tryz.func130 mix 1000 [.fin 100000 [0, 2, 4, 8, 16, 17] [(4, 4), (14, 1008)] (impl_follow.l3_ok fuelN a0 a2 (a2.size : Int) 0 a1.c0 a1.c1 a1.c2 [a1] r h)] (by kernel_rfl)

theorem impl_FollowSteps.calls {a0 : Int} {a1 : Siii} {a2 : ByteArray} {r : (Siii × Int)} (h : impl_FollowSteps.f a0 a1 a2 = some r) : Eng.Fn Go.Proofs.Tryz.prog 25 [I a0, .ag (Siii.cells a1), Z a2] [] [] (.tu [.ag (Siii.cells r.1), I r.2]) :=
  fn_fin Go.Proofs.Tryz.func25 (c := bodyOf Go.Proofs.Tryz.f25) (by kernel_rfl) (by kernel_rfl) <|
    bind_cases h fun r1 h1 h =>
    ifE_cases h
      (fun h2 h =>
        leaf h fun e => by subst e; exact fin_ret Go.Proofs.Tryz.func25 mix 1000 [.call [] (impl_stepsCode.calls h1), .br h2] (by kernel_rfl))
      (fun h2 h =>
        bind_cases h fun r2 h3 h =>
        ifE_cases h
          (fun h4 h =>
            leaf h fun e => by subst e; exact fin_ret Go.Proofs.Tryz.func25 mix 1000 [.call [] (impl_stepsCode.calls h1), .br h2, .call [] (impl_follow.calls h3), .br h4] (by kernel_rfl))
          (fun h4 h =>
            bind_cases h fun e3 h5 h =>
            leaf h fun e => by subst e; exact fin_ret Go.Proofs.Tryz.func25 mix 1000 [.call [] (impl_stepsCode.calls h1), .br h2, .call [] (impl_follow.calls h3), .br h4, .el (getE_el Siii.cells h5)] (by kernel_rfl)))

theorem impl_DisplacementOf.calls {a0 : Int} {a1 : Siiii} {a2 : Siii} {r : (Int × Int)} (h : impl_DisplacementOf.f a0 a1 a2 = some r) : Eng.Fn Go.Proofs.Tryz.prog 26 [I a0, .ag (Siiii.cells a1), .ag (Siii.cells a2)] [] [] (.tu [I r.1, I r.2]) :=
  fn_fin Go.Proofs.Tryz.func26 (c := bodyOf Go.Proofs.Tryz.f26) (by kernel_rfl) (by kernel_rfl) <|
    bind_cases h fun r1 h1 h =>
    ifE_cases h
      (fun h2 h =>
        leaf h fun e => by subst e; exact fin_ret Go.Proofs.Tryz.func26 mix 1000 [.call [] (impl_MoveBall.calls h1), .br h2] (by kernel_rfl))
      (fun h2 h =>
        bind_cases h fun r2 h3 h =>
        leaf h fun e => by subst e; exact fin_ret Go.Proofs.Tryz.func26 mix 1000 [.call [] (impl_MoveBall.calls h1), .br h2, .call [] (impl_distance.calls h3)] (by kernel_rfl))

theorem laws_FnParts.j41_ok : ∀ (v9 : Int) (v12 : Int) (v16 : Int) (o10_0 : Int) (o10_1 : Int) (o10_2 : Int) (o10_3 : Int) (o11_0 : Int) (o11_1 : Int) (o11_2 : Int) (o11_3 : Int) (o15_0 : Int) (o15_1 : Int) (o15_2 : Int) (o15_3 : Int) (r : Bool), (laws_FnParts.j41) v9 v12 v16 o10_0 o10_1 o10_2 o10_3 o11_0 o11_1 o11_2 o11_3 o15_0 o15_1 o15_2 o15_3 = some r → Eng.Fin Go.Proofs.Tryz.prog 3 [] [] (B r) (itsR 41 (bodyOf Go.Proofs.Tryz.f3)) (mkS 289 [(9, I v9), (10, .bx 10 0), (11, .bx 11 0), (12, I v12), (15, .bx 15 0), (16, I v16)] [(10, .box [I o10_0, I o10_1, I o10_2, I o10_3]), (11, .box [I o11_0, I o11_1, I o11_2, I o11_3]), (15, .box [I o15_0, I o15_1, I o15_2, I o15_3])]) :=
  fun v9 v12 v16 o10_0 o10_1 o10_2 o10_3 o11_0 o11_1 o11_2 o11_3 o15_0 o15_1 o15_2 o15_3 r h =>
    ifE_cases h
      (fun h1 h =>
        leaf h fun e => by subst e; exact fin_ret Go.Proofs.Tryz.func3 mix 1000 [.br h1] (by kernel_rfl))
      (fun h1 h =>
        bind_cases h fun r20 h2 h =>
        bind_cases h fun r21 h3 h =>
        bind_cases h fun r22 h4 h =>
        ifE_cases h
          (fun h5 h =>
            ifE_cases h
              (fun h6 h =>
                ifE_cases h
                  (fun h7 h =>
                    ifE_cases h
                      (fun h8 h =>
                        ifE_cases h
                          (fun h9 h =>
                            leaf h fun e => by subst e; exact fin_ret Go.Proofs.Tryz.func3 mix 1000 [.br h1, .call [] (impl_IsUnitMatrix.calls h2), .call [] (impl_MultiplyMatrices.calls h3), .call [] (impl_ReduceMatrix.calls h4), .br h5, .br h6, .br h7, .br h8, .br h9] (by kernel_rfl))
                          (fun h9 h =>
                            leaf h fun e => by subst e; exact fin_ret Go.Proofs.Tryz.func3 mix 1000 [.br h1, .call [] (impl_IsUnitMatrix.calls h2), .call [] (impl_MultiplyMatrices.calls h3), .call [] (impl_ReduceMatrix.calls h4), .br h5, .br h6, .br h7, .br h8, .br h9] (by kernel_rfl)))
                      (fun h8 h =>
                        leaf h fun e => by subst e; exact fin_ret Go.Proofs.Tryz.func3 mix 1000 [.br h1, .call [] (impl_IsUnitMatrix.calls h2), .call [] (impl_MultiplyMatrices.calls h3), .call [] (impl_ReduceMatrix.calls h4), .br h5, .br h6, .br h7, .br h8] (by kernel_rfl)))
                  (fun h7 h =>
                    leaf h fun e => by subst e; exact fin_ret Go.Proofs.Tryz.func3 mix 1000 [.br h1, .call [] (impl_IsUnitMatrix.calls h2), .call [] (impl_MultiplyMatrices.calls h3), .call [] (impl_ReduceMatrix.calls h4), .br h5, .br h6, .br h7] (by kernel_rfl)))
              (fun h6 h =>
                leaf h fun e => by subst e; exact fin_ret Go.Proofs.Tryz.func3 mix 1000 [.br h1, .call [] (impl_IsUnitMatrix.calls h2), .call [] (impl_MultiplyMatrices.calls h3), .call [] (impl_ReduceMatrix.calls h4), .br h5, .br h6] (by kernel_rfl)))
          (fun h5 h =>
            leaf h fun e => by subst e; exact fin_ret Go.Proofs.Tryz.func3 mix 1000 [.br h1, .call [] (impl_IsUnitMatrix.calls h2), .call [] (impl_MultiplyMatrices.calls h3), .call [] (impl_ReduceMatrix.calls h4), .br h5] (by kernel_rfl)))

theorem laws_FnParts.j39_ok : ∀ (v9 : Int) (v12 : Int) (v16 : Int) (v23 : Int) (v27 : ByteArray) (v28 : Int) (o10_0 : Int) (o10_1 : Int) (o10_2 : Int) (o10_3 : Int) (o11_0 : Int) (o11_1 : Int) (o11_2 : Int) (o11_3 : Int) (o15_0 : Int) (o15_1 : Int) (o15_2 : Int) (o15_3 : Int) (r : Bool), (laws_FnParts.j39) v9 v12 v16 v23 v27 v28 o10_0 o10_1 o10_2 o10_3 o11_0 o11_1 o11_2 o11_3 o15_0 o15_1 o15_2 o15_3 = some r → Eng.Fin Go.Proofs.Tryz.prog 3 [] [] (B r) (itsR 39 (bodyOf Go.Proofs.Tryz.f3)) (mkS 289 [(9, I v9), (10, .bx 10 0), (11, .bx 11 0), (12, I v12), (15, .bx 15 0), (16, I v16), (23, I v23), (27, Z v27), (28, I v28)] [(10, .box [I o10_0, I o10_1, I o10_2, I o10_3]), (11, .box [I o11_0, I o11_1, I o11_2, I o11_3]), (15, .box [I o15_0, I o15_1, I o15_2, I o15_3])]) :=
  fun v9 v12 v16 v23 v27 v28 o10_0 o10_1 o10_2 o10_3 o11_0 o11_1 o11_2 o11_3 o15_0 o15_1 o15_2 o15_3 r h =>
    ifE_cases h
      (fun h1 h =>
        ifE_cases h
          (fun h2 h =>
            leaf h fun e => by subst e; exact fin_ret Go.Proofs.Tryz.func3 mix 1000 [.br h1, .br h2] (by kernel_rfl))
          (fun h2 h =>
            fin_fin Go.Proofs.Tryz.func3 mix 1000 [.br h1, .br h2, .fin 41 [9, 10, 11, 12, 15, 16] [(10, 10), (11, 11), (15, 15)] (laws_FnParts.j41_ok v9 v12 v16 o10_0 o10_1 o10_2 o10_3 o11_0 o11_1 o11_2 o11_3 o15_0 o15_1 o15_2 o15_3 r h)] (by kernel_rfl)))
      (fun h1 h =>
        fin_fin Go.Proofs.Tryz.func3 mix 1000 [.br h1, .fin 41 [9, 10, 11, 12, 15, 16] [(10, 10), (11, 11), (15, 15)] (laws_FnParts.j41_ok v9 v12 v16 o10_0 o10_1 o10_2 o10_3 o11_0 o11_1 o11_2 o11_3 o15_0 o15_1 o15_2 o15_3 r h)] (by kernel_rfl))

theorem laws_FnParts.j35_ok : ∀ (v9 : Int) (v12 : Int) (v16 : Int) (v19 : Bool) (v23 : Int) (v24 : Int) (v27 : ByteArray) (v28 : Int) (o10_0 : Int) (o10_1 : Int) (o10_2 : Int) (o10_3 : Int) (o11_0 : Int) (o11_1 : Int) (o11_2 : Int) (o11_3 : Int) (o15_0 : Int) (o15_1 : Int) (o15_2 : Int) (o15_3 : Int) (r : Bool), (laws_FnParts.j35) v9 v12 v16 v19 v23 v24 v27 v28 o10_0 o10_1 o10_2 o10_3 o11_0 o11_1 o11_2 o11_3 o15_0 o15_1 o15_2 o15_3 = some r → Eng.Fin Go.Proofs.Tryz.prog 3 [] [] (B r) (itsR 35 (bodyOf Go.Proofs.Tryz.f3)) (mkS 289 [(9, I v9), (10, .bx 10 0), (11, .bx 11 0), (12, I v12), (15, .bx 15 0), (16, I v16), (19, B v19), (23, I v23), (24, I v24), (27, Z v27), (28, I v28)] [(10, .box [I o10_0, I o10_1, I o10_2, I o10_3]), (11, .box [I o11_0, I o11_1, I o11_2, I o11_3]), (15, .box [I o15_0, I o15_1, I o15_2, I o15_3])]) :=
  fun v9 v12 v16 v19 v23 v24 v27 v28 o10_0 o10_1 o10_2 o10_3 o11_0 o11_1 o11_2 o11_3 o15_0 o15_1 o15_2 o15_3 r h =>
    ifE_cases h
      (fun h1 h =>
        bind_cases h fun r19 h2 h =>
        ifE_cases h
          (fun h3 h =>
            ifE_cases h
              (fun h4 h =>
                leaf h fun e => by subst e; exact fin_ret Go.Proofs.Tryz.func3 mix 1000 [.br h1, .call [] (impl_DisplacementOf.calls h2), .br h3, .br h4] (by kernel_rfl))
              (fun h4 h =>
                ifE_cases h
                  (fun h5 h =>
                    leaf h fun e => by subst e; exact fin_ret Go.Proofs.Tryz.func3 mix 1000 [.br h1, .call [] (impl_DisplacementOf.calls h2), .br h3, .br h4, .br h5] (by kernel_rfl))
                  (fun h5 h =>
                    fin_fin Go.Proofs.Tryz.func3 mix 1000 [.br h1, .call [] (impl_DisplacementOf.calls h2), .br h3, .br h4, .br h5, .fin 39 [9, 10, 11, 12, 15, 16, 23, 27, 28] [(10, 10), (11, 11), (15, 15)] (laws_FnParts.j39_ok v9 v12 v16 v23 v27 v28 o10_0 o10_1 o10_2 o10_3 o11_0 o11_1 o11_2 o11_3 o15_0 o15_1 o15_2 o15_3 r h)] (by kernel_rfl))))
          (fun h3 h =>
            ifE_cases h
              (fun h6 h =>
                leaf h fun e => by subst e; exact fin_ret Go.Proofs.Tryz.func3 mix 1000 [.br h1, .call [] (impl_DisplacementOf.calls h2), .br h3, .br h6] (by kernel_rfl))
              (fun h6 h =>
                fin_fin Go.Proofs.Tryz.func3 mix 1000 [.br h1, .call [] (impl_DisplacementOf.calls h2), .br h3, .br h6, .fin 39 [9, 10, 11, 12, 15, 16, 23, 27, 28] [(10, 10), (11, 11), (15, 15)] (laws_FnParts.j39_ok v9 v12 v16 v23 v27 v28 o10_0 o10_1 o10_2 o10_3 o11_0 o11_1 o11_2 o11_3 o15_0 o15_1 o15_2 o15_3 r h)] (by kernel_rfl))))
      (fun h1 h =>
        fin_fin Go.Proofs.Tryz.func3 mix 1000 [.br h1, .fin 39 [9, 10, 11, 12, 15, 16, 23, 27, 28] [(10, 10), (11, 11), (15, 15)] (laws_FnParts.j39_ok v9 v12 v16 v23 v27 v28 o10_0 o10_1 o10_2 o10_3 o11_0 o11_1 o11_2 o11_3 o15_0 o15_1 o15_2 o15_3 r h)] (by kernel_rfl))

theorem laws_FnParts.calls {a0 : (List Int)} {r : Bool} (h : laws_FnParts.f a0 = some r) : Eng.Fn Go.Proofs.Tryz.prog 3 [R true 1 (cK .u8) a0] [] [] (B r) :=
  fn_fin Go.Proofs.Tryz.func3 (c := bodyOf Go.Proofs.Tryz.f3) (by kernel_rfl) (by kernel_rfl) <|
    bind_cases h fun r1 h1 h =>
    ifE_cases h
      (fun h2 h =>
        leaf h fun e => by subst e; exact fin_ret Go.Proofs.Tryz.func3 mix 1000 [.call [] (laws_big.calls h1), .br h2] (by kernel_rfl))
      (fun h2 h =>
        bind_cases h fun r2 h3 h =>
        bind_cases h fun r3 h4 h =>
        bind_cases h fun r4 h5 h =>
        ifE_cases h
          (fun h6 h =>
            leaf h fun e => by subst e; exact fin_ret Go.Proofs.Tryz.func3 mix 1000 [.call [] (laws_big.calls h1), .br h2, .call [] (spec_DrawMatrixOfSteps.calls h3), .call [] (impl_MatrixOfSteps.calls h4), .call [] (spec_MatrixOfSteps.calls h5), .br h6] (by kernel_rfl))
          (fun h6 h =>
            ifE_cases h
              (fun h7 h =>
                leaf h fun e => by subst e; exact fin_ret Go.Proofs.Tryz.func3 mix 1000 [.call [] (laws_big.calls h1), .br h2, .call [] (spec_DrawMatrixOfSteps.calls h3), .call [] (impl_MatrixOfSteps.calls h4), .call [] (spec_MatrixOfSteps.calls h5), .br h6, .br h7] (by kernel_rfl))
              (fun h7 h =>
                bind_cases h fun r5 h8 h =>
                bind_cases h fun r6 h9 h =>
                bind_cases h fun r7 h10 h =>
                ifE_cases h
                  (fun h11 h =>
                    leaf h fun e => by subst e; exact fin_ret Go.Proofs.Tryz.func3 mix 1000 [.call [] (laws_big.calls h1), .br h2, .call [] (spec_DrawMatrixOfSteps.calls h3), .call [] (impl_MatrixOfSteps.calls h4), .call [] (spec_MatrixOfSteps.calls h5), .br h6, .br h7, .call [] (spec_DrawTriangularPart.calls h8), .call [] (impl_TriangularPart.calls h9), .call [] (spec_TriangularPart.calls h10), .br h11] (by kernel_rfl))
                  (fun h11 h =>
                    ifE_cases h
                      (fun h12 h =>
                        leaf h fun e => by subst e; exact fin_ret Go.Proofs.Tryz.func3 mix 1000 [.call [] (laws_big.calls h1), .br h2, .call [] (spec_DrawMatrixOfSteps.calls h3), .call [] (impl_MatrixOfSteps.calls h4), .call [] (spec_MatrixOfSteps.calls h5), .br h6, .br h7, .call [] (spec_DrawTriangularPart.calls h8), .call [] (impl_TriangularPart.calls h9), .call [] (spec_TriangularPart.calls h10), .br h11, .br h12] (by kernel_rfl))
                      (fun h12 h =>
                        bind_cases h fun r8 h13 h =>
                        bind_cases h fun r9 h14 h =>
                        ifE_cases h
                          (fun h15 h =>
                            leaf h fun e => by subst e; exact fin_ret Go.Proofs.Tryz.func3 mix 1000 [.call [] (laws_big.calls h1), .br h2, .call [] (spec_DrawMatrixOfSteps.calls h3), .call [] (impl_MatrixOfSteps.calls h4), .call [] (spec_MatrixOfSteps.calls h5), .br h6, .br h7, .call [] (spec_DrawTriangularPart.calls h8), .call [] (impl_TriangularPart.calls h9), .call [] (spec_TriangularPart.calls h10), .br h11, .br h12, .call [] (impl_UnitPart.calls h13), .call [] (spec_UnitPart.calls h14), .br h15] (by kernel_rfl))
                          (fun h15 h =>
                            ifE_cases h
                              (fun h16 h =>
                                leaf h fun e => by subst e; exact fin_ret Go.Proofs.Tryz.func3 mix 1000 [.call [] (laws_big.calls h1), .br h2, .call [] (spec_DrawMatrixOfSteps.calls h3), .call [] (impl_MatrixOfSteps.calls h4), .call [] (spec_MatrixOfSteps.calls h5), .br h6, .br h7, .call [] (spec_DrawTriangularPart.calls h8), .call [] (impl_TriangularPart.calls h9), .call [] (spec_TriangularPart.calls h10), .br h11, .br h12, .call [] (impl_UnitPart.calls h13), .call [] (spec_UnitPart.calls h14), .br h15, .br h16] (by kernel_rfl))
                              (fun h16 h =>
                                bind_cases h fun r10 h17 h =>
                                bind_cases h fun r11 h18 h =>
                                ifE_cases h
                                  (fun h19 h =>
                                    leaf h fun e => by subst e; exact fin_ret Go.Proofs.Tryz.func3 mix 1000 [.call [] (laws_big.calls h1), .br h2, .call [] (spec_DrawMatrixOfSteps.calls h3), .call [] (impl_MatrixOfSteps.calls h4), .call [] (spec_MatrixOfSteps.calls h5), .br h6, .br h7, .call [] (spec_DrawTriangularPart.calls h8), .call [] (impl_TriangularPart.calls h9), .call [] (spec_TriangularPart.calls h10), .br h11, .br h12, .call [] (impl_UnitPart.calls h13), .call [] (spec_UnitPart.calls h14), .br h15, .br h16, .call [] (impl_IsUnitMatrix.calls h17), .call [] (spec_IsUnitMatrix.calls h18), .br h19] (by kernel_rfl))
                                  (fun h19 h =>
                                    ifE_cases h
                                      (fun h20 h =>
                                        leaf h fun e => by subst e; exact fin_ret Go.Proofs.Tryz.func3 mix 1000 [.call [] (laws_big.calls h1), .br h2, .call [] (spec_DrawMatrixOfSteps.calls h3), .call [] (impl_MatrixOfSteps.calls h4), .call [] (spec_MatrixOfSteps.calls h5), .br h6, .br h7, .call [] (spec_DrawTriangularPart.calls h8), .call [] (impl_TriangularPart.calls h9), .call [] (spec_TriangularPart.calls h10), .br h11, .br h12, .call [] (impl_UnitPart.calls h13), .call [] (spec_UnitPart.calls h14), .br h15, .br h16, .call [] (impl_IsUnitMatrix.calls h17), .call [] (spec_IsUnitMatrix.calls h18), .br h19, .br h20] (by kernel_rfl))
                                      (fun h20 h =>
                                        bind_cases h fun r12 h21 h =>
                                        bind_cases h fun r13 h22 h =>
                                        ifE_cases h
                                          (fun h23 h =>
                                            leaf h fun e => by subst e; exact fin_ret Go.Proofs.Tryz.func3 mix 1000 [.call [] (laws_big.calls h1), .br h2, .call [] (spec_DrawMatrixOfSteps.calls h3), .call [] (impl_MatrixOfSteps.calls h4), .call [] (spec_MatrixOfSteps.calls h5), .br h6, .br h7, .call [] (spec_DrawTriangularPart.calls h8), .call [] (impl_TriangularPart.calls h9), .call [] (spec_TriangularPart.calls h10), .br h11, .br h12, .call [] (impl_UnitPart.calls h13), .call [] (spec_UnitPart.calls h14), .br h15, .br h16, .call [] (impl_IsUnitMatrix.calls h17), .call [] (spec_IsUnitMatrix.calls h18), .br h19, .br h20, .call [] (impl_MatrixPosition.calls h21), .call [] (spec_MatrixPosition.calls h22), .br h23] (by kernel_rfl))
                                          (fun h23 h =>
                                            ifE_cases h
                                              (fun h24 h =>
                                                leaf h fun e => by subst e; exact fin_ret Go.Proofs.Tryz.func3 mix 1000 [.call [] (laws_big.calls h1), .br h2, .call [] (spec_DrawMatrixOfSteps.calls h3), .call [] (impl_MatrixOfSteps.calls h4), .call [] (spec_MatrixOfSteps.calls h5), .br h6, .br h7, .call [] (spec_DrawTriangularPart.calls h8), .call [] (impl_TriangularPart.calls h9), .call [] (spec_TriangularPart.calls h10), .br h11, .br h12, .call [] (impl_UnitPart.calls h13), .call [] (spec_UnitPart.calls h14), .br h15, .br h16, .call [] (impl_IsUnitMatrix.calls h17), .call [] (spec_IsUnitMatrix.calls h18), .br h19, .br h20, .call [] (impl_MatrixPosition.calls h21), .call [] (spec_MatrixPosition.calls h22), .br h23, .br h24] (by kernel_rfl))
                                              (fun h24 h =>
                                                bind_cases h fun r14 h25 h =>
                                                bind_cases h fun r15 h26 h =>
                                                ifE_cases h
                                                  (fun h27 h =>
                                                    leaf h fun e => by subst e; exact fin_ret Go.Proofs.Tryz.func3 mix 1000 [.call [] (laws_big.calls h1), .br h2, .call [] (spec_DrawMatrixOfSteps.calls h3), .call [] (impl_MatrixOfSteps.calls h4), .call [] (spec_MatrixOfSteps.calls h5), .br h6, .br h7, .call [] (spec_DrawTriangularPart.calls h8), .call [] (impl_TriangularPart.calls h9), .call [] (spec_TriangularPart.calls h10), .br h11, .br h12, .call [] (impl_UnitPart.calls h13), .call [] (spec_UnitPart.calls h14), .br h15, .br h16, .call [] (impl_IsUnitMatrix.calls h17), .call [] (spec_IsUnitMatrix.calls h18), .br h19, .br h20, .call [] (impl_MatrixPosition.calls h21), .call [] (spec_MatrixPosition.calls h22), .br h23, .br h24, .call [] (impl_StepsOfMatrix.calls h25), .call [] (spec_StepsOfMatrix.calls h26), .br h27] (by kernel_rfl))
                                                  (fun h27 h =>
                                                    ifE_cases h
                                                      (fun h28 h =>
                                                        leaf h fun e => by subst e; exact fin_ret Go.Proofs.Tryz.func3 mix 1000 [.call [] (laws_big.calls h1), .br h2, .call [] (spec_DrawMatrixOfSteps.calls h3), .call [] (impl_MatrixOfSteps.calls h4), .call [] (spec_MatrixOfSteps.calls h5), .br h6, .br h7, .call [] (spec_DrawTriangularPart.calls h8), .call [] (impl_TriangularPart.calls h9), .call [] (spec_TriangularPart.calls h10), .br h11, .br h12, .call [] (impl_UnitPart.calls h13), .call [] (spec_UnitPart.calls h14), .br h15, .br h16, .call [] (impl_IsUnitMatrix.calls h17), .call [] (spec_IsUnitMatrix.calls h18), .br h19, .br h20, .call [] (impl_MatrixPosition.calls h21), .call [] (spec_MatrixPosition.calls h22), .br h23, .br h24, .call [] (impl_StepsOfMatrix.calls h25), .call [] (spec_StepsOfMatrix.calls h26), .br h27, .br h28] (by kernel_rfl))
                                                      (fun h28 h =>
                                                        bind_cases h fun r16 h29 h =>
                                                        ifE_cases h
                                                          (fun h30 h =>
                                                            ifE_cases h
                                                              (fun h31 h =>
                                                                bind_cases h fun r17 h32 h =>
                                                                bind_cases h fun r18 h33 h =>
                                                                ifE_cases h
                                                                  (fun h34 h =>
                                                                    ifE_cases h
                                                                      (fun h35 h =>
                                                                        leaf h fun e => by subst e; exact fin_ret Go.Proofs.Tryz.func3 mix 1000 [.call [] (laws_big.calls h1), .br h2, .call [] (spec_DrawMatrixOfSteps.calls h3), .call [] (impl_MatrixOfSteps.calls h4), .call [] (spec_MatrixOfSteps.calls h5), .br h6, .br h7, .call [] (spec_DrawTriangularPart.calls h8), .call [] (impl_TriangularPart.calls h9), .call [] (spec_TriangularPart.calls h10), .br h11, .br h12, .call [] (impl_UnitPart.calls h13), .call [] (spec_UnitPart.calls h14), .br h15, .br h16, .call [] (impl_IsUnitMatrix.calls h17), .call [] (spec_IsUnitMatrix.calls h18), .br h19, .br h20, .call [] (impl_MatrixPosition.calls h21), .call [] (spec_MatrixPosition.calls h22), .br h23, .br h24, .call [] (impl_StepsOfMatrix.calls h25), .call [] (spec_StepsOfMatrix.calls h26), .br h27, .br h28, .call [] (spec_NormalSteps.calls h29), .br h30, .br h31, .call [] (impl_MoveBall.calls h32), .call [] (impl_FollowSteps.calls h33), .br h34, .br h35] (by kernel_rfl))
                                                                      (fun h35 h =>
                                                                        ifE_cases h
                                                                          (fun h36 h =>
                                                                            leaf h fun e => by subst e; exact fin_ret Go.Proofs.Tryz.func3 mix 1000 [.call [] (laws_big.calls h1), .br h2, .call [] (spec_DrawMatrixOfSteps.calls h3), .call [] (impl_MatrixOfSteps.calls h4), .call [] (spec_MatrixOfSteps.calls h5), .br h6, .br h7, .call [] (spec_DrawTriangularPart.calls h8), .call [] (impl_TriangularPart.calls h9), .call [] (spec_TriangularPart.calls h10), .br h11, .br h12, .call [] (impl_UnitPart.calls h13), .call [] (spec_UnitPart.calls h14), .br h15, .br h16, .call [] (impl_IsUnitMatrix.calls h17), .call [] (spec_IsUnitMatrix.calls h18), .br h19, .br h20, .call [] (impl_MatrixPosition.calls h21), .call [] (spec_MatrixPosition.calls h22), .br h23, .br h24, .call [] (impl_StepsOfMatrix.calls h25), .call [] (spec_StepsOfMatrix.calls h26), .br h27, .br h28, .call [] (spec_NormalSteps.calls h29), .br h30, .br h31, .call [] (impl_MoveBall.calls h32), .call [] (impl_FollowSteps.calls h33), .br h34, .br h35, .br h36] (by kernel_rfl))
                                                                          (fun h36 h =>
                                                                            fin_fin Go.Proofs.Tryz.func3 mix 1000 [.call [] (laws_big.calls h1), .br h2, .call [] (spec_DrawMatrixOfSteps.calls h3), .call [] (impl_MatrixOfSteps.calls h4), .call [] (spec_MatrixOfSteps.calls h5), .br h6, .br h7, .call [] (spec_DrawTriangularPart.calls h8), .call [] (impl_TriangularPart.calls h9), .call [] (spec_TriangularPart.calls h10), .br h11, .br h12, .call [] (impl_UnitPart.calls h13), .call [] (spec_UnitPart.calls h14), .br h15, .br h16, .call [] (impl_IsUnitMatrix.calls h17), .call [] (spec_IsUnitMatrix.calls h18), .br h19, .br h20, .call [] (impl_MatrixPosition.calls h21), .call [] (spec_MatrixPosition.calls h22), .br h23, .br h24, .call [] (impl_StepsOfMatrix.calls h25), .call [] (spec_StepsOfMatrix.calls h26), .br h27, .br h28, .call [] (spec_NormalSteps.calls h29), .br h30, .br h31, .call [] (impl_MoveBall.calls h32), .call [] (impl_FollowSteps.calls h33), .br h34, .br h35, .br h36, .fin 35 [9, 10, 11, 12, 15, 16, 19, 23, 24, 27, 28] [(10, 10), (11, 11), (15, 15)] (laws_FnParts.j35_ok r5.1 r6.2 r8.2 r10.1 r12.1 r12.2 r14.1 r14.2 r5.2.c0 r5.2.c1 r5.2.c2 r5.2.c3 r6.1.c0 r6.1.c1 r6.1.c2 r6.1.c3 r8.1.c0 r8.1.c1 r8.1.c2 r8.1.c3 r h)] (by kernel_rfl))))
                                                                  (fun h34 h =>
                                                                    fin_fin Go.Proofs.Tryz.func3 mix 1000 [.call [] (laws_big.calls h1), .br h2, .call [] (spec_DrawMatrixOfSteps.calls h3), .call [] (impl_MatrixOfSteps.calls h4), .call [] (spec_MatrixOfSteps.calls h5), .br h6, .br h7, .call [] (spec_DrawTriangularPart.calls h8), .call [] (impl_TriangularPart.calls h9), .call [] (spec_TriangularPart.calls h10), .br h11, .br h12, .call [] (impl_UnitPart.calls h13), .call [] (spec_UnitPart.calls h14), .br h15, .br h16, .call [] (impl_IsUnitMatrix.calls h17), .call [] (spec_IsUnitMatrix.calls h18), .br h19, .br h20, .call [] (impl_MatrixPosition.calls h21), .call [] (spec_MatrixPosition.calls h22), .br h23, .br h24, .call [] (impl_StepsOfMatrix.calls h25), .call [] (spec_StepsOfMatrix.calls h26), .br h27, .br h28, .call [] (spec_NormalSteps.calls h29), .br h30, .br h31, .call [] (impl_MoveBall.calls h32), .call [] (impl_FollowSteps.calls h33), .br h34, .fin 35 [9, 10, 11, 12, 15, 16, 19, 23, 24, 27, 28] [(10, 10), (11, 11), (15, 15)] (laws_FnParts.j35_ok r5.1 r6.2 r8.2 r10.1 r12.1 r12.2 r14.1 r14.2 r5.2.c0 r5.2.c1 r5.2.c2 r5.2.c3 r6.1.c0 r6.1.c1 r6.1.c2 r6.1.c3 r8.1.c0 r8.1.c1 r8.1.c2 r8.1.c3 r h)] (by kernel_rfl)))
                                                              (fun h31 h =>
                                                                fin_fin Go.Proofs.Tryz.func3 mix 1000 [.call [] (laws_big.calls h1), .br h2, .call [] (spec_DrawMatrixOfSteps.calls h3), .call [] (impl_MatrixOfSteps.calls h4), .call [] (spec_MatrixOfSteps.calls h5), .br h6, .br h7, .call [] (spec_DrawTriangularPart.calls h8), .call [] (impl_TriangularPart.calls h9), .call [] (spec_TriangularPart.calls h10), .br h11, .br h12, .call [] (impl_UnitPart.calls h13), .call [] (spec_UnitPart.calls h14), .br h15, .br h16, .call [] (impl_IsUnitMatrix.calls h17), .call [] (spec_IsUnitMatrix.calls h18), .br h19, .br h20, .call [] (impl_MatrixPosition.calls h21), .call [] (spec_MatrixPosition.calls h22), .br h23, .br h24, .call [] (impl_StepsOfMatrix.calls h25), .call [] (spec_StepsOfMatrix.calls h26), .br h27, .br h28, .call [] (spec_NormalSteps.calls h29), .br h30, .br h31, .fin 35 [9, 10, 11, 12, 15, 16, 19, 23, 24, 27, 28] [(10, 10), (11, 11), (15, 15)] (laws_FnParts.j35_ok r5.1 r6.2 r8.2 r10.1 r12.1 r12.2 r14.1 r14.2 r5.2.c0 r5.2.c1 r5.2.c2 r5.2.c3 r6.1.c0 r6.1.c1 r6.1.c2 r6.1.c3 r8.1.c0 r8.1.c1 r8.1.c2 r8.1.c3 r h)] (by kernel_rfl)))
                                                          (fun h30 h =>
                                                            fin_fin Go.Proofs.Tryz.func3 mix 1000 [.call [] (laws_big.calls h1), .br h2, .call [] (spec_DrawMatrixOfSteps.calls h3), .call [] (impl_MatrixOfSteps.calls h4), .call [] (spec_MatrixOfSteps.calls h5), .br h6, .br h7, .call [] (spec_DrawTriangularPart.calls h8), .call [] (impl_TriangularPart.calls h9), .call [] (spec_TriangularPart.calls h10), .br h11, .br h12, .call [] (impl_UnitPart.calls h13), .call [] (spec_UnitPart.calls h14), .br h15, .br h16, .call [] (impl_IsUnitMatrix.calls h17), .call [] (spec_IsUnitMatrix.calls h18), .br h19, .br h20, .call [] (impl_MatrixPosition.calls h21), .call [] (spec_MatrixPosition.calls h22), .br h23, .br h24, .call [] (impl_StepsOfMatrix.calls h25), .call [] (spec_StepsOfMatrix.calls h26), .br h27, .br h28, .call [] (spec_NormalSteps.calls h29), .br h30, .fin 35 [9, 10, 11, 12, 15, 16, 19, 23, 24, 27, 28] [(10, 10), (11, 11), (15, 15)] (laws_FnParts.j35_ok r5.1 r6.2 r8.2 r10.1 r12.1 r12.2 r14.1 r14.2 r5.2.c0 r5.2.c1 r5.2.c2 r5.2.c3 r6.1.c0 r6.1.c1 r6.1.c2 r6.1.c3 r8.1.c0 r8.1.c1 r8.1.c2 r8.1.c3 r h)] (by kernel_rfl)))))))))))))))

end Go.CTryz
