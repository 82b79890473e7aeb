import Derived.Test.YtdfepbmcglnhcaaEngV
set_option linter.unusedVariables false
set_option maxRecDepth 100000
open Go Go.Eng
namespace Go.GenTry
structure SLu8eiu64 where
  c0 : (List Int)
  c1 : Int
  c2 : Int
  deriving DecidableEq, Inhabited

def SLu8eiu64.cells (x : SLu8eiu64) : List DV := [R true 1 (cK .u8) x.c0, I x.c1, K .u64 x.c2]

structure Siiii where
  c0 : Int
  c1 : Int
  c2 : Int
  c3 : Int
  deriving DecidableEq, Inhabited

def Siiii.cells (x : Siiii) : List DV := [I x.c0, I x.c1, I x.c2, I x.c3]

def laws_big.f (a0 : (List Int)) : Option Bool :=
  some (decide ((a0.length : Int) > 4096))

def spec_l01From.s3 (rec3 : (List Int) → Int → (List Int) → Int → Int → Option SLu8eiu64) (v0 : (List Int)) (v4 : Int) (o11_0 : (List Int)) (o11_1 : Int) (o11_2 : Int) : Option SLu8eiu64 :=
  ifE (decide (v4 < (v0.length : Int))) (
    ifE (decide (v4 < 4096)) (
      (getE v0 v4).bind fun e1 =>
      rec3 v0 (W (v4 + 1)) o11_0 o11_1 (IntKind.wrap .u64 ((IntKind.wrap .u64 ((IntKind.wrap .u64 (o11_2 * 1099511628211)) + (IntKind.wrap .u64 (e1)))) + 71))) (
      some (⟨o11_0, o11_1, o11_2⟩ : SLu8eiu64))) (
    some (⟨o11_0, o11_1, o11_2⟩ : SLu8eiu64))

def spec_l01From.l3 : Nat → (List Int) → Int → (List Int) → Int → Int → Option SLu8eiu64
  | 0 => fun _ _ _ _ _ => none
  | k + 1 => spec_l01From.s3 (spec_l01From.l3 k)

def spec_l01From.f (a0 : (List Int)) : Option SLu8eiu64 :=
  spec_l01From.l3 fuelN a0 0 a0 0 (IntKind.wrap .u64 (12527 + (IntKind.wrap .u64 ((a0.length : Int)))))

def spec_l01Next.f (a0 : SLu8eiu64) (a1 : Int) : Option (Int × SLu8eiu64) :=
  ifE (decide (a1 < 1)) (
    some (0, a0)) (
    ifE (decide (a0.c1 < (a0.c0.length : Int))) (
      (getE a0.c0 a0.c1).bind fun e1 =>
      guardE (a1 ≠ 0) <|
      some (Int.tmod (W ((W (IntKind.wrap .u64 ((((BitVec.ofInt 64 (Int.fdiv (IntKind.wrap .u64 ((IntKind.wrap .u64 (a0.c2 * 6364136223846793005)) + 1442695040888963407)) (2 ^ 23))) &&& (BitVec.ofInt 64 17179869183)).toNat : Int)))) + (W (e1)))) a1, (⟨a0.c0, W (a0.c1 + 1), IntKind.wrap .u64 ((IntKind.wrap .u64 (a0.c2 * 6364136223846793005)) + 1442695040888963407)⟩ : SLu8eiu64))) (
      guardE (a1 ≠ 0) <|
      some (Int.tmod (W (IntKind.wrap .u64 ((((BitVec.ofInt 64 (Int.fdiv (IntKind.wrap .u64 ((IntKind.wrap .u64 (a0.c2 * 6364136223846793005)) + 1442695040888963407)) (2 ^ 23))) &&& (BitVec.ofInt 64 17179869183)).toNat : Int)))) a1, (⟨a0.c0, a0.c1, IntKind.wrap .u64 ((IntKind.wrap .u64 (a0.c2 * 6364136223846793005)) + 1442695040888963407)⟩ : SLu8eiu64))))

def spec_l01Pick.f (a0 : SLu8eiu64) (a1 : (List Int)) : Option (Int × SLu8eiu64) :=
  (spec_l01Next.f a0 (a1.length : Int)).bind fun r1 =>
  (getE a1 r1.1).bind fun e2 =>
  some (e2, r1.2)

def spec_l04Det.f (a0 : Siiii) : Option Int :=
  some (W ((W (a0.c0 * a0.c3)) - (W (a0.c1 * a0.c2))))

def spec_l04Draw.s6 (rec3 : Int → (List Int) → Int → Int → Int → Int → Int → Int → Int → Int → Int → Int → Option (Siiii × SLu8eiu64)) (rec6 : Int → Int → (List Int) → Int → Int → Int → Int → Int → Int → Int → Int → Int → Int → Option (Siiii × SLu8eiu64)) (v4 : Int) (v5 : Int) (o2000_0 : (List Int)) (o2000_1 : Int) (o2000_2 : Int) (o2_0 : Int) (o2_1 : Int) (o2_2 : Int) (o2_3 : Int) (o3_0 : Int) (o3_1 : Int) (o3_2 : Int) (o3_3 : Int) : Option (Siiii × SLu8eiu64) :=
  ifE (decide (v5 < 4)) (
    (spec_l01Next.f (⟨o2000_0, o2000_1, o2000_2⟩ : SLu8eiu64) 11).bind fun r17 =>
    ifE ((W (Int.tdiv v5 2)) == 0) (
      ifE ((Int.tmod v5 2) == 0) (
        rec6 v4 (W (v5 + 1)) r17.2.c0 r17.2.c1 r17.2.c2 o2_0 o2_1 o2_2 o2_3 (W (r17.1 - 5)) o3_1 o3_2 o3_3) (
        ifE ((Int.tmod v5 2) == 1) (
          rec6 v4 (W (v5 + 1)) r17.2.c0 r17.2.c1 r17.2.c2 o2_0 o2_1 o2_2 o2_3 o3_0 (W (r17.1 - 5)) o3_2 o3_3) (
          none))) (
      ifE ((W (Int.tdiv v5 2)) == 1) (
        ifE ((Int.tmod v5 2) == 0) (
          rec6 v4 (W (v5 + 1)) r17.2.c0 r17.2.c1 r17.2.c2 o2_0 o2_1 o2_2 o2_3 o3_0 o3_1 (W (r17.1 - 5)) o3_3) (
          ifE ((Int.tmod v5 2) == 1) (
            rec6 v4 (W (v5 + 1)) r17.2.c0 r17.2.c1 r17.2.c2 o2_0 o2_1 o2_2 o2_3 o3_0 o3_1 o3_2 (W (r17.1 - 5))) (
            none))) (
        none))) (
    (spec_l04Det.f (⟨o3_0, o3_1, o3_2, o3_3⟩ : Siiii)).bind fun r18 =>
    ifE (r18 != 0) (
      (spec_l01Next.f (⟨o2000_0, o2000_1, o2000_2⟩ : SLu8eiu64) 9).bind fun r19 =>
      ifE (r19.1 == 0) (
        (spec_l01Pick.f r19.2 [2, 3, 4, 5, 9]).bind fun r20 =>
        (spec_l01Next.f r20.2 5).bind fun r21 =>
        (spec_l01Next.f r21.2 40).bind fun r22 =>
        ifE (r22.1 == 0) (
          some ((⟨1001, W (r21.1 - 2), 0, 1⟩ : Siiii), r22.2)) (
          ifE (r22.1 == 1) (
            some ((⟨r20.1, W (r21.1 - 2), r20.1, W (r21.1 - 2)⟩ : Siiii), r22.2)) (
            some ((⟨r20.1, W (r21.1 - 2), 0, 1⟩ : Siiii), r22.2)))) (
        ifE (r19.1 == 1) (
          (spec_l01Pick.f r19.2 [2, 3, 4, 7, 1]).bind fun r23 =>
          (spec_l01Next.f r23.2 40).bind fun r24 =>
          ifE (r24.1 == 0) (
            some ((⟨1001, 0, 0, r23.1⟩ : Siiii), r24.2)) (
            ifE (r24.1 == 1) (
              some ((⟨1, 0, 1, 0⟩ : Siiii), r24.2)) (
              some ((⟨1, 0, 0, r23.1⟩ : Siiii), r24.2)))) (
          ifE (r19.1 == 2) (
            (spec_l01Pick.f r19.2 [1, (-1), 2, 3]).bind fun r25 =>
            (spec_l01Next.f r25.2 40).bind fun r26 =>
            ifE (r26.1 == 0) (
              some ((⟨1001, r25.1, 1, 0⟩ : Siiii), r26.2)) (
              ifE (r26.1 == 1) (
                some ((⟨0, r25.1, 0, r25.1⟩ : Siiii), r26.2)) (
                some ((⟨0, r25.1, 1, 0⟩ : Siiii), r26.2)))) (
            ifE (r19.1 == 3) (
              (spec_l01Next.f r19.2 2001).bind fun r27 =>
              (spec_l01Next.f r27.2 9).bind fun r28 =>
              (spec_l01Next.f r28.2 9).bind fun r29 =>
              (spec_l01Next.f r29.2 2001).bind fun r30 =>
              (spec_l01Next.f r30.2 40).bind fun r31 =>
              ifE (r31.1 == 0) (
                some ((⟨1001, r28.1, r29.1, W (r30.1 - 1000)⟩ : Siiii), r31.2)) (
                ifE (r31.1 == 1) (
                  some ((⟨W (r27.1 - 1000), r28.1, W (r27.1 - 1000), r28.1⟩ : Siiii), r31.2)) (
                  some ((⟨W (r27.1 - 1000), r28.1, r29.1, W (r30.1 - 1000)⟩ : Siiii), r31.2)))) (
              ifE (r19.1 == 4) (
                (spec_l01Next.f r19.2 7).bind fun r32 =>
                (spec_l01Next.f r32.2 40).bind fun r33 =>
                ifE (r33.1 == 0) (
                  some ((⟨1001, W (r32.1 - 3), 0, 1⟩ : Siiii), r33.2)) (
                  ifE (r33.1 == 1) (
                    some ((⟨1, W (r32.1 - 3), 1, W (r32.1 - 3)⟩ : Siiii), r33.2)) (
                    some ((⟨1, W (r32.1 - 3), 0, 1⟩ : Siiii), r33.2)))) (
                (spec_l01Next.f r19.2 40).bind fun r34 =>
                ifE (r34.1 == 0) (
                  some ((⟨1001, o3_1, o3_2, o3_3⟩ : Siiii), r34.2)) (
                  ifE (r34.1 == 1) (
                    some ((⟨o3_0, o3_1, o3_0, o3_1⟩ : Siiii), r34.2)) (
                    some ((⟨o3_0, o3_1, o3_2, o3_3⟩ : Siiii), r34.2))))))))) (
      rec3 (W (v4 + 1)) o2000_0 o2000_1 o2000_2 o2_0 o2_1 o2_2 o2_3 o3_0 o3_1 o3_2 o3_3))

def spec_l04Draw.l6 (rec3 : Int → (List Int) → Int → Int → Int → Int → Int → Int → Int → Int → Int → Int → Option (Siiii × SLu8eiu64)) : Nat → Int → Int → (List Int) → Int → Int → Int → Int → Int → Int → Int → Int → Int → Int → Option (Siiii × SLu8eiu64)
  | 0 => fun _ _ _ _ _ _ _ _ _ _ _ _ _ => none
  | k + 1 => spec_l04Draw.s6 rec3 (spec_l04Draw.l6 rec3 k)

def spec_l04Draw.s3 (rec3 : Int → (List Int) → Int → Int → Int → Int → Int → Int → Int → Int → Int → Int → Option (Siiii × SLu8eiu64)) (v4 : Int) (o2000_0 : (List Int)) (o2000_1 : Int) (o2000_2 : Int) (o2_0 : Int) (o2_1 : Int) (o2_2 : Int) (o2_3 : Int) (o3_0 : Int) (o3_1 : Int) (o3_2 : Int) (o3_3 : Int) : Option (Siiii × SLu8eiu64) :=
  ifE (decide (v4 < 5)) (
    spec_l04Draw.l6 rec3 fuelN v4 0 o2000_0 o2000_1 o2000_2 o2_0 o2_1 o2_2 o2_3 o3_0 o3_1 o3_2 o3_3) (
    (spec_l01Next.f (⟨o2000_0, o2000_1, o2000_2⟩ : SLu8eiu64) 9).bind fun r1 =>
    ifE (r1.1 == 0) (
      (spec_l01Pick.f r1.2 [2, 3, 4, 5, 9]).bind fun r2 =>
      (spec_l01Next.f r2.2 5).bind fun r3 =>
      (spec_l01Next.f r3.2 40).bind fun r4 =>
      ifE (r4.1 == 0) (
        some ((⟨1001, W (r3.1 - 2), 0, 1⟩ : Siiii), r4.2)) (
        ifE (r4.1 == 1) (
          some ((⟨r2.1, W (r3.1 - 2), r2.1, W (r3.1 - 2)⟩ : Siiii), r4.2)) (
          some ((⟨r2.1, W (r3.1 - 2), 0, 1⟩ : Siiii), r4.2)))) (
      ifE (r1.1 == 1) (
        (spec_l01Pick.f r1.2 [2, 3, 4, 7, 1]).bind fun r5 =>
        (spec_l01Next.f r5.2 40).bind fun r6 =>
        ifE (r6.1 == 0) (
          some ((⟨1001, 0, 0, r5.1⟩ : Siiii), r6.2)) (
          ifE (r6.1 == 1) (
            some ((⟨1, 0, 1, 0⟩ : Siiii), r6.2)) (
            some ((⟨1, 0, 0, r5.1⟩ : Siiii), r6.2)))) (
        ifE (r1.1 == 2) (
          (spec_l01Pick.f r1.2 [1, (-1), 2, 3]).bind fun r7 =>
          (spec_l01Next.f r7.2 40).bind fun r8 =>
          ifE (r8.1 == 0) (
            some ((⟨1001, r7.1, 1, 0⟩ : Siiii), r8.2)) (
            ifE (r8.1 == 1) (
              some ((⟨0, r7.1, 0, r7.1⟩ : Siiii), r8.2)) (
              some ((⟨0, r7.1, 1, 0⟩ : Siiii), r8.2)))) (
          ifE (r1.1 == 3) (
            (spec_l01Next.f r1.2 2001).bind fun r9 =>
            (spec_l01Next.f r9.2 9).bind fun r10 =>
            (spec_l01Next.f r10.2 9).bind fun r11 =>
            (spec_l01Next.f r11.2 2001).bind fun r12 =>
            (spec_l01Next.f r12.2 40).bind fun r13 =>
            ifE (r13.1 == 0) (
              some ((⟨1001, r10.1, r11.1, W (r12.1 - 1000)⟩ : Siiii), r13.2)) (
              ifE (r13.1 == 1) (
                some ((⟨W (r9.1 - 1000), r10.1, W (r9.1 - 1000), r10.1⟩ : Siiii), r13.2)) (
                some ((⟨W (r9.1 - 1000), r10.1, r11.1, W (r12.1 - 1000)⟩ : Siiii), r13.2)))) (
            ifE (r1.1 == 4) (
              (spec_l01Next.f r1.2 7).bind fun r14 =>
              (spec_l01Next.f r14.2 40).bind fun r15 =>
              ifE (r15.1 == 0) (
                some ((⟨1001, W (r14.1 - 3), 0, 1⟩ : Siiii), r15.2)) (
                ifE (r15.1 == 1) (
                  some ((⟨1, W (r14.1 - 3), 1, W (r14.1 - 3)⟩ : Siiii), r15.2)) (
                  some ((⟨1, W (r14.1 - 3), 0, 1⟩ : Siiii), r15.2)))) (
              (spec_l01Next.f r1.2 40).bind fun r16 =>
              ifE (r16.1 == 0) (
                some ((⟨1001, o3_1, o3_2, o3_3⟩ : Siiii), r16.2)) (
                ifE (r16.1 == 1) (
                  some ((⟨o3_0, o3_1, o3_0, o3_1⟩ : Siiii), r16.2)) (
                  some ((⟨o3_0, o3_1, o3_2, o3_3⟩ : Siiii), r16.2)))))))))

def spec_l04Draw.l3 : Nat → Int → (List Int) → Int → Int → Int → Int → Int → Int → Int → Int → Int → Int → Option (Siiii × SLu8eiu64)
  | 0 => fun _ _ _ _ _ _ _ _ _ _ _ _ => none
  | k + 1 => spec_l04Draw.s3 (spec_l04Draw.l3 k)

def spec_l04Draw.f (a0 : SLu8eiu64) : Option (Siiii × SLu8eiu64) :=
  spec_l04Draw.l3 fuelN 0 a0.c0 a0.c1 a0.c2 0 0 0 0 0 0 0 0

def spec_DrawMultiplyMatrices.f (a0 : (List Int)) : Option (Siiii × Siiii) :=
  (spec_l01From.f a0).bind fun r1 =>
  (spec_l04Draw.f r1).bind fun r2 =>
  (spec_l04Draw.f r2.2).bind fun r3 =>
  some (r2.1, r3.1)

def impl_within.s2 (rec2 : Int → (List Int) → Int → Int → Option Bool) (v0 : Int) (v7 : (List Int)) (v8 : Int) (v9 : Int) : Option Bool :=
  ifE (decide (v9 < v8)) (
    (getE v7 v9).bind fun e1 =>
    ifE (decide (e1 < (W (0 - v0)))) (
      some false) (
      ifE (decide (e1 > v0)) (
        some false) (
        rec2 v0 v7 v8 (W (v9 + 1))))) (
    some true)

def impl_within.l2 : Nat → Int → (List Int) → Int → Int → Option Bool
  | 0 => fun _ _ _ _ => none
  | k + 1 => impl_within.s2 (impl_within.l2 k)

def impl_within.f (a0 : Int) (a1 : (List Int)) : Option Bool :=
  impl_within.l2 fuelN a0 a1 (a1.length : Int) 0

def impl_determinant.f (a0 : Siiii) : Option Int :=
  some (W ((W (a0.c0 * a0.c3)) - (W (a0.c1 * a0.c2))))

def impl_IsMatrix.f (a0 : Siiii) : Option Bool :=
  (impl_within.f 1000 [a0.c0, a0.c1, a0.c2, a0.c3]).bind fun r1 =>
  ifE r1 (
    (impl_determinant.f a0).bind fun r2 =>
    some (r2 != 0)) (
    some false)

def impl_areMatrices.s2 (rec2 : (List Siiii) → Int → Int → Option Bool) (v5 : (List Siiii)) (v6 : Int) (v7 : Int) : Option Bool :=
  ifE (decide (v7 < v6)) (
    (getE v5 v7).bind fun e1 =>
    (impl_IsMatrix.f e1).bind fun r2 =>
    ifE (!r2) (
      some false) (
      rec2 v5 v6 (W (v7 + 1)))) (
    some true)

def impl_areMatrices.l2 : Nat → (List Siiii) → Int → Int → Option Bool
  | 0 => fun _ _ _ => none
  | k + 1 => impl_areMatrices.s2 (impl_areMatrices.l2 k)

def impl_areMatrices.f (a0 : (List Siiii)) : Option Bool :=
  impl_areMatrices.l2 fuelN a0 (a0.length : Int) 0

def impl_fittedMatrix.f (a0 : Siiii) (a1 : Bool) : Option (Siiii × Int) :=
  ifE (!a1) (
    some ((⟨0, 0, 0, 0⟩ : Siiii), 3)) (
    some (a0, 0))

def impl_gcd.s1 (rec1 : Int → Int → Option Int) (v0 : Int) (v1 : Int) : Option Int :=
  ifE (v1 != 0) (
    guardE (v1 ≠ 0) <|
    rec1 v1 (Int.tmod v0 v1)) (
    some (imax v0 (W (0 - v0))))

def impl_gcd.l1 : Nat → Int → Int → Option Int
  | 0 => fun _ _ => none
  | k + 1 => impl_gcd.s1 (impl_gcd.l1 k)

def impl_gcd.f (a0 : Int) (a1 : Int) : Option Int :=
  impl_gcd.l1 fuelN a0 a1

def impl_reduced.f (a0 : Siiii) : Option (Siiii × Bool) :=
  (impl_gcd.f a0.c0 a0.c1).bind fun r1 =>
  (impl_gcd.f a0.c2 a0.c3).bind fun r2 =>
  (impl_gcd.f r1 r2).bind fun r3 =>
  ifE (decide (a0.c0 < 0)) (
    guardE ((W (0 - r3)) ≠ 0) <|
    guardE ((W (0 - r3)) ≠ 0) <|
    guardE ((W (0 - r3)) ≠ 0) <|
    guardE ((W (0 - r3)) ≠ 0) <|
    (impl_IsMatrix.f (⟨W (Int.tdiv a0.c0 (W (0 - r3))), W (Int.tdiv a0.c1 (W (0 - r3))), W (Int.tdiv a0.c2 (W (0 - r3))), W (Int.tdiv a0.c3 (W (0 - r3)))⟩ : Siiii)).bind fun r4 =>
    some ((⟨W (Int.tdiv a0.c0 (W (0 - r3))), W (Int.tdiv a0.c1 (W (0 - r3))), W (Int.tdiv a0.c2 (W (0 - r3))), W (Int.tdiv a0.c3 (W (0 - r3)))⟩ : Siiii), r4)) (
    ifE (a0.c0 == 0) (
      ifE (decide (a0.c1 < 0)) (
        guardE ((W (0 - r3)) ≠ 0) <|
        guardE ((W (0 - r3)) ≠ 0) <|
        guardE ((W (0 - r3)) ≠ 0) <|
        guardE ((W (0 - r3)) ≠ 0) <|
        (impl_IsMatrix.f (⟨W (Int.tdiv a0.c0 (W (0 - r3))), W (Int.tdiv a0.c1 (W (0 - r3))), W (Int.tdiv a0.c2 (W (0 - r3))), W (Int.tdiv a0.c3 (W (0 - r3)))⟩ : Siiii)).bind fun r5 =>
        some ((⟨W (Int.tdiv a0.c0 (W (0 - r3))), W (Int.tdiv a0.c1 (W (0 - r3))), W (Int.tdiv a0.c2 (W (0 - r3))), W (Int.tdiv a0.c3 (W (0 - r3)))⟩ : Siiii), r5)) (
        guardE (r3 ≠ 0) <|
        guardE (r3 ≠ 0) <|
        guardE (r3 ≠ 0) <|
        guardE (r3 ≠ 0) <|
        (impl_IsMatrix.f (⟨W (Int.tdiv a0.c0 r3), W (Int.tdiv a0.c1 r3), W (Int.tdiv a0.c2 r3), W (Int.tdiv a0.c3 r3)⟩ : Siiii)).bind fun r6 =>
        some ((⟨W (Int.tdiv a0.c0 r3), W (Int.tdiv a0.c1 r3), W (Int.tdiv a0.c2 r3), W (Int.tdiv a0.c3 r3)⟩ : Siiii), r6))) (
      guardE (r3 ≠ 0) <|
      guardE (r3 ≠ 0) <|
      guardE (r3 ≠ 0) <|
      guardE (r3 ≠ 0) <|
      (impl_IsMatrix.f (⟨W (Int.tdiv a0.c0 r3), W (Int.tdiv a0.c1 r3), W (Int.tdiv a0.c2 r3), W (Int.tdiv a0.c3 r3)⟩ : Siiii)).bind fun r7 =>
      some ((⟨W (Int.tdiv a0.c0 r3), W (Int.tdiv a0.c1 r3), W (Int.tdiv a0.c2 r3), W (Int.tdiv a0.c3 r3)⟩ : Siiii), r7)))

def impl_product.f (a0 : Siiii) (a1 : Siiii) : Option (Siiii × Bool) :=
  (impl_reduced.f (⟨W ((W (a0.c0 * a1.c0)) + (W (a0.c1 * a1.c2))), W ((W (a0.c0 * a1.c1)) + (W (a0.c1 * a1.c3))), W ((W (a0.c2 * a1.c0)) + (W (a0.c3 * a1.c2))), W ((W (a0.c2 * a1.c1)) + (W (a0.c3 * a1.c3)))⟩ : Siiii)).bind fun r1 =>
  some (r1.1, r1.2)

def impl_MultiplyMatrices.f (a0 : Siiii) (a1 : Siiii) : Option (Siiii × Int) :=
  (impl_areMatrices.f [a0, a1]).bind fun r1 =>
  ifE (!r1) (
    some ((⟨0, 0, 0, 0⟩ : Siiii), 1)) (
    (impl_product.f a0 a1).bind fun r2 =>
    (impl_fittedMatrix.f r2.1 r2.2).bind fun r3 =>
    some (r3.1, r3.2))

def spec_l01In.f (a0 : Int) (a1 : Int) (a2 : Int) : Option Bool :=
  ifE (decide (a0 ≥ a1)) (
    some (decide (a0 ≤ a2))) (
    some false)

def spec_l04Is.s5 (rec2 : Int → Int → Int → Int → Int → Option Bool) (rec5 : Int → Int → Int → Int → Int → Int → Option Bool) (v3 : Int) (v4 : Int) (o1_0 : Int) (o1_1 : Int) (o1_2 : Int) (o1_3 : Int) : Option Bool :=
  ifE (decide (v4 < 2)) (
    ifE (v3 == 0) (
      ifE (v4 == 0) (
        (spec_l01In.f o1_0 (-1000) 1000).bind fun r2 =>
        ifE (!r2) (
          some false) (
          rec5 v3 (W (v4 + 1)) o1_0 o1_1 o1_2 o1_3)) (
        ifE (v4 == 1) (
          (spec_l01In.f o1_1 (-1000) 1000).bind fun r3 =>
          ifE (!r3) (
            some false) (
            rec5 v3 (W (v4 + 1)) o1_0 o1_1 o1_2 o1_3)) (
          none))) (
      ifE (v3 == 1) (
        ifE (v4 == 0) (
          (spec_l01In.f o1_2 (-1000) 1000).bind fun r4 =>
          ifE (!r4) (
            some false) (
            rec5 v3 (W (v4 + 1)) o1_0 o1_1 o1_2 o1_3)) (
          ifE (v4 == 1) (
            (spec_l01In.f o1_3 (-1000) 1000).bind fun r5 =>
            ifE (!r5) (
              some false) (
              rec5 v3 (W (v4 + 1)) o1_0 o1_1 o1_2 o1_3)) (
            none))) (
        none))) (
    rec2 (W (v3 + 1)) o1_0 o1_1 o1_2 o1_3)

def spec_l04Is.l5 (rec2 : Int → Int → Int → Int → Int → Option Bool) : Nat → Int → Int → Int → Int → Int → Int → Option Bool
  | 0 => fun _ _ _ _ _ _ => none
  | k + 1 => spec_l04Is.s5 rec2 (spec_l04Is.l5 rec2 k)

def spec_l04Is.s2 (rec2 : Int → Int → Int → Int → Int → Option Bool) (v3 : Int) (o1_0 : Int) (o1_1 : Int) (o1_2 : Int) (o1_3 : Int) : Option Bool :=
  ifE (decide (v3 < 2)) (
    spec_l04Is.l5 rec2 fuelN v3 0 o1_0 o1_1 o1_2 o1_3) (
    (spec_l04Det.f (⟨o1_0, o1_1, o1_2, o1_3⟩ : Siiii)).bind fun r1 =>
    some (r1 != 0))

def spec_l04Is.l2 : Nat → Int → Int → Int → Int → Int → Option Bool
  | 0 => fun _ _ _ _ _ => none
  | k + 1 => spec_l04Is.s2 (spec_l04Is.l2 k)

def spec_l04Is.f (a0 : Siiii) : Option Bool :=
  spec_l04Is.l2 fuelN 0 a0.c0 a0.c1 a0.c2 a0.c3

def spec_l01Gcd.s1 (rec1 : Int → Int → Option Int) (v0 : Int) (v1 : Int) : Option Int :=
  ifE (v1 != 0) (
    guardE (v1 ≠ 0) <|
    rec1 v1 (Int.tmod v0 v1)) (
    some (imax v0 (W (0 - v0))))

def spec_l01Gcd.l1 : Nat → Int → Int → Option Int
  | 0 => fun _ _ => none
  | k + 1 => spec_l01Gcd.s1 (spec_l01Gcd.l1 k)

def spec_l01Gcd.f (a0 : Int) (a1 : Int) : Option Int :=
  spec_l01Gcd.l1 fuelN a0 a1

def spec_l04Reduce.s12 (rec12 : Int → Int → Bool → Int → Int → Int → Int → Int → (List Int) → Option (Siiii × Bool)) (v5 : Int) (v6 : Int) (v8 : Bool) (v9 : Int) (o2_0 : Int) (o2_1 : Int) (o2_2 : Int) (o2_3 : Int) (o1004 : (List Int)) : Option (Siiii × Bool) :=
  ifE (decide (v9 < 4)) (
    (getE o1004 v9).bind fun e8 =>
    guardE (v5 ≠ 0) <|
    (getE o1004 v9).bind fun e9 =>
    ifE v8 (
      (getE (o1004.set (Int.toNat v9) (W ((W (Int.tdiv e8 v5)) * v6))) v9).bind fun e10 =>
      (spec_l01In.f e10 (-1000) 1000).bind fun r11 =>
      rec12 v5 v6 r11 (W (v9 + 1)) o2_0 o2_1 o2_2 o2_3 (o1004.set (Int.toNat v9) (W ((W (Int.tdiv e8 v5)) * v6)))) (
      rec12 v5 v6 false (W (v9 + 1)) o2_0 o2_1 o2_2 o2_3 (o1004.set (Int.toNat v9) (W ((W (Int.tdiv e8 v5)) * v6))))) (
    (getE o1004 0).bind fun e12 =>
    (getE o1004 1).bind fun e13 =>
    (getE o1004 2).bind fun e14 =>
    (getE o1004 3).bind fun e15 =>
    some ((⟨e12, e13, e14, e15⟩ : Siiii), v8))

def spec_l04Reduce.l12 : Nat → Int → Int → Bool → Int → Int → Int → Int → Int → (List Int) → Option (Siiii × Bool)
  | 0 => fun _ _ _ _ _ _ _ _ _ => none
  | k + 1 => spec_l04Reduce.s12 (spec_l04Reduce.l12 k)

def spec_l04Reduce.s4 (rec4 : Int → Int → Int → Int → Int → Int → Int → (List Int) → Option (Siiii × Bool)) (v5 : Int) (v6 : Int) (v7 : Int) (o2_0 : Int) (o2_1 : Int) (o2_2 : Int) (o2_3 : Int) (o1004 : (List Int)) : Option (Siiii × Bool) :=
  ifE (decide (v7 < 4)) (
    (getE o1004 v7).bind fun e1 =>
    (getE o1004 v7).bind fun e2 =>
    (spec_l01Gcd.f v5 (imax e1 (W (0 - e2)))).bind fun r3 =>
    ifE (v6 == 0) (
      (getE o1004 v7).bind fun e4 =>
      ifE (e4 != 0) (
        (getE o1004 v7).bind fun e5 =>
        (getE o1004 v7).bind fun e6 =>
        (getE o1004 v7).bind fun e7 =>
        guardE ((imax e6 (W (0 - e7))) ≠ 0) <|
        rec4 r3 (W (Int.tdiv e5 (imax e6 (W (0 - e7))))) (W (v7 + 1)) o2_0 o2_1 o2_2 o2_3 o1004) (
        rec4 r3 v6 (W (v7 + 1)) o2_0 o2_1 o2_2 o2_3 o1004)) (
      rec4 r3 v6 (W (v7 + 1)) o2_0 o2_1 o2_2 o2_3 o1004)) (
    spec_l04Reduce.l12 fuelN (imax v5 (W (0 - v5))) v6 true 0 o2_0 o2_1 o2_2 o2_3 o1004)

def spec_l04Reduce.l4 : Nat → Int → Int → Int → Int → Int → Int → Int → (List Int) → Option (Siiii × Bool)
  | 0 => fun _ _ _ _ _ _ _ _ => none
  | k + 1 => spec_l04Reduce.s4 (spec_l04Reduce.l4 k)

def spec_l04Reduce.f (a0 : Siiii) : Option (Siiii × Bool) :=
  spec_l04Reduce.l4 fuelN 0 0 0 0 0 0 0 [a0.c0, a0.c1, a0.c2, a0.c3]

def spec_l04Times.s6 (rec3 : Int → Int → Int → Int → Int → Int → Int → Int → Int → Int → Int → Int → Int → Int → Int → Int → Int → Option (Siiii × Bool)) (rec6 : Int → Int → Int → Int → Int → Int → Int → Int → Int → Int → Int → Int → Int → Int → Int → Int → Int → Int → Option (Siiii × Bool)) (v7 : Int) (v8 : Int) (o2_0 : Int) (o2_1 : Int) (o2_2 : Int) (o2_3 : Int) (o3_0 : Int) (o3_1 : Int) (o3_2 : Int) (o3_3 : Int) (o4_0 : Int) (o4_1 : Int) (o4_2 : Int) (o4_3 : Int) (o6_0 : Int) (o6_1 : Int) (o6_2 : Int) (o6_3 : Int) : Option (Siiii × Bool) :=
  ifE (decide (v8 < 2)) (
    ifE (v7 == 0) (
      ifE (v8 == 0) (
        rec6 v7 (W (v8 + 1)) o2_0 o2_1 o2_2 o2_3 o3_0 o3_1 o3_2 o3_3 o4_0 o4_1 o4_2 o4_3 (W ((W (o2_0 * o3_0)) + (W (o2_1 * o3_2)))) o6_1 o6_2 o6_3) (
        ifE (v8 == 1) (
          rec6 v7 (W (v8 + 1)) o2_0 o2_1 o2_2 o2_3 o3_0 o3_1 o3_2 o3_3 o4_0 o4_1 o4_2 o4_3 o6_0 (W ((W (o2_0 * o3_1)) + (W (o2_1 * o3_3)))) o6_2 o6_3) (
          none))) (
      ifE (v7 == 1) (
        ifE (v8 == 0) (
          rec6 v7 (W (v8 + 1)) o2_0 o2_1 o2_2 o2_3 o3_0 o3_1 o3_2 o3_3 o4_0 o4_1 o4_2 o4_3 o6_0 o6_1 (W ((W (o2_2 * o3_0)) + (W (o2_3 * o3_2)))) o6_3) (
          ifE (v8 == 1) (
            rec6 v7 (W (v8 + 1)) o2_0 o2_1 o2_2 o2_3 o3_0 o3_1 o3_2 o3_3 o4_0 o4_1 o4_2 o4_3 o6_0 o6_1 o6_2 (W ((W (o2_2 * o3_1)) + (W (o2_3 * o3_3))))) (
            none))) (
        none))) (
    rec3 (W (v7 + 1)) o2_0 o2_1 o2_2 o2_3 o3_0 o3_1 o3_2 o3_3 o4_0 o4_1 o4_2 o4_3 o6_0 o6_1 o6_2 o6_3)

def spec_l04Times.l6 (rec3 : Int → Int → Int → Int → Int → Int → Int → Int → Int → Int → Int → Int → Int → Int → Int → Int → Int → Option (Siiii × Bool)) : Nat → Int → Int → Int → Int → Int → Int → Int → Int → Int → Int → Int → Int → Int → Int → Int → Int → Int → Int → Option (Siiii × Bool)
  | 0 => fun _ _ _ _ _ _ _ _ _ _ _ _ _ _ _ _ _ _ => none
  | k + 1 => spec_l04Times.s6 rec3 (spec_l04Times.l6 rec3 k)

def spec_l04Times.s3 (rec3 : Int → Int → Int → Int → Int → Int → Int → Int → Int → Int → Int → Int → Int → Int → Int → Int → Int → Option (Siiii × Bool)) (v7 : Int) (o2_0 : Int) (o2_1 : Int) (o2_2 : Int) (o2_3 : Int) (o3_0 : Int) (o3_1 : Int) (o3_2 : Int) (o3_3 : Int) (o4_0 : Int) (o4_1 : Int) (o4_2 : Int) (o4_3 : Int) (o6_0 : Int) (o6_1 : Int) (o6_2 : Int) (o6_3 : Int) : Option (Siiii × Bool) :=
  ifE (decide (v7 < 2)) (
    spec_l04Times.l6 rec3 fuelN v7 0 o2_0 o2_1 o2_2 o2_3 o3_0 o3_1 o3_2 o3_3 o4_0 o4_1 o4_2 o4_3 o6_0 o6_1 o6_2 o6_3) (
    (spec_l04Reduce.f (⟨o6_0, o6_1, o6_2, o6_3⟩ : Siiii)).bind fun r1 =>
    some (r1.1, r1.2))

def spec_l04Times.l3 : Nat → Int → Int → Int → Int → Int → Int → Int → Int → Int → Int → Int → Int → Int → Int → Int → Int → Int → Option (Siiii × Bool)
  | 0 => fun _ _ _ _ _ _ _ _ _ _ _ _ _ _ _ _ _ => none
  | k + 1 => spec_l04Times.s3 (spec_l04Times.l3 k)

def spec_l04Times.f (a0 : Siiii) (a1 : Siiii) : Option (Siiii × Bool) :=
  spec_l04Times.l3 fuelN 0 a0.c0 a0.c1 a0.c2 a0.c3 a1.c0 a1.c1 a1.c2 a1.c3 0 0 0 0 0 0 0 0

def spec_MultiplyMatrices.f (a0 : Siiii) (a1 : Siiii) : Option (Siiii × Int) :=
  (spec_l04Is.f a0).bind fun r1 =>
  ifE (!r1) (
    some ((⟨0, 0, 0, 0⟩ : Siiii), 1)) (
    (spec_l04Is.f a1).bind fun r2 =>
    ifE (!r2) (
      some ((⟨0, 0, 0, 0⟩ : Siiii), 1)) (
      (spec_l04Times.f a0 a1).bind fun r3 =>
      ifE (!r3.2) (
        some ((⟨0, 0, 0, 0⟩ : Siiii), 3)) (
        some (r3.1, 0))))

def spec_IsMatrix.f (a0 : Siiii) : Option Bool :=
  (spec_l04Is.f a0).bind fun r1 =>
  some r1

def spec_DrawReduceMatrix.s6 (rec6 : Int → Int → Int → Int → Int → Int → Int → Int → Int → Int → Option Siiii) (v5 : Int) (v6 : Int) (o2_0 : Int) (o2_1 : Int) (o2_2 : Int) (o2_3 : Int) (o4_0 : Int) (o4_1 : Int) (o4_2 : Int) (o4_3 : Int) : Option Siiii :=
  ifE (decide (v6 < 4)) (
    ifE ((W (Int.tdiv v6 2)) == 0) (
      ifE ((Int.tmod v6 2) == 0) (
        rec6 v5 (W (v6 + 1)) o2_0 o2_1 o2_2 o2_3 (W (o4_0 * v5)) o4_1 o4_2 o4_3) (
        ifE ((Int.tmod v6 2) == 1) (
          rec6 v5 (W (v6 + 1)) o2_0 o2_1 o2_2 o2_3 o4_0 (W (o4_1 * v5)) o4_2 o4_3) (
          none))) (
      ifE ((W (Int.tdiv v6 2)) == 1) (
        ifE ((Int.tmod v6 2) == 0) (
          rec6 v5 (W (v6 + 1)) o2_0 o2_1 o2_2 o2_3 o4_0 o4_1 (W (o4_2 * v5)) o4_3) (
          ifE ((Int.tmod v6 2) == 1) (
            rec6 v5 (W (v6 + 1)) o2_0 o2_1 o2_2 o2_3 o4_0 o4_1 o4_2 (W (o4_3 * v5))) (
            none))) (
        none))) (
    some (⟨o4_0, o4_1, o4_2, o4_3⟩ : Siiii))

def spec_DrawReduceMatrix.l6 : Nat → Int → Int → Int → Int → Int → Int → Int → Int → Int → Int → Option Siiii
  | 0 => fun _ _ _ _ _ _ _ _ _ _ => none
  | k + 1 => spec_DrawReduceMatrix.s6 (spec_DrawReduceMatrix.l6 k)

def spec_DrawReduceMatrix.f (a0 : (List Int)) : Option Siiii :=
  (spec_l01From.f a0).bind fun r1 =>
  (spec_l04Draw.f r1).bind fun r2 =>
  (spec_l01Pick.f r2.2 [1, 1, 2, (-1), (-6)]).bind fun r3 =>
  (spec_l04Is.f r2.1).bind fun r4 =>
  ifE r4 (
    spec_DrawReduceMatrix.l6 fuelN r3.1 0 0 0 0 0 r2.1.c0 r2.1.c1 r2.1.c2 r2.1.c3) (
    some r2.1)

def impl_reduce.f (a0 : Siiii) : Option Siiii :=
  (impl_reduced.f a0).bind fun r1 =>
  some r1.1

def impl_ReduceMatrix.f (a0 : Siiii) : Option (Siiii × Int) :=
  (impl_IsMatrix.f a0).bind fun r1 =>
  ifE (!r1) (
    some ((⟨0, 0, 0, 0⟩ : Siiii), 1)) (
    (impl_reduce.f a0).bind fun r2 =>
    some (r2, 0))

def spec_ReduceMatrix.f (a0 : Siiii) : Option (Siiii × Int) :=
  (spec_l04Is.f a0).bind fun r1 =>
  ifE (!r1) (
    some ((⟨0, 0, 0, 0⟩ : Siiii), 1)) (
    (spec_l04Reduce.f a0).bind fun r2 =>
    some (r2.1, 0))

def spec_DrawInverseMatrix.f (a0 : (List Int)) : Option Siiii :=
  (spec_l01From.f a0).bind fun r1 =>
  (spec_l04Draw.f r1).bind fun r2 =>
  some r2.1

def impl_inverted.f (a0 : Siiii) : Option Siiii :=
  (impl_reduce.f (⟨a0.c3, W (0 - a0.c1), W (0 - a0.c2), a0.c0⟩ : Siiii)).bind fun r1 =>
  some r1

def impl_InverseMatrix.f (a0 : Siiii) : Option (Siiii × Int) :=
  (impl_IsMatrix.f a0).bind fun r1 =>
  ifE (!r1) (
    some ((⟨0, 0, 0, 0⟩ : Siiii), 1)) (
    (impl_inverted.f a0).bind fun r2 =>
    some (r2, 0))

def spec_l04Inverse.f (a0 : Siiii) : Option Siiii :=
  (spec_l04Reduce.f (⟨a0.c3, W (0 - a0.c1), W (0 - a0.c2), a0.c0⟩ : Siiii)).bind fun r1 =>
  some r1.1

def spec_InverseMatrix.f (a0 : Siiii) : Option (Siiii × Int) :=
  (spec_l04Is.f a0).bind fun r1 =>
  ifE (!r1) (
    some ((⟨0, 0, 0, 0⟩ : Siiii), 1)) (
    (spec_l04Inverse.f a0).bind fun r2 =>
    some (r2, 0))

def spec_DrawPowerMatrix.f (a0 : (List Int)) : Option (Siiii × Int) :=
  (spec_l01From.f a0).bind fun r1 =>
  (spec_l04Draw.f r1).bind fun r2 =>
  (spec_l01Next.f r2.2 43).bind fun r3 =>
  (spec_l01Pick.f r3.2 [0, 1, 2, 3, (-1), (-2), W (r3.1 - 21)]).bind fun r4 =>
  some (r2.1, r4.1)

def impl_one.f  : Option Siiii :=
  some (⟨1, 0, 0, 1⟩ : Siiii)

def impl_PowerMatrix.s10 (rec10 : Int → Int → Int → Int → Int → Int → Int → Int → Int → Int → Int → Int → Int → Int → Option (Siiii × Int)) (v31 : Int) (v32 : Int) (o2_0 : Int) (o2_1 : Int) (o2_2 : Int) (o2_3 : Int) (o4_0 : Int) (o4_1 : Int) (o4_2 : Int) (o4_3 : Int) (o6_0 : Int) (o6_1 : Int) (o6_2 : Int) (o6_3 : Int) : Option (Siiii × Int) :=
  ifE (decide (v32 < v31)) (
    (impl_product.f (⟨o6_0, o6_1, o6_2, o6_3⟩ : Siiii) (⟨o2_0, o2_1, o2_2, o2_3⟩ : Siiii)).bind fun r6 =>
    ifE (!r6.2) (
      some ((⟨0, 0, 0, 0⟩ : Siiii), 3)) (
      rec10 v31 (W (v32 + 1)) o2_0 o2_1 o2_2 o2_3 o4_0 o4_1 o4_2 o4_3 r6.1.c0 r6.1.c1 r6.1.c2 r6.1.c3)) (
    some ((⟨o6_0, o6_1, o6_2, o6_3⟩ : Siiii), 0))

def impl_PowerMatrix.l10 : Nat → Int → Int → Int → Int → Int → Int → Int → Int → Int → Int → Int → Int → Int → Int → Option (Siiii × Int)
  | 0 => fun _ _ _ _ _ _ _ _ _ _ _ _ _ _ => none
  | k + 1 => impl_PowerMatrix.s10 (impl_PowerMatrix.l10 k)

def impl_PowerMatrix.f (a0 : Siiii) (a1 : Int) : Option (Siiii × Int) :=
  (impl_IsMatrix.f a0).bind fun r1 =>
  ifE (!r1) (
    some ((⟨0, 0, 0, 0⟩ : Siiii), 1)) (
    ifE (decide (a1 < (-20))) (
      some ((⟨0, 0, 0, 0⟩ : Siiii), 2)) (
      ifE (decide (a1 > 20)) (
        some ((⟨0, 0, 0, 0⟩ : Siiii), 2)) (
        (impl_reduce.f a0).bind fun r2 =>
        ifE (decide (a1 < 0)) (
          (impl_inverted.f r2).bind fun r3 =>
          (impl_one.f).bind fun r4 =>
          impl_PowerMatrix.l10 fuelN (W (0 - a1)) 0 r3.c0 r3.c1 r3.c2 r3.c3 0 0 0 0 r4.c0 r4.c1 r4.c2 r4.c3) (
          (impl_one.f).bind fun r5 =>
          impl_PowerMatrix.l10 fuelN a1 0 r2.c0 r2.c1 r2.c2 r2.c3 0 0 0 0 r5.c0 r5.c1 r5.c2 r5.c3))))

def spec_PowerMatrix.s9 (rec9 : Int → Int → Int → Int → Int → Int → Int → Int → Int → Int → Int → Int → Int → Option (Siiii × Int)) (v1 : Int) (o2_0 : Int) (o2_1 : Int) (o2_2 : Int) (o2_3 : Int) (o4_0 : Int) (o4_1 : Int) (o4_2 : Int) (o4_3 : Int) (o6_0 : Int) (o6_1 : Int) (o6_2 : Int) (o6_3 : Int) : Option (Siiii × Int) :=
  ifE (decide (v1 > 0)) (
    (spec_l04Times.f (⟨o6_0, o6_1, o6_2, o6_3⟩ : Siiii) (⟨o2_0, o2_1, o2_2, o2_3⟩ : Siiii)).bind fun r4 =>
    ifE (!r4.2) (
      some ((⟨0, 0, 0, 0⟩ : Siiii), 3)) (
      rec9 (W (v1 - 1)) o2_0 o2_1 o2_2 o2_3 o4_0 o4_1 o4_2 o4_3 r4.1.c0 r4.1.c1 r4.1.c2 r4.1.c3)) (
    some ((⟨o6_0, o6_1, o6_2, o6_3⟩ : Siiii), 0))

def spec_PowerMatrix.l9 : Nat → Int → Int → Int → Int → Int → Int → Int → Int → Int → Int → Int → Int → Int → Option (Siiii × Int)
  | 0 => fun _ _ _ _ _ _ _ _ _ _ _ _ _ => none
  | k + 1 => spec_PowerMatrix.s9 (spec_PowerMatrix.l9 k)

def spec_PowerMatrix.f (a0 : Siiii) (a1 : Int) : Option (Siiii × Int) :=
  (spec_l04Is.f a0).bind fun r1 =>
  ifE (!r1) (
    some ((⟨0, 0, 0, 0⟩ : Siiii), 1)) (
    (spec_l01In.f a1 (-20) 20).bind fun r2 =>
    ifE (!r2) (
      some ((⟨0, 0, 0, 0⟩ : Siiii), 2)) (
      ifE (decide (a1 < 0)) (
        (spec_l04Inverse.f a0).bind fun r3 =>
        spec_PowerMatrix.l9 fuelN (W (0 - a1)) r3.c0 r3.c1 r3.c2 r3.c3 0 0 0 0 1 0 0 1) (
        spec_PowerMatrix.l9 fuelN a1 a0.c0 a0.c1 a0.c2 a0.c3 0 0 0 0 1 0 0 1)))

def spec_DrawAreSameMatrices.f (a0 : (List Int)) : Option (Siiii × Siiii) :=
  (spec_l01From.f a0).bind fun r1 =>
  (spec_DrawReduceMatrix.f a0).bind fun r2 =>
  (spec_l01Next.f r1 2).bind fun r3 =>
  ifE (r3.1 == 0) (
    (spec_l04Is.f r2).bind fun r4 =>
    ifE r4 (
      (spec_l04Reduce.f r2).bind fun r5 =>
      some (r2, r5.1)) (
      (spec_l04Draw.f r3.2).bind fun r6 =>
      some (r2, r6.1))) (
    (spec_l04Draw.f r3.2).bind fun r7 =>
    some (r2, r7.1))

def impl_AreSameMatrices.f (a0 : Siiii) (a1 : Siiii) : Option (Bool × Int) :=
  (impl_areMatrices.f [a0, a1]).bind fun r1 =>
  ifE (!r1) (
    some (false, 1)) (
    (impl_reduce.f a0).bind fun r2 =>
    (impl_reduce.f a1).bind fun r3 =>
    some ((((r2.c0 == r3.c0) && ((r2.c1 == r3.c1) && true)) && (((r2.c2 == r3.c2) && ((r2.c3 == r3.c3) && true)) && true)), 0))

def spec_AreSameMatrices.f (a0 : Siiii) (a1 : Siiii) : Option (Bool × Int) :=
  (spec_l04Is.f a0).bind fun r1 =>
  ifE (!r1) (
    some (false, 1)) (
    (spec_l04Is.f a1).bind fun r2 =>
    ifE (!r2) (
      some (false, 1)) (
      (spec_l04Reduce.f a0).bind fun r3 =>
      (spec_l04Reduce.f a1).bind fun r4 =>
      some ((((r3.1.c0 == r4.1.c0) && ((r3.1.c1 == r4.1.c1) && true)) && (((r3.1.c2 == r4.1.c2) && ((r3.1.c3 == r4.1.c3) && true)) && true)), 0)))

def laws_FnMatrices.j43 (v6 : Int) (o3_0 : Int) (o3_1 : Int) (o3_2 : Int) (o3_3 : Int) (o4_0 : Int) (o4_1 : Int) (o4_2 : Int) (o4_3 : Int) (o5_0 : Int) (o5_1 : Int) (o5_2 : Int) (o5_3 : Int) : Option Bool :=
  ifE (v6 != 0) (
    some (((o5_0 == 0) && ((o5_1 == 0) && true)) && (((o5_2 == 0) && ((o5_3 == 0) && true)) && true))) (
    (impl_MultiplyMatrices.f (⟨o5_0, o5_1, o5_2, o5_3⟩ : Siiii) (⟨o3_0, o3_1, o3_2, o3_3⟩ : Siiii)).bind fun r26 =>
    (impl_MultiplyMatrices.f (⟨o4_0, o4_1, o4_2, o4_3⟩ : Siiii) (⟨o3_0, o3_1, o3_2, o3_3⟩ : Siiii)).bind fun r27 =>
    (impl_MultiplyMatrices.f (⟨o3_0, o3_1, o3_2, o3_3⟩ : Siiii) r27.1).bind fun r28 =>
    ifE (r26.2 != 0) (
      some true) (
      ifE (r27.2 != 0) (
        some true) (
        ifE (r28.2 != 0) (
          some true) (
          some (((r26.1.c0 == r28.1.c0) && ((r26.1.c1 == r28.1.c1) && true)) && (((r26.1.c2 == r28.1.c2) && ((r26.1.c3 == r28.1.c3) && true)) && true))))))

def laws_FnMatrices.j38 (v6 : Int) (v20 : Int) (v22 : Int) (o3_0 : Int) (o3_1 : Int) (o3_2 : Int) (o3_3 : Int) (o4_0 : Int) (o4_1 : Int) (o4_2 : Int) (o4_3 : Int) (o5_0 : Int) (o5_1 : Int) (o5_2 : Int) (o5_3 : Int) (o19_0 : Int) (o19_1 : Int) (o19_2 : Int) (o19_3 : Int) (o21_0 : Int) (o21_1 : Int) (o21_2 : Int) (o21_3 : Int) : Option Bool :=
  ifE (v22 == 0) (
    ifE (decide (v20 < 20)) (
      (impl_PowerMatrix.f (⟨o19_0, o19_1, o19_2, o19_3⟩ : Siiii) (W (v20 + 1))).bind fun r24 =>
      (impl_MultiplyMatrices.f (⟨o21_0, o21_1, o21_2, o21_3⟩ : Siiii) (⟨o19_0, o19_1, o19_2, o19_3⟩ : Siiii)).bind fun r25 =>
      ifE (r24.2 == 0) (
        ifE (r25.2 == 0) (
          ifE (!(((r24.1.c0 == r25.1.c0) && ((r24.1.c1 == r25.1.c1) && true)) && (((r24.1.c2 == r25.1.c2) && ((r24.1.c3 == r25.1.c3) && true)) && true))) (
            some false) (
            laws_FnMatrices.j43 v6 o3_0 o3_1 o3_2 o3_3 o4_0 o4_1 o4_2 o4_3 o5_0 o5_1 o5_2 o5_3)) (
          laws_FnMatrices.j43 v6 o3_0 o3_1 o3_2 o3_3 o4_0 o4_1 o4_2 o4_3 o5_0 o5_1 o5_2 o5_3)) (
        laws_FnMatrices.j43 v6 o3_0 o3_1 o3_2 o3_3 o4_0 o4_1 o4_2 o4_3 o5_0 o5_1 o5_2 o5_3)) (
      laws_FnMatrices.j43 v6 o3_0 o3_1 o3_2 o3_3 o4_0 o4_1 o4_2 o4_3 o5_0 o5_1 o5_2 o5_3)) (
    laws_FnMatrices.j43 v6 o3_0 o3_1 o3_2 o3_3 o4_0 o4_1 o4_2 o4_3 o5_0 o5_1 o5_2 o5_3)

def laws_FnMatrices.j32 (v6 : Int) (v16 : Int) (v20 : Int) (v22 : Int) (o3_0 : Int) (o3_1 : Int) (o3_2 : Int) (o3_3 : Int) (o4_0 : Int) (o4_1 : Int) (o4_2 : Int) (o4_3 : Int) (o5_0 : Int) (o5_1 : Int) (o5_2 : Int) (o5_3 : Int) (o14_0 : Int) (o14_1 : Int) (o14_2 : Int) (o14_3 : Int) (o15_0 : Int) (o15_1 : Int) (o15_2 : Int) (o15_3 : Int) (o19_0 : Int) (o19_1 : Int) (o19_2 : Int) (o19_3 : Int) (o21_0 : Int) (o21_1 : Int) (o21_2 : Int) (o21_3 : Int) : Option Bool :=
  ifE (v16 == 0) (
    (impl_MultiplyMatrices.f (⟨o14_0, o14_1, o14_2, o14_3⟩ : Siiii) (⟨o15_0, o15_1, o15_2, o15_3⟩ : Siiii)).bind fun r21 =>
    (impl_InverseMatrix.f (⟨o15_0, o15_1, o15_2, o15_3⟩ : Siiii)).bind fun r22 =>
    (impl_ReduceMatrix.f (⟨o14_0, o14_1, o14_2, o14_3⟩ : Siiii)).bind fun r23 =>
    ifE (r21.2 != 0) (
      some false) (
      ifE (!(((r21.1.c0 == 1) && ((r21.1.c1 == 0) && true)) && (((r21.1.c2 == 0) && ((r21.1.c3 == 1) && true)) && true))) (
        some false) (
        ifE (r22.2 != 0) (
          some false) (
          ifE (r23.2 != 0) (
            some false) (
            ifE (!(((r22.1.c0 == r23.1.c0) && ((r22.1.c1 == r23.1.c1) && true)) && (((r22.1.c2 == r23.1.c2) && ((r22.1.c3 == r23.1.c3) && true)) && true))) (
              some false) (
              laws_FnMatrices.j38 v6 v20 v22 o3_0 o3_1 o3_2 o3_3 o4_0 o4_1 o4_2 o4_3 o5_0 o5_1 o5_2 o5_3 o19_0 o19_1 o19_2 o19_3 o21_0 o21_1 o21_2 o21_3)))))) (
    laws_FnMatrices.j38 v6 v20 v22 o3_0 o3_1 o3_2 o3_3 o4_0 o4_1 o4_2 o4_3 o5_0 o5_1 o5_2 o5_3 o19_0 o19_1 o19_2 o19_3 o21_0 o21_1 o21_2 o21_3)

def laws_FnMatrices.f (a0 : (List Int)) : Option Bool :=
  (laws_big.f a0).bind fun r1 =>
  ifE r1 (
    some true) (
    (spec_DrawMultiplyMatrices.f a0).bind fun r2 =>
    (impl_MultiplyMatrices.f r2.1 r2.2).bind fun r3 =>
    (spec_MultiplyMatrices.f r2.1 r2.2).bind fun r4 =>
    ifE (r3.2 != r4.2) (
      some false) (
      ifE (!(((r3.1.c0 == r4.1.c0) && ((r3.1.c1 == r4.1.c1) && true)) && (((r3.1.c2 == r4.1.c2) && ((r3.1.c3 == r4.1.c3) && true)) && true))) (
        some false) (
        (impl_IsMatrix.f r2.1).bind fun r5 =>
        (spec_IsMatrix.f r2.1).bind fun r6 =>
        ifE (!(r5 == r6)) (
          some false) (
          (spec_DrawReduceMatrix.f a0).bind fun r7 =>
          (impl_ReduceMatrix.f r7).bind fun r8 =>
          (spec_ReduceMatrix.f r7).bind fun r9 =>
          ifE (r8.2 != r9.2) (
            some false) (
            ifE (!(((r8.1.c0 == r9.1.c0) && ((r8.1.c1 == r9.1.c1) && true)) && (((r8.1.c2 == r9.1.c2) && ((r8.1.c3 == r9.1.c3) && true)) && true))) (
              some false) (
              (spec_DrawInverseMatrix.f a0).bind fun r10 =>
              (impl_InverseMatrix.f r10).bind fun r11 =>
              (spec_InverseMatrix.f r10).bind fun r12 =>
              ifE (r11.2 != r12.2) (
                some false) (
                ifE (!(((r11.1.c0 == r12.1.c0) && ((r11.1.c1 == r12.1.c1) && true)) && (((r11.1.c2 == r12.1.c2) && ((r11.1.c3 == r12.1.c3) && true)) && true))) (
                  some false) (
                  (spec_DrawPowerMatrix.f a0).bind fun r13 =>
                  (impl_PowerMatrix.f r13.1 r13.2).bind fun r14 =>
                  (spec_PowerMatrix.f r13.1 r13.2).bind fun r15 =>
                  ifE (r14.2 != r15.2) (
                    some false) (
                    ifE (!(((r14.1.c0 == r15.1.c0) && ((r14.1.c1 == r15.1.c1) && true)) && (((r14.1.c2 == r15.1.c2) && ((r14.1.c3 == r15.1.c3) && true)) && true))) (
                      some false) (
                      (spec_DrawAreSameMatrices.f a0).bind fun r16 =>
                      (impl_AreSameMatrices.f r16.1 r16.2).bind fun r17 =>
                      (spec_AreSameMatrices.f r16.1 r16.2).bind fun r18 =>
                      ifE (r17.2 != r18.2) (
                        some false) (
                        ifE (!(r17.1 == r18.1)) (
                          some false) (
                          ifE (r8.2 == 0) (
                            (impl_AreSameMatrices.f r7 r8.1).bind fun r19 =>
                            ifE (r19.2 != 0) (
                              some false) (
                              ifE (!r19.1) (
                                some false) (
                                (impl_IsMatrix.f r8.1).bind fun r20 =>
                                ifE (!r20) (
                                  some false) (
                                  laws_FnMatrices.j32 r3.2 r11.2 r13.2 r14.2 r2.1.c0 r2.1.c1 r2.1.c2 r2.1.c3 r2.2.c0 r2.2.c1 r2.2.c2 r2.2.c3 r3.1.c0 r3.1.c1 r3.1.c2 r3.1.c3 r10.c0 r10.c1 r10.c2 r10.c3 r11.1.c0 r11.1.c1 r11.1.c2 r11.1.c3 r13.1.c0 r13.1.c1 r13.1.c2 r13.1.c3 r14.1.c0 r14.1.c1 r14.1.c2 r14.1.c3)))) (
                            laws_FnMatrices.j32 r3.2 r11.2 r13.2 r14.2 r2.1.c0 r2.1.c1 r2.1.c2 r2.1.c3 r2.2.c0 r2.2.c1 r2.2.c2 r2.2.c3 r3.1.c0 r3.1.c1 r3.1.c2 r3.1.c3 r10.c0 r10.c1 r10.c2 r10.c3 r11.1.c0 r11.1.c1 r11.1.c2 r11.1.c3 r13.1.c0 r13.1.c1 r13.1.c2 r13.1.c3 r14.1.c0 r14.1.c1 r14.1.c2 r14.1.c3)))))))))))))

end Go.GenTry
