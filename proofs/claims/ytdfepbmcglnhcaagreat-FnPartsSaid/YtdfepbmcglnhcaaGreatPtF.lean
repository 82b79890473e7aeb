import Derived.Test.YtdfepbmcglnhcaaGreatPtEC
section
set_option linter.unusedVariables false
set_option maxRecDepth 100000
open Go Go.Eng
namespace Go.Gn
structure SLu8eiu64 where
  c0 : (List Int)
  c1 : Int
  c2 : Int
  deriving DecidableEq, Inhabited

def SLu8eiu64.cells (x : SLu8eiu64) : List DV := [R true 1 (cK .u8) x.c0, I x.c1, K .u64 x.c2]

structure Siiii where
  c0 : Int
  c1 : Int
  c2 : Int
  c3 : Int
  deriving DecidableEq, Inhabited

def Siiii.cells (x : Siiii) : List DV := [I x.c0, I x.c1, I x.c2, I x.c3]

def laws_big.f (a0 : (List Int)) : Option Bool :=
  some (decide ((a0.length : Int) > 4096))

def impl_within.s2 (rec2 : Int → (List Int) → Int → Int → Option Bool) (v0 : Int) (v7 : (List Int)) (v8 : Int) (v9 : Int) : Option Bool :=
  ifE (decide (v9 < v8)) (
    (getE v7 v9).bind fun e1 =>
    ifE (decide (e1 < (W (0 - v0)))) (
      some false) (
      ifE (decide (e1 > v0)) (
        some false) (
        rec2 v0 v7 v8 (W (v9 + 1))))) (
    some true)

def impl_within.l2 : Nat → Int → (List Int) → Int → Int → Option Bool
  | 0 => fun _ _ _ _ => none
  | k + 1 => impl_within.s2 (impl_within.l2 k)

def impl_within.f (a0 : Int) (a1 : (List Int)) : Option Bool :=
  impl_within.l2 fuelN a0 a1 (a1.length : Int) 0

def impl_determinant.f (a0 : Siiii) : Option Int :=
  some (W ((W (a0.c0 * a0.c3)) - (W (a0.c1 * a0.c2))))

def impl_IsMatrix.f (a0 : Siiii) : Option Bool :=
  (impl_within.f 1000 [a0.c0, a0.c1, a0.c2, a0.c3]).bind fun r1 =>
  ifE r1 (
    (impl_determinant.f a0).bind fun r2 =>
    some (r2 != 0)) (
    some false)

def impl_areMatrices.s2 (rec2 : (List Siiii) → Int → Int → Option Bool) (v5 : (List Siiii)) (v6 : Int) (v7 : Int) : Option Bool :=
  ifE (decide (v7 < v6)) (
    (getE v5 v7).bind fun e1 =>
    (impl_IsMatrix.f e1).bind fun r2 =>
    ifE (!r2) (
      some false) (
      rec2 v5 v6 (W (v7 + 1)))) (
    some true)

def impl_areMatrices.l2 : Nat → (List Siiii) → Int → Int → Option Bool
  | 0 => fun _ _ _ => none
  | k + 1 => impl_areMatrices.s2 (impl_areMatrices.l2 k)

def impl_areMatrices.f (a0 : (List Siiii)) : Option Bool :=
  impl_areMatrices.l2 fuelN a0 (a0.length : Int) 0

def impl_fittedMatrix.f (a0 : Siiii) (a1 : Bool) : Option (Siiii × Int) :=
  ifE (!a1) (
    some ((⟨0, 0, 0, 0⟩ : Siiii), 3)) (
    some (a0, 0))

def impl_gcd.s1 (rec1 : Int → Int → Option Int) (v0 : Int) (v1 : Int) : Option Int :=
  ifE (v1 != 0) (
    guardE (v1 ≠ 0) <|
    rec1 v1 (Int.tmod v0 v1)) (
    some (imax v0 (W (0 - v0))))

def impl_gcd.l1 : Nat → Int → Int → Option Int
  | 0 => fun _ _ => none
  | k + 1 => impl_gcd.s1 (impl_gcd.l1 k)

def impl_gcd.f (a0 : Int) (a1 : Int) : Option Int :=
  impl_gcd.l1 fuelN a0 a1

def impl_reduced.f (a0 : Siiii) : Option (Siiii × Bool) :=
  (impl_gcd.f a0.c0 a0.c1).bind fun r1 =>
  (impl_gcd.f a0.c2 a0.c3).bind fun r2 =>
  (impl_gcd.f r1 r2).bind fun r3 =>
  ifE (decide (a0.c0 < 0)) (
    guardE ((W (0 - r3)) ≠ 0) <|
    guardE ((W (0 - r3)) ≠ 0) <|
    guardE ((W (0 - r3)) ≠ 0) <|
    guardE ((W (0 - r3)) ≠ 0) <|
    (impl_IsMatrix.f (⟨W (Int.tdiv a0.c0 (W (0 - r3))), W (Int.tdiv a0.c1 (W (0 - r3))), W (Int.tdiv a0.c2 (W (0 - r3))), W (Int.tdiv a0.c3 (W (0 - r3)))⟩ : Siiii)).bind fun r4 =>
    some ((⟨W (Int.tdiv a0.c0 (W (0 - r3))), W (Int.tdiv a0.c1 (W (0 - r3))), W (Int.tdiv a0.c2 (W (0 - r3))), W (Int.tdiv a0.c3 (W (0 - r3)))⟩ : Siiii), r4)) (
    ifE (a0.c0 == 0) (
      ifE (decide (a0.c1 < 0)) (
        guardE ((W (0 - r3)) ≠ 0) <|
        guardE ((W (0 - r3)) ≠ 0) <|
        guardE ((W (0 - r3)) ≠ 0) <|
        guardE ((W (0 - r3)) ≠ 0) <|
        (impl_IsMatrix.f (⟨W (Int.tdiv a0.c0 (W (0 - r3))), W (Int.tdiv a0.c1 (W (0 - r3))), W (Int.tdiv a0.c2 (W (0 - r3))), W (Int.tdiv a0.c3 (W (0 - r3)))⟩ : Siiii)).bind fun r5 =>
        some ((⟨W (Int.tdiv a0.c0 (W (0 - r3))), W (Int.tdiv a0.c1 (W (0 - r3))), W (Int.tdiv a0.c2 (W (0 - r3))), W (Int.tdiv a0.c3 (W (0 - r3)))⟩ : Siiii), r5)) (
        guardE (r3 ≠ 0) <|
        guardE (r3 ≠ 0) <|
        guardE (r3 ≠ 0) <|
        guardE (r3 ≠ 0) <|
        (impl_IsMatrix.f (⟨W (Int.tdiv a0.c0 r3), W (Int.tdiv a0.c1 r3), W (Int.tdiv a0.c2 r3), W (Int.tdiv a0.c3 r3)⟩ : Siiii)).bind fun r6 =>
        some ((⟨W (Int.tdiv a0.c0 r3), W (Int.tdiv a0.c1 r3), W (Int.tdiv a0.c2 r3), W (Int.tdiv a0.c3 r3)⟩ : Siiii), r6))) (
      guardE (r3 ≠ 0) <|
      guardE (r3 ≠ 0) <|
      guardE (r3 ≠ 0) <|
      guardE (r3 ≠ 0) <|
      (impl_IsMatrix.f (⟨W (Int.tdiv a0.c0 r3), W (Int.tdiv a0.c1 r3), W (Int.tdiv a0.c2 r3), W (Int.tdiv a0.c3 r3)⟩ : Siiii)).bind fun r7 =>
      some ((⟨W (Int.tdiv a0.c0 r3), W (Int.tdiv a0.c1 r3), W (Int.tdiv a0.c2 r3), W (Int.tdiv a0.c3 r3)⟩ : Siiii), r7)))

def impl_product.f (a0 : Siiii) (a1 : Siiii) : Option (Siiii × Bool) :=
  (impl_reduced.f (⟨W ((W (a0.c0 * a1.c0)) + (W (a0.c1 * a1.c2))), W ((W (a0.c0 * a1.c1)) + (W (a0.c1 * a1.c3))), W ((W (a0.c2 * a1.c0)) + (W (a0.c3 * a1.c2))), W ((W (a0.c2 * a1.c1)) + (W (a0.c3 * a1.c3)))⟩ : Siiii)).bind fun r1 =>
  some (r1.1, r1.2)

def impl_MultiplyMatrices.f (a0 : Siiii) (a1 : Siiii) : Option (Siiii × Int) :=
  (impl_areMatrices.f [a0, a1]).bind fun r1 =>
  ifE (!r1) (
    some ((⟨0, 0, 0, 0⟩ : Siiii), 1)) (
    (impl_product.f a0 a1).bind fun r2 =>
    (impl_fittedMatrix.f r2.1 r2.2).bind fun r3 =>
    some (r3.1, r3.2))

def spec_l01In.f (a0 : Int) (a1 : Int) (a2 : Int) : Option Bool :=
  ifE (decide (a0 ≥ a1)) (
    some (decide (a0 ≤ a2))) (
    some false)

def spec_l04Det.f (a0 : Siiii) : Option Int :=
  some (W ((W (a0.c0 * a0.c3)) - (W (a0.c1 * a0.c2))))

def spec_l04Is.s5 (rec2 : Int → Int → Int → Int → Int → Option Bool) (rec5 : Int → Int → Int → Int → Int → Int → Option Bool) (v3 : Int) (v4 : Int) (o1_0 : Int) (o1_1 : Int) (o1_2 : Int) (o1_3 : Int) : Option Bool :=
  ifE (decide (v4 < 2)) (
    ifE (v3 == 0) (
      ifE (v4 == 0) (
        (spec_l01In.f o1_0 (-1000) 1000).bind fun r2 =>
        ifE (!r2) (
          some false) (
          rec5 v3 (W (v4 + 1)) o1_0 o1_1 o1_2 o1_3)) (
        ifE (v4 == 1) (
          (spec_l01In.f o1_1 (-1000) 1000).bind fun r3 =>
          ifE (!r3) (
            some false) (
            rec5 v3 (W (v4 + 1)) o1_0 o1_1 o1_2 o1_3)) (
          none))) (
      ifE (v3 == 1) (
        ifE (v4 == 0) (
          (spec_l01In.f o1_2 (-1000) 1000).bind fun r4 =>
          ifE (!r4) (
            some false) (
            rec5 v3 (W (v4 + 1)) o1_0 o1_1 o1_2 o1_3)) (
          ifE (v4 == 1) (
            (spec_l01In.f o1_3 (-1000) 1000).bind fun r5 =>
            ifE (!r5) (
              some false) (
              rec5 v3 (W (v4 + 1)) o1_0 o1_1 o1_2 o1_3)) (
            none))) (
        none))) (
    rec2 (W (v3 + 1)) o1_0 o1_1 o1_2 o1_3)

def spec_l04Is.l5 (rec2 : Int → Int → Int → Int → Int → Option Bool) : Nat → Int → Int → Int → Int → Int → Int → Option Bool
  | 0 => fun _ _ _ _ _ _ => none
  | k + 1 => spec_l04Is.s5 rec2 (spec_l04Is.l5 rec2 k)

def spec_l04Is.s2 (rec2 : Int → Int → Int → Int → Int → Option Bool) (v3 : Int) (o1_0 : Int) (o1_1 : Int) (o1_2 : Int) (o1_3 : Int) : Option Bool :=
  ifE (decide (v3 < 2)) (
    spec_l04Is.l5 rec2 fuelN v3 0 o1_0 o1_1 o1_2 o1_3) (
    (spec_l04Det.f (⟨o1_0, o1_1, o1_2, o1_3⟩ : Siiii)).bind fun r1 =>
    some (r1 != 0))

def spec_l04Is.l2 : Nat → Int → Int → Int → Int → Int → Option Bool
  | 0 => fun _ _ _ _ _ => none
  | k + 1 => spec_l04Is.s2 (spec_l04Is.l2 k)

def spec_l04Is.f (a0 : Siiii) : Option Bool :=
  spec_l04Is.l2 fuelN 0 a0.c0 a0.c1 a0.c2 a0.c3

def spec_l01Gcd.s1 (rec1 : Int → Int → Option Int) (v0 : Int) (v1 : Int) : Option Int :=
  ifE (v1 != 0) (
    guardE (v1 ≠ 0) <|
    rec1 v1 (Int.tmod v0 v1)) (
    some (imax v0 (W (0 - v0))))

def spec_l01Gcd.l1 : Nat → Int → Int → Option Int
  | 0 => fun _ _ => none
  | k + 1 => spec_l01Gcd.s1 (spec_l01Gcd.l1 k)

def spec_l01Gcd.f (a0 : Int) (a1 : Int) : Option Int :=
  spec_l01Gcd.l1 fuelN a0 a1

def spec_l04Reduce.s12 (rec12 : Int → Int → Bool → Int → Int → Int → Int → Int → (List Int) → Option (Siiii × Bool)) (v5 : Int) (v6 : Int) (v8 : Bool) (v9 : Int) (o2_0 : Int) (o2_1 : Int) (o2_2 : Int) (o2_3 : Int) (o1004 : (List Int)) : Option (Siiii × Bool) :=
  ifE (decide (v9 < 4)) (
    (getE o1004 v9).bind fun e8 =>
    guardE (v5 ≠ 0) <|
    (getE o1004 v9).bind fun e9 =>
    ifE v8 (
      (getE (o1004.set (Int.toNat v9) (W ((W (Int.tdiv e8 v5)) * v6))) v9).bind fun e10 =>
      (spec_l01In.f e10 (-1000) 1000).bind fun r11 =>
      rec12 v5 v6 r11 (W (v9 + 1)) o2_0 o2_1 o2_2 o2_3 (o1004.set (Int.toNat v9) (W ((W (Int.tdiv e8 v5)) * v6)))) (
      rec12 v5 v6 false (W (v9 + 1)) o2_0 o2_1 o2_2 o2_3 (o1004.set (Int.toNat v9) (W ((W (Int.tdiv e8 v5)) * v6))))) (
    (getE o1004 0).bind fun e12 =>
    (getE o1004 1).bind fun e13 =>
    (getE o1004 2).bind fun e14 =>
    (getE o1004 3).bind fun e15 =>
    some ((⟨e12, e13, e14, e15⟩ : Siiii), v8))

def spec_l04Reduce.l12 : Nat → Int → Int → Bool → Int → Int → Int → Int → Int → (List Int) → Option (Siiii × Bool)
  | 0 => fun _ _ _ _ _ _ _ _ _ => none
  | k + 1 => spec_l04Reduce.s12 (spec_l04Reduce.l12 k)

def spec_l04Reduce.s4 (rec4 : Int → Int → Int → Int → Int → Int → Int → (List Int) → Option (Siiii × Bool)) (v5 : Int) (v6 : Int) (v7 : Int) (o2_0 : Int) (o2_1 : Int) (o2_2 : Int) (o2_3 : Int) (o1004 : (List Int)) : Option (Siiii × Bool) :=
  ifE (decide (v7 < 4)) (
    (getE o1004 v7).bind fun e1 =>
    (getE o1004 v7).bind fun e2 =>
    (spec_l01Gcd.f v5 (imax e1 (W (0 - e2)))).bind fun r3 =>
    ifE (v6 == 0) (
      (getE o1004 v7).bind fun e4 =>
      ifE (e4 != 0) (
        (getE o1004 v7).bind fun e5 =>
        (getE o1004 v7).bind fun e6 =>
        (getE o1004 v7).bind fun e7 =>
        guardE ((imax e6 (W (0 - e7))) ≠ 0) <|
        rec4 r3 (W (Int.tdiv e5 (imax e6 (W (0 - e7))))) (W (v7 + 1)) o2_0 o2_1 o2_2 o2_3 o1004) (
        rec4 r3 v6 (W (v7 + 1)) o2_0 o2_1 o2_2 o2_3 o1004)) (
      rec4 r3 v6 (W (v7 + 1)) o2_0 o2_1 o2_2 o2_3 o1004)) (
    spec_l04Reduce.l12 fuelN (imax v5 (W (0 - v5))) v6 true 0 o2_0 o2_1 o2_2 o2_3 o1004)

def spec_l04Reduce.l4 : Nat → Int → Int → Int → Int → Int → Int → Int → (List Int) → Option (Siiii × Bool)
  | 0 => fun _ _ _ _ _ _ _ _ => none
  | k + 1 => spec_l04Reduce.s4 (spec_l04Reduce.l4 k)

def spec_l04Reduce.f (a0 : Siiii) : Option (Siiii × Bool) :=
  spec_l04Reduce.l4 fuelN 0 0 0 0 0 0 0 [a0.c0, a0.c1, a0.c2, a0.c3]

def spec_l04Times.s6 (rec3 : Int → Int → Int → Int → Int → Int → Int → Int → Int → Int → Int → Int → Int → Int → Int → Int → Int → Option (Siiii × Bool)) (rec6 : Int → Int → Int → Int → Int → Int → Int → Int → Int → Int → Int → Int → Int → Int → Int → Int → Int → Int → Option (Siiii × Bool)) (v7 : Int) (v8 : Int) (o2_0 : Int) (o2_1 : Int) (o2_2 : Int) (o2_3 : Int) (o3_0 : Int) (o3_1 : Int) (o3_2 : Int) (o3_3 : Int) (o4_0 : Int) (o4_1 : Int) (o4_2 : Int) (o4_3 : Int) (o6_0 : Int) (o6_1 : Int) (o6_2 : Int) (o6_3 : Int) : Option (Siiii × Bool) :=
  ifE (decide (v8 < 2)) (
    ifE (v7 == 0) (
      ifE (v8 == 0) (
        rec6 v7 (W (v8 + 1)) o2_0 o2_1 o2_2 o2_3 o3_0 o3_1 o3_2 o3_3 o4_0 o4_1 o4_2 o4_3 (W ((W (o2_0 * o3_0)) + (W (o2_1 * o3_2)))) o6_1 o6_2 o6_3) (
        ifE (v8 == 1) (
          rec6 v7 (W (v8 + 1)) o2_0 o2_1 o2_2 o2_3 o3_0 o3_1 o3_2 o3_3 o4_0 o4_1 o4_2 o4_3 o6_0 (W ((W (o2_0 * o3_1)) + (W (o2_1 * o3_3)))) o6_2 o6_3) (
          none))) (
      ifE (v7 == 1) (
        ifE (v8 == 0) (
          rec6 v7 (W (v8 + 1)) o2_0 o2_1 o2_2 o2_3 o3_0 o3_1 o3_2 o3_3 o4_0 o4_1 o4_2 o4_3 o6_0 o6_1 (W ((W (o2_2 * o3_0)) + (W (o2_3 * o3_2)))) o6_3) (
          ifE (v8 == 1) (
            rec6 v7 (W (v8 + 1)) o2_0 o2_1 o2_2 o2_3 o3_0 o3_1 o3_2 o3_3 o4_0 o4_1 o4_2 o4_3 o6_0 o6_1 o6_2 (W ((W (o2_2 * o3_1)) + (W (o2_3 * o3_3))))) (
            none))) (
        none))) (
    rec3 (W (v7 + 1)) o2_0 o2_1 o2_2 o2_3 o3_0 o3_1 o3_2 o3_3 o4_0 o4_1 o4_2 o4_3 o6_0 o6_1 o6_2 o6_3)

def spec_l04Times.l6 (rec3 : Int → Int → Int → Int → Int → Int → Int → Int → Int → Int → Int → Int → Int → Int → Int → Int → Int → Option (Siiii × Bool)) : Nat → Int → Int → Int → Int → Int → Int → Int → Int → Int → Int → Int → Int → Int → Int → Int → Int → Int → Int → Option (Siiii × Bool)
  | 0 => fun _ _ _ _ _ _ _ _ _ _ _ _ _ _ _ _ _ _ => none
  | k + 1 => spec_l04Times.s6 rec3 (spec_l04Times.l6 rec3 k)

def spec_l04Times.s3 (rec3 : Int → Int → Int → Int → Int → Int → Int → Int → Int → Int → Int → Int → Int → Int → Int → Int → Int → Option (Siiii × Bool)) (v7 : Int) (o2_0 : Int) (o2_1 : Int) (o2_2 : Int) (o2_3 : Int) (o3_0 : Int) (o3_1 : Int) (o3_2 : Int) (o3_3 : Int) (o4_0 : Int) (o4_1 : Int) (o4_2 : Int) (o4_3 : Int) (o6_0 : Int) (o6_1 : Int) (o6_2 : Int) (o6_3 : Int) : Option (Siiii × Bool) :=
  ifE (decide (v7 < 2)) (
    spec_l04Times.l6 rec3 fuelN v7 0 o2_0 o2_1 o2_2 o2_3 o3_0 o3_1 o3_2 o3_3 o4_0 o4_1 o4_2 o4_3 o6_0 o6_1 o6_2 o6_3) (
    (spec_l04Reduce.f (⟨o6_0, o6_1, o6_2, o6_3⟩ : Siiii)).bind fun r1 =>
    some (r1.1, r1.2))

def spec_l04Times.l3 : Nat → Int → Int → Int → Int → Int → Int → Int → Int → Int → Int → Int → Int → Int → Int → Int → Int → Int → Option (Siiii × Bool)
  | 0 => fun _ _ _ _ _ _ _ _ _ _ _ _ _ _ _ _ _ => none
  | k + 1 => spec_l04Times.s3 (spec_l04Times.l3 k)

def spec_l04Times.f (a0 : Siiii) (a1 : Siiii) : Option (Siiii × Bool) :=
  spec_l04Times.l3 fuelN 0 a0.c0 a0.c1 a0.c2 a0.c3 a1.c0 a1.c1 a1.c2 a1.c3 0 0 0 0 0 0 0 0

def spec_MultiplyMatrices.f (a0 : Siiii) (a1 : Siiii) : Option (Siiii × Int) :=
  (spec_l04Is.f a0).bind fun r1 =>
  ifE (!r1) (
    some ((⟨0, 0, 0, 0⟩ : Siiii), 1)) (
    (spec_l04Is.f a1).bind fun r2 =>
    ifE (!r2) (
      some ((⟨0, 0, 0, 0⟩ : Siiii), 1)) (
      (spec_l04Times.f a0 a1).bind fun r3 =>
      ifE (!r3.2) (
        some ((⟨0, 0, 0, 0⟩ : Siiii), 3)) (
        some (r3.1, 0))))

def spec_IsMatrix.f (a0 : Siiii) : Option Bool :=
  (spec_l04Is.f a0).bind fun r1 =>
  some r1

def impl_reduce.f (a0 : Siiii) : Option Siiii :=
  (impl_reduced.f a0).bind fun r1 =>
  some r1.1

def impl_ReduceMatrix.f (a0 : Siiii) : Option (Siiii × Int) :=
  (impl_IsMatrix.f a0).bind fun r1 =>
  ifE (!r1) (
    some ((⟨0, 0, 0, 0⟩ : Siiii), 1)) (
    (impl_reduce.f a0).bind fun r2 =>
    some (r2, 0))

def spec_ReduceMatrix.f (a0 : Siiii) : Option (Siiii × Int) :=
  (spec_l04Is.f a0).bind fun r1 =>
  ifE (!r1) (
    some ((⟨0, 0, 0, 0⟩ : Siiii), 1)) (
    (spec_l04Reduce.f a0).bind fun r2 =>
    some (r2.1, 0))

def impl_inverted.f (a0 : Siiii) : Option Siiii :=
  (impl_reduce.f (⟨a0.c3, W (0 - a0.c1), W (0 - a0.c2), a0.c0⟩ : Siiii)).bind fun r1 =>
  some r1

def impl_InverseMatrix.f (a0 : Siiii) : Option (Siiii × Int) :=
  (impl_IsMatrix.f a0).bind fun r1 =>
  ifE (!r1) (
    some ((⟨0, 0, 0, 0⟩ : Siiii), 1)) (
    (impl_inverted.f a0).bind fun r2 =>
    some (r2, 0))

def spec_l04Inverse.f (a0 : Siiii) : Option Siiii :=
  (spec_l04Reduce.f (⟨a0.c3, W (0 - a0.c1), W (0 - a0.c2), a0.c0⟩ : Siiii)).bind fun r1 =>
  some r1.1

def spec_InverseMatrix.f (a0 : Siiii) : Option (Siiii × Int) :=
  (spec_l04Is.f a0).bind fun r1 =>
  ifE (!r1) (
    some ((⟨0, 0, 0, 0⟩ : Siiii), 1)) (
    (spec_l04Inverse.f a0).bind fun r2 =>
    some (r2, 0))

def impl_one.f  : Option Siiii :=
  some (⟨1, 0, 0, 1⟩ : Siiii)

def impl_PowerMatrix.s10 (rec10 : Int → Int → Int → Int → Int → Int → Int → Int → Int → Int → Int → Int → Int → Int → Option (Siiii × Int)) (v31 : Int) (v32 : Int) (o2_0 : Int) (o2_1 : Int) (o2_2 : Int) (o2_3 : Int) (o4_0 : Int) (o4_1 : Int) (o4_2 : Int) (o4_3 : Int) (o6_0 : Int) (o6_1 : Int) (o6_2 : Int) (o6_3 : Int) : Option (Siiii × Int) :=
  ifE (decide (v32 < v31)) (
    (impl_product.f (⟨o6_0, o6_1, o6_2, o6_3⟩ : Siiii) (⟨o2_0, o2_1, o2_2, o2_3⟩ : Siiii)).bind fun r6 =>
    ifE (!r6.2) (
      some ((⟨0, 0, 0, 0⟩ : Siiii), 3)) (
      rec10 v31 (W (v32 + 1)) o2_0 o2_1 o2_2 o2_3 o4_0 o4_1 o4_2 o4_3 r6.1.c0 r6.1.c1 r6.1.c2 r6.1.c3)) (
    some ((⟨o6_0, o6_1, o6_2, o6_3⟩ : Siiii), 0))

def impl_PowerMatrix.l10 : Nat → Int → Int → Int → Int → Int → Int → Int → Int → Int → Int → Int → Int → Int → Int → Option (Siiii × Int)
  | 0 => fun _ _ _ _ _ _ _ _ _ _ _ _ _ _ => none
  | k + 1 => impl_PowerMatrix.s10 (impl_PowerMatrix.l10 k)

def impl_PowerMatrix.f (a0 : Siiii) (a1 : Int) : Option (Siiii × Int) :=
  (impl_IsMatrix.f a0).bind fun r1 =>
  ifE (!r1) (
    some ((⟨0, 0, 0, 0⟩ : Siiii), 1)) (
    ifE (decide (a1 < (-20))) (
      some ((⟨0, 0, 0, 0⟩ : Siiii), 2)) (
      ifE (decide (a1 > 20)) (
        some ((⟨0, 0, 0, 0⟩ : Siiii), 2)) (
        (impl_reduce.f a0).bind fun r2 =>
        ifE (decide (a1 < 0)) (
          (impl_inverted.f r2).bind fun r3 =>
          (impl_one.f).bind fun r4 =>
          impl_PowerMatrix.l10 fuelN (W (0 - a1)) 0 r3.c0 r3.c1 r3.c2 r3.c3 0 0 0 0 r4.c0 r4.c1 r4.c2 r4.c3) (
          (impl_one.f).bind fun r5 =>
          impl_PowerMatrix.l10 fuelN a1 0 r2.c0 r2.c1 r2.c2 r2.c3 0 0 0 0 r5.c0 r5.c1 r5.c2 r5.c3))))

def spec_PowerMatrix.s9 (rec9 : Int → Int → Int → Int → Int → Int → Int → Int → Int → Int → Int → Int → Int → Option (Siiii × Int)) (v1 : Int) (o2_0 : Int) (o2_1 : Int) (o2_2 : Int) (o2_3 : Int) (o4_0 : Int) (o4_1 : Int) (o4_2 : Int) (o4_3 : Int) (o6_0 : Int) (o6_1 : Int) (o6_2 : Int) (o6_3 : Int) : Option (Siiii × Int) :=
  ifE (decide (v1 > 0)) (
    (spec_l04Times.f (⟨o6_0, o6_1, o6_2, o6_3⟩ : Siiii) (⟨o2_0, o2_1, o2_2, o2_3⟩ : Siiii)).bind fun r4 =>
    ifE (!r4.2) (
      some ((⟨0, 0, 0, 0⟩ : Siiii), 3)) (
      rec9 (W (v1 - 1)) o2_0 o2_1 o2_2 o2_3 o4_0 o4_1 o4_2 o4_3 r4.1.c0 r4.1.c1 r4.1.c2 r4.1.c3)) (
    some ((⟨o6_0, o6_1, o6_2, o6_3⟩ : Siiii), 0))

def spec_PowerMatrix.l9 : Nat → Int → Int → Int → Int → Int → Int → Int → Int → Int → Int → Int → Int → Int → Option (Siiii × Int)
  | 0 => fun _ _ _ _ _ _ _ _ _ _ _ _ _ => none
  | k + 1 => spec_PowerMatrix.s9 (spec_PowerMatrix.l9 k)

def spec_PowerMatrix.f (a0 : Siiii) (a1 : Int) : Option (Siiii × Int) :=
  (spec_l04Is.f a0).bind fun r1 =>
  ifE (!r1) (
    some ((⟨0, 0, 0, 0⟩ : Siiii), 1)) (
    (spec_l01In.f a1 (-20) 20).bind fun r2 =>
    ifE (!r2) (
      some ((⟨0, 0, 0, 0⟩ : Siiii), 2)) (
      ifE (decide (a1 < 0)) (
        (spec_l04Inverse.f a0).bind fun r3 =>
        spec_PowerMatrix.l9 fuelN (W (0 - a1)) r3.c0 r3.c1 r3.c2 r3.c3 0 0 0 0 1 0 0 1) (
        spec_PowerMatrix.l9 fuelN a1 a0.c0 a0.c1 a0.c2 a0.c3 0 0 0 0 1 0 0 1)))

def impl_AreSameMatrices.f (a0 : Siiii) (a1 : Siiii) : Option (Bool × Int) :=
  (impl_areMatrices.f [a0, a1]).bind fun r1 =>
  ifE (!r1) (
    some (false, 1)) (
    (impl_reduce.f a0).bind fun r2 =>
    (impl_reduce.f a1).bind fun r3 =>
    some ((((r2.c0 == r3.c0) && ((r2.c1 == r3.c1) && true)) && (((r2.c2 == r3.c2) && ((r2.c3 == r3.c3) && true)) && true)), 0))

def spec_AreSameMatrices.f (a0 : Siiii) (a1 : Siiii) : Option (Bool × Int) :=
  (spec_l04Is.f a0).bind fun r1 =>
  ifE (!r1) (
    some (false, 1)) (
    (spec_l04Is.f a1).bind fun r2 =>
    ifE (!r2) (
      some (false, 1)) (
      (spec_l04Reduce.f a0).bind fun r3 =>
      (spec_l04Reduce.f a1).bind fun r4 =>
      some ((((r3.1.c0 == r4.1.c0) && ((r3.1.c1 == r4.1.c1) && true)) && (((r3.1.c2 == r4.1.c2) && ((r3.1.c3 == r4.1.c3) && true)) && true)), 0)))

def spec_l01From.s3 (rec3 : (List Int) → Int → (List Int) → Int → Int → Option SLu8eiu64) (v0 : (List Int)) (v4 : Int) (o11_0 : (List Int)) (o11_1 : Int) (o11_2 : Int) : Option SLu8eiu64 :=
  ifE (decide (v4 < (v0.length : Int))) (
    ifE (decide (v4 < 4096)) (
      (getE v0 v4).bind fun e1 =>
      rec3 v0 (W (v4 + 1)) o11_0 o11_1 (IntKind.wrap .u64 ((IntKind.wrap .u64 ((IntKind.wrap .u64 (o11_2 * 1099511628211)) + (IntKind.wrap .u64 (e1)))) + 71))) (
      some (⟨o11_0, o11_1, o11_2⟩ : SLu8eiu64))) (
    some (⟨o11_0, o11_1, o11_2⟩ : SLu8eiu64))

def spec_l01From.l3 : Nat → (List Int) → Int → (List Int) → Int → Int → Option SLu8eiu64
  | 0 => fun _ _ _ _ _ => none
  | k + 1 => spec_l01From.s3 (spec_l01From.l3 k)

def spec_l01From.f (a0 : (List Int)) : Option SLu8eiu64 :=
  spec_l01From.l3 fuelN a0 0 a0 0 (IntKind.wrap .u64 (12527 + (IntKind.wrap .u64 ((a0.length : Int)))))

def spec_l01Next.f (a0 : SLu8eiu64) (a1 : Int) : Option (Int × SLu8eiu64) :=
  ifE (decide (a1 < 1)) (
    some (0, a0)) (
    ifE (decide (a0.c1 < (a0.c0.length : Int))) (
      (getE a0.c0 a0.c1).bind fun e1 =>
      guardE (a1 ≠ 0) <|
      some (Int.tmod (W ((W (IntKind.wrap .u64 ((((BitVec.ofInt 64 (Int.fdiv (IntKind.wrap .u64 ((IntKind.wrap .u64 (a0.c2 * 6364136223846793005)) + 1442695040888963407)) (2 ^ 23))) &&& (BitVec.ofInt 64 17179869183)).toNat : Int)))) + (W (e1)))) a1, (⟨a0.c0, W (a0.c1 + 1), IntKind.wrap .u64 ((IntKind.wrap .u64 (a0.c2 * 6364136223846793005)) + 1442695040888963407)⟩ : SLu8eiu64))) (
      guardE (a1 ≠ 0) <|
      some (Int.tmod (W (IntKind.wrap .u64 ((((BitVec.ofInt 64 (Int.fdiv (IntKind.wrap .u64 ((IntKind.wrap .u64 (a0.c2 * 6364136223846793005)) + 1442695040888963407)) (2 ^ 23))) &&& (BitVec.ofInt 64 17179869183)).toNat : Int)))) a1, (⟨a0.c0, a0.c1, IntKind.wrap .u64 ((IntKind.wrap .u64 (a0.c2 * 6364136223846793005)) + 1442695040888963407)⟩ : SLu8eiu64))))

def spec_l01Pick.f (a0 : SLu8eiu64) (a1 : (List Int)) : Option (Int × SLu8eiu64) :=
  (spec_l01Next.f a0 (a1.length : Int)).bind fun r1 =>
  (getE a1 r1.1).bind fun e2 =>
  some (e2, r1.2)

def spec_l04Draw.s6 (rec3 : Int → (List Int) → Int → Int → Int → Int → Int → Int → Int → Int → Int → Int → Option (Siiii × SLu8eiu64)) (rec6 : Int → Int → (List Int) → Int → Int → Int → Int → Int → Int → Int → Int → Int → Int → Option (Siiii × SLu8eiu64)) (v4 : Int) (v5 : Int) (o2000_0 : (List Int)) (o2000_1 : Int) (o2000_2 : Int) (o2_0 : Int) (o2_1 : Int) (o2_2 : Int) (o2_3 : Int) (o3_0 : Int) (o3_1 : Int) (o3_2 : Int) (o3_3 : Int) : Option (Siiii × SLu8eiu64) :=
  ifE (decide (v5 < 4)) (
    (spec_l01Next.f (⟨o2000_0, o2000_1, o2000_2⟩ : SLu8eiu64) 11).bind fun r17 =>
    ifE ((W (Int.tdiv v5 2)) == 0) (
      ifE ((Int.tmod v5 2) == 0) (
        rec6 v4 (W (v5 + 1)) r17.2.c0 r17.2.c1 r17.2.c2 o2_0 o2_1 o2_2 o2_3 (W (r17.1 - 5)) o3_1 o3_2 o3_3) (
        ifE ((Int.tmod v5 2) == 1) (
          rec6 v4 (W (v5 + 1)) r17.2.c0 r17.2.c1 r17.2.c2 o2_0 o2_1 o2_2 o2_3 o3_0 (W (r17.1 - 5)) o3_2 o3_3) (
          none))) (
      ifE ((W (Int.tdiv v5 2)) == 1) (
        ifE ((Int.tmod v5 2) == 0) (
          rec6 v4 (W (v5 + 1)) r17.2.c0 r17.2.c1 r17.2.c2 o2_0 o2_1 o2_2 o2_3 o3_0 o3_1 (W (r17.1 - 5)) o3_3) (
          ifE ((Int.tmod v5 2) == 1) (
            rec6 v4 (W (v5 + 1)) r17.2.c0 r17.2.c1 r17.2.c2 o2_0 o2_1 o2_2 o2_3 o3_0 o3_1 o3_2 (W (r17.1 - 5))) (
            none))) (
        none))) (
    (spec_l04Det.f (⟨o3_0, o3_1, o3_2, o3_3⟩ : Siiii)).bind fun r18 =>
    ifE (r18 != 0) (
      (spec_l01Next.f (⟨o2000_0, o2000_1, o2000_2⟩ : SLu8eiu64) 9).bind fun r19 =>
      ifE (r19.1 == 0) (
        (spec_l01Pick.f r19.2 [2, 3, 4, 5, 9]).bind fun r20 =>
        (spec_l01Next.f r20.2 5).bind fun r21 =>
        (spec_l01Next.f r21.2 40).bind fun r22 =>
        ifE (r22.1 == 0) (
          some ((⟨1001, W (r21.1 - 2), 0, 1⟩ : Siiii), r22.2)) (
          ifE (r22.1 == 1) (
            some ((⟨r20.1, W (r21.1 - 2), r20.1, W (r21.1 - 2)⟩ : Siiii), r22.2)) (
            some ((⟨r20.1, W (r21.1 - 2), 0, 1⟩ : Siiii), r22.2)))) (
        ifE (r19.1 == 1) (
          (spec_l01Pick.f r19.2 [2, 3, 4, 7, 1]).bind fun r23 =>
          (spec_l01Next.f r23.2 40).bind fun r24 =>
          ifE (r24.1 == 0) (
            some ((⟨1001, 0, 0, r23.1⟩ : Siiii), r24.2)) (
            ifE (r24.1 == 1) (
              some ((⟨1, 0, 1, 0⟩ : Siiii), r24.2)) (
              some ((⟨1, 0, 0, r23.1⟩ : Siiii), r24.2)))) (
          ifE (r19.1 == 2) (
            (spec_l01Pick.f r19.2 [1, (-1), 2, 3]).bind fun r25 =>
            (spec_l01Next.f r25.2 40).bind fun r26 =>
            ifE (r26.1 == 0) (
              some ((⟨1001, r25.1, 1, 0⟩ : Siiii), r26.2)) (
              ifE (r26.1 == 1) (
                some ((⟨0, r25.1, 0, r25.1⟩ : Siiii), r26.2)) (
                some ((⟨0, r25.1, 1, 0⟩ : Siiii), r26.2)))) (
            ifE (r19.1 == 3) (
              (spec_l01Next.f r19.2 2001).bind fun r27 =>
              (spec_l01Next.f r27.2 9).bind fun r28 =>
              (spec_l01Next.f r28.2 9).bind fun r29 =>
              (spec_l01Next.f r29.2 2001).bind fun r30 =>
              (spec_l01Next.f r30.2 40).bind fun r31 =>
              ifE (r31.1 == 0) (
                some ((⟨1001, r28.1, r29.1, W (r30.1 - 1000)⟩ : Siiii), r31.2)) (
                ifE (r31.1 == 1) (
                  some ((⟨W (r27.1 - 1000), r28.1, W (r27.1 - 1000), r28.1⟩ : Siiii), r31.2)) (
                  some ((⟨W (r27.1 - 1000), r28.1, r29.1, W (r30.1 - 1000)⟩ : Siiii), r31.2)))) (
              ifE (r19.1 == 4) (
                (spec_l01Next.f r19.2 7).bind fun r32 =>
                (spec_l01Next.f r32.2 40).bind fun r33 =>
                ifE (r33.1 == 0) (
                  some ((⟨1001, W (r32.1 - 3), 0, 1⟩ : Siiii), r33.2)) (
                  ifE (r33.1 == 1) (
                    some ((⟨1, W (r32.1 - 3), 1, W (r32.1 - 3)⟩ : Siiii), r33.2)) (
                    some ((⟨1, W (r32.1 - 3), 0, 1⟩ : Siiii), r33.2)))) (
                (spec_l01Next.f r19.2 40).bind fun r34 =>
                ifE (r34.1 == 0) (
                  some ((⟨1001, o3_1, o3_2, o3_3⟩ : Siiii), r34.2)) (
                  ifE (r34.1 == 1) (
                    some ((⟨o3_0, o3_1, o3_0, o3_1⟩ : Siiii), r34.2)) (
                    some ((⟨o3_0, o3_1, o3_2, o3_3⟩ : Siiii), r34.2))))))))) (
      rec3 (W (v4 + 1)) o2000_0 o2000_1 o2000_2 o2_0 o2_1 o2_2 o2_3 o3_0 o3_1 o3_2 o3_3))

def spec_l04Draw.l6 (rec3 : Int → (List Int) → Int → Int → Int → Int → Int → Int → Int → Int → Int → Int → Option (Siiii × SLu8eiu64)) : Nat → Int → Int → (List Int) → Int → Int → Int → Int → Int → Int → Int → Int → Int → Int → Option (Siiii × SLu8eiu64)
  | 0 => fun _ _ _ _ _ _ _ _ _ _ _ _ _ => none
  | k + 1 => spec_l04Draw.s6 rec3 (spec_l04Draw.l6 rec3 k)

def spec_l04Draw.s3 (rec3 : Int → (List Int) → Int → Int → Int → Int → Int → Int → Int → Int → Int → Int → Option (Siiii × SLu8eiu64)) (v4 : Int) (o2000_0 : (List Int)) (o2000_1 : Int) (o2000_2 : Int) (o2_0 : Int) (o2_1 : Int) (o2_2 : Int) (o2_3 : Int) (o3_0 : Int) (o3_1 : Int) (o3_2 : Int) (o3_3 : Int) : Option (Siiii × SLu8eiu64) :=
  ifE (decide (v4 < 5)) (
    spec_l04Draw.l6 rec3 fuelN v4 0 o2000_0 o2000_1 o2000_2 o2_0 o2_1 o2_2 o2_3 o3_0 o3_1 o3_2 o3_3) (
    (spec_l01Next.f (⟨o2000_0, o2000_1, o2000_2⟩ : SLu8eiu64) 9).bind fun r1 =>
    ifE (r1.1 == 0) (
      (spec_l01Pick.f r1.2 [2, 3, 4, 5, 9]).bind fun r2 =>
      (spec_l01Next.f r2.2 5).bind fun r3 =>
      (spec_l01Next.f r3.2 40).bind fun r4 =>
      ifE (r4.1 == 0) (
        some ((⟨1001, W (r3.1 - 2), 0, 1⟩ : Siiii), r4.2)) (
        ifE (r4.1 == 1) (
          some ((⟨r2.1, W (r3.1 - 2), r2.1, W (r3.1 - 2)⟩ : Siiii), r4.2)) (
          some ((⟨r2.1, W (r3.1 - 2), 0, 1⟩ : Siiii), r4.2)))) (
      ifE (r1.1 == 1) (
        (spec_l01Pick.f r1.2 [2, 3, 4, 7, 1]).bind fun r5 =>
        (spec_l01Next.f r5.2 40).bind fun r6 =>
        ifE (r6.1 == 0) (
          some ((⟨1001, 0, 0, r5.1⟩ : Siiii), r6.2)) (
          ifE (r6.1 == 1) (
            some ((⟨1, 0, 1, 0⟩ : Siiii), r6.2)) (
            some ((⟨1, 0, 0, r5.1⟩ : Siiii), r6.2)))) (
        ifE (r1.1 == 2) (
          (spec_l01Pick.f r1.2 [1, (-1), 2, 3]).bind fun r7 =>
          (spec_l01Next.f r7.2 40).bind fun r8 =>
          ifE (r8.1 == 0) (
            some ((⟨1001, r7.1, 1, 0⟩ : Siiii), r8.2)) (
            ifE (r8.1 == 1) (
              some ((⟨0, r7.1, 0, r7.1⟩ : Siiii), r8.2)) (
              some ((⟨0, r7.1, 1, 0⟩ : Siiii), r8.2)))) (
          ifE (r1.1 == 3) (
            (spec_l01Next.f r1.2 2001).bind fun r9 =>
            (spec_l01Next.f r9.2 9).bind fun r10 =>
            (spec_l01Next.f r10.2 9).bind fun r11 =>
            (spec_l01Next.f r11.2 2001).bind fun r12 =>
            (spec_l01Next.f r12.2 40).bind fun r13 =>
            ifE (r13.1 == 0) (
              some ((⟨1001, r10.1, r11.1, W (r12.1 - 1000)⟩ : Siiii), r13.2)) (
              ifE (r13.1 == 1) (
                some ((⟨W (r9.1 - 1000), r10.1, W (r9.1 - 1000), r10.1⟩ : Siiii), r13.2)) (
                some ((⟨W (r9.1 - 1000), r10.1, r11.1, W (r12.1 - 1000)⟩ : Siiii), r13.2)))) (
            ifE (r1.1 == 4) (
              (spec_l01Next.f r1.2 7).bind fun r14 =>
              (spec_l01Next.f r14.2 40).bind fun r15 =>
              ifE (r15.1 == 0) (
                some ((⟨1001, W (r14.1 - 3), 0, 1⟩ : Siiii), r15.2)) (
                ifE (r15.1 == 1) (
                  some ((⟨1, W (r14.1 - 3), 1, W (r14.1 - 3)⟩ : Siiii), r15.2)) (
                  some ((⟨1, W (r14.1 - 3), 0, 1⟩ : Siiii), r15.2)))) (
              (spec_l01Next.f r1.2 40).bind fun r16 =>
              ifE (r16.1 == 0) (
                some ((⟨1001, o3_1, o3_2, o3_3⟩ : Siiii), r16.2)) (
                ifE (r16.1 == 1) (
                  some ((⟨o3_0, o3_1, o3_0, o3_1⟩ : Siiii), r16.2)) (
                  some ((⟨o3_0, o3_1, o3_2, o3_3⟩ : Siiii), r16.2)))))))))

def spec_l04Draw.l3 : Nat → Int → (List Int) → Int → Int → Int → Int → Int → Int → Int → Int → Int → Int → Option (Siiii × SLu8eiu64)
  | 0 => fun _ _ _ _ _ _ _ _ _ _ _ _ => none
  | k + 1 => spec_l04Draw.s3 (spec_l04Draw.l3 k)

def spec_l04Draw.f (a0 : SLu8eiu64) : Option (Siiii × SLu8eiu64) :=
  spec_l04Draw.l3 fuelN 0 a0.c0 a0.c1 a0.c2 0 0 0 0 0 0 0 0

end Go.Gn
end
section
set_option linter.unusedVariables false
set_option maxRecDepth 100000
open Go Go.Eng
namespace Go.Gn
structure Siii where
  c0 : Int
  c1 : Int
  c2 : Int
  deriving DecidableEq, Inhabited

def Siii.cells (x : Siii) : List DV := [I x.c0, I x.c1, I x.c2]

def spec_l01Power.s2 (rec2 : Int → Int → Int → Option Int) (v0 : Int) (v1 : Int) (v5 : Int) : Option Int :=
  ifE (decide (v1 > 0)) (
    rec2 v0 (W (v1 - 1)) (W (v5 * v0))) (
    some v5)

def spec_l01Power.l2 : Nat → Int → Int → Int → Option Int
  | 0 => fun _ _ _ => none
  | k + 1 => spec_l01Power.s2 (spec_l01Power.l2 k)

def spec_l01Power.f (a0 : Int) (a1 : Int) : Option Int :=
  spec_l01Power.l2 fuelN a0 a1 1

def spec_l01Val.s2 (rec2 : Int → Int → Int → Option Int) (v0 : Int) (v1 : Int) (v5 : Int) : Option Int :=
  guardE (v0 ≠ 0) <|
  ifE ((Int.tmod v1 v0) == 0) (
    guardE (v0 ≠ 0) <|
    rec2 v0 (W (Int.tdiv v1 v0)) (W (v5 + 1))) (
    some v5)

def spec_l01Val.l2 : Nat → Int → Int → Int → Option Int
  | 0 => fun _ _ _ => none
  | k + 1 => spec_l01Val.s2 (spec_l01Val.l2 k)

def spec_l01Val.f (a0 : Int) (a1 : Int) : Option Int :=
  spec_l01Val.l2 fuelN a0 a1 0

def spec_l01MulMod.f (a0 : Int) (a1 : Int) (a2 : Int) : Option Int :=
  guardE (a2 ≠ 0) <|
  guardE (a2 ≠ 0) <|
  guardE (a2 ≠ 0) <|
  guardE (a2 ≠ 0) <|
  guardE (a2 ≠ 0) <|
  guardE (a2 ≠ 0) <|
  guardE (a2 ≠ 0) <|
  guardE (a2 ≠ 0) <|
  some (Int.tmod (W ((Int.tmod (W ((Int.tmod (W ((Int.tmod (W ((Int.tmod a0 a2) + a2)) a2) * (W (Int.tdiv (Int.tmod (W ((Int.tmod a1 a2) + a2)) a2) 1000000)))) a2) * 1000000)) a2) + (Int.tmod (W ((Int.tmod (W ((Int.tmod a0 a2) + a2)) a2) * (Int.tmod (Int.tmod (W ((Int.tmod a1 a2) + a2)) a2) 1000000))) a2))) a2)

def spec_l01InvMod.s2 (rec2 : Int → Int → Int → Int → Int → Option Int) (v1 : Int) (v5 : Int) (v6 : Int) (v7 : Int) (v8 : Int) : Option Int :=
  ifE (v6 != 0) (
    guardE (v6 ≠ 0) <|
    rec2 v1 v6 (W (v5 - (W ((W (Int.tdiv v5 v6)) * v6)))) v8 (W (v7 - (W ((W (Int.tdiv v5 v6)) * v8))))) (
    guardE (v1 ≠ 0) <|
    guardE (v1 ≠ 0) <|
    some (Int.tmod (W ((Int.tmod v7 v1) + v1)) v1))

def spec_l01InvMod.l2 : Nat → Int → Int → Int → Int → Int → Option Int
  | 0 => fun _ _ _ _ _ => none
  | k + 1 => spec_l01InvMod.s2 (spec_l01InvMod.l2 k)

def spec_l01InvMod.f (a0 : Int) (a1 : Int) : Option Int :=
  guardE (a1 ≠ 0) <|
  guardE (a1 ≠ 0) <|
  spec_l01InvMod.l2 fuelN a1 (Int.tmod (W ((Int.tmod a0 a1) + a1)) a1) a1 1 0

def spec_l01Of.f (a0 : Int) (a1 : Int) (a2 : Int) (a3 : Int) : Option (Siii × Bool) :=
  (spec_l01In.f a3 (-6) 6).bind fun r1 =>
  ifE (!r1) (
    some ((⟨0, 0, 0⟩ : Siii), false)) (
    ifE (a1 == 0) (
      some ((⟨a3, 0, 0⟩ : Siii), true)) (
      (spec_l01Val.f a0 a1).bind fun r2 =>
      (spec_l01Val.f a0 a2).bind fun r3 =>
      ifE (decide (a3 ≤ (W (r2 - r3)))) (
        some ((⟨a3, 0, 0⟩ : Siii), true)) (
        ifE (decide ((imax (W (r3 - r2)) 0) > 6)) (
          some ((⟨0, 0, 0⟩ : Siii), false)) (
          (spec_l01Power.f a0 (W (a3 + (imax (W (r3 - r2)) 0)))).bind fun r4 =>
          (spec_l01Power.f a0 r2).bind fun r5 =>
          guardE (r5 ≠ 0) <|
          (spec_l01Power.f a0 r3).bind fun r6 =>
          guardE (r6 ≠ 0) <|
          (spec_l01InvMod.f (W (Int.tdiv a2 r6)) r4).bind fun r7 =>
          (spec_l01MulMod.f (W (Int.tdiv a1 r5)) r7 r4).bind fun r8 =>
          (spec_l01Power.f a0 (imax (W (r2 - r3)) 0)).bind fun r9 =>
          (spec_l01MulMod.f r8 r9 r4).bind fun r10 =>
          some ((⟨a3, r10, imax (W (r3 - r2)) 0⟩ : Siii), true)))))

def impl_power.s3 (rec3 : Int → Int → Int → Int → Option Int) (v0 : Int) (v5 : Int) (v6 : Int) (v7 : Int) : Option Int :=
  ifE (decide (v7 < v6)) (
    rec3 v0 (W (v5 * v0)) v6 (W (v7 + 1))) (
    some v5)

def impl_power.l3 : Nat → Int → Int → Int → Int → Option Int
  | 0 => fun _ _ _ _ => none
  | k + 1 => impl_power.s3 (impl_power.l3 k)

def impl_power.f (a0 : Int) (a1 : Int) : Option Int :=
  impl_power.l3 fuelN a0 1 a1 0

def impl_isPrime.f (a0 : Int) : Option Bool :=
  ifE (a0 == 2) (
    some true) (
    ifE (a0 == 3) (
      some true) (
      ifE (a0 == 5) (
        some true) (
        some (a0 == 7))))

def impl_isLevel.f (a0 : Int) : Option Bool :=
  ifE (decide (a0 ≥ (-6))) (
    some (decide (a0 ≤ 6))) (
    some false)

def impl_IsBall.f (a0 : Int) (a1 : Siii) : Option Bool :=
  (impl_isPrime.f a0).bind fun r1 =>
  ifE (!r1) (
    some false) (
    (impl_isLevel.f a1.c0).bind fun r2 =>
    ifE (!r2) (
      some false) (
      ifE (decide (a1.c2 < 0)) (
        some false) (
        ifE (decide (a1.c2 > 6)) (
          some false) (
          ifE (decide ((W (a1.c0 + a1.c2)) ≤ 0)) (
            ifE (a1.c1 == 0) (
              some (a1.c2 == 0)) (
              some false)) (
            ifE (decide (a1.c1 ≥ 0)) (
              (impl_power.f a0 (W (a1.c0 + a1.c2))).bind fun r3 =>
              ifE (decide (a1.c1 < r3)) (
                ifE (a1.c2 == 0) (
                  some true) (
                  guardE (a0 ≠ 0) <|
                  some ((Int.tmod a1.c1 a0) != 0))) (
                some false)) (
              some false))))))

def impl_areBalls.s2 (rec2 : Int → (List Siii) → Int → Int → Option Bool) (v0 : Int) (v7 : (List Siii)) (v8 : Int) (v9 : Int) : Option Bool :=
  ifE (decide (v9 < v8)) (
    (getE v7 v9).bind fun e1 =>
    (impl_IsBall.f v0 e1).bind fun r2 =>
    ifE (!r2) (
      some false) (
      rec2 v0 v7 v8 (W (v9 + 1)))) (
    (impl_isPrime.f v0).bind fun r3 =>
    some r3)

def impl_areBalls.l2 : Nat → Int → (List Siii) → Int → Int → Option Bool
  | 0 => fun _ _ _ _ => none
  | k + 1 => impl_areBalls.s2 (impl_areBalls.l2 k)

def impl_areBalls.f (a0 : Int) (a1 : (List Siii)) : Option Bool :=
  impl_areBalls.l2 fuelN a0 a1 (a1.length : Int) 0

def impl_mark.f (a0 : Int) (a1 : Siii) : Option Int :=
  (impl_power.f a0 (W (6 - a1.c2))).bind fun r1 =>
  some (W (a1.c1 * r1))

def impl_holds.f (a0 : Int) (a1 : Siii) (a2 : Siii) : Option Bool :=
  ifE (decide (a1.c0 ≤ a2.c0)) (
    (impl_mark.f a0 a2).bind fun r1 =>
    (impl_mark.f a0 a1).bind fun r2 =>
    (impl_power.f a0 (W (a1.c0 + 6))).bind fun r3 =>
    guardE (r3 ≠ 0) <|
    some ((Int.tmod (W (r1 - r2)) r3) == 0)) (
    some false)

def impl_apart.f (a0 : Int) (a1 : Siii) (a2 : Siii) : Option Bool :=
  (impl_holds.f a0 a1 a2).bind fun r1 =>
  ifE (!r1) (
    (impl_holds.f a0 a2 a1).bind fun r2 =>
    some (!r2)) (
    some false)

def spec_l01Prime.f (a0 : Int) : Option Bool :=
  ifE (a0 == 2) (
    some true) (
    ifE (a0 == 3) (
      some true) (
      ifE (a0 == 5) (
        some true) (
        some (a0 == 7))))

def spec_l01Is.f (a0 : Int) (a1 : Siii) : Option Bool :=
  (spec_l01Prime.f a0).bind fun r1 =>
  ifE (!r1) (
    some false) (
    (spec_l01In.f a1.c0 (-6) 6).bind fun r2 =>
    ifE (!r2) (
      some false) (
      (spec_l01In.f a1.c2 0 6).bind fun r3 =>
      ifE (!r3) (
        some false) (
        ifE (decide ((W (a1.c0 + a1.c2)) ≤ 0)) (
          ifE (a1.c1 == 0) (
            some (a1.c2 == 0)) (
            some false)) (
          (spec_l01Power.f a0 (W (a1.c0 + a1.c2))).bind fun r4 =>
          (spec_l01In.f a1.c1 0 (W (r4 - 1))).bind fun r5 =>
          ifE r5 (
            ifE (a1.c2 == 0) (
              some true) (
              guardE (a0 ≠ 0) <|
              some ((Int.tmod a1.c1 a0) != 0))) (
            some false)))))

def spec_l01Code.s4 (rec4 : Int → (List Siii) → Int → Option Int) (v0 : Int) (v1 : (List Siii)) (v5 : Int) : Option Int :=
  ifE (decide (v5 < (v1.length : Int))) (
    (getE v1 v5).bind fun e2 =>
    (spec_l01Is.f v0 e2).bind fun r3 =>
    ifE (!r3) (
      some 1) (
      rec4 v0 v1 (W (v5 + 1)))) (
    some 0)

def spec_l01Code.l4 : Nat → Int → (List Siii) → Int → Option Int
  | 0 => fun _ _ _ => none
  | k + 1 => spec_l01Code.s4 (spec_l01Code.l4 k)

def spec_l01Code.f (a0 : Int) (a1 : (List Siii)) : Option Int :=
  (spec_l01Prime.f a0).bind fun r1 =>
  ifE (!r1) (
    some 1) (
    spec_l01Code.l4 fuelN a0 a1 0)

def spec_l01Holds.f (a0 : Int) (a1 : Siii) (a2 : Siii) : Option Bool :=
  ifE (decide (a1.c0 > a2.c0)) (
    some false) (
    (spec_l01Power.f a0 a2.c2).bind fun r1 =>
    (spec_l01Of.f a0 a2.c1 r1 a1.c0).bind fun r2 =>
    ifE r2.2 (
      some ((r2.1.c0 == a1.c0) && ((r2.1.c1 == a1.c1) && ((r2.1.c2 == a1.c2) && true)))) (
      some false))

def impl_valuation.s4 (rec4 : Int → Int → Int → Option Int) (v0 : Int) (v1 : Int) (v5 : Int) : Option Int :=
  guardE (v0 ≠ 0) <|
  ifE ((Int.tmod v1 v0) == 0) (
    guardE (v0 ≠ 0) <|
    rec4 v0 (W (Int.tdiv v1 v0)) (W (v5 + 1))) (
    some v5)

def impl_valuation.l4 : Nat → Int → Int → Int → Option Int
  | 0 => fun _ _ _ => none
  | k + 1 => impl_valuation.s4 (impl_valuation.l4 k)

def impl_valuation.f (a0 : Int) (a1 : Int) : Option Int :=
  ifE (a1 == 0) (
    some 1000) (
    impl_valuation.l4 fuelN a0 a1 0)

def impl_mod.f (a0 : Int) (a1 : Int) : Option Int :=
  guardE (a1 ≠ 0) <|
  guardE (a1 ≠ 0) <|
  some (Int.tmod (W ((Int.tmod a0 a1) + a1)) a1)

def impl_ofMark.f (a0 : Int) (a1 : Int) (a2 : Int) : Option (Siii × Bool) :=
  (impl_isLevel.f a1).bind fun r1 =>
  ifE (!r1) (
    some ((⟨0, 0, 0⟩ : Siii), false)) (
    (impl_power.f a0 (W (a1 + 6))).bind fun r2 =>
    (impl_mod.f a2 r2).bind fun r3 =>
    (impl_valuation.f a0 r3).bind fun r4 =>
    (impl_power.f a0 (W (6 - (imax (W (6 - r4)) 0)))).bind fun r5 =>
    guardE (r5 ≠ 0) <|
    some ((⟨a1, W (Int.tdiv r3 r5), imax (W (6 - r4)) 0⟩ : Siii), true))

def math_bits_Mul64.f (a0 : Int) (a1 : Int) : Option (Int × Int) :=
  some (IntKind.wrap .u64 ((IntKind.wrap .u64 ((IntKind.wrap .u64 ((Int.fdiv a0 (2 ^ 32)) * (Int.fdiv a1 (2 ^ 32)))) + (Int.fdiv (IntKind.wrap .u64 ((IntKind.wrap .u64 ((Int.fdiv a0 (2 ^ 32)) * (IntKind.wrap .u64 ((((BitVec.ofInt 64 a1) &&& (BitVec.ofInt 64 4294967295)).toNat : Int))))) + (Int.fdiv (IntKind.wrap .u64 ((IntKind.wrap .u64 ((((BitVec.ofInt 64 a0) &&& (BitVec.ofInt 64 4294967295)).toNat : Int))) * (IntKind.wrap .u64 ((((BitVec.ofInt 64 a1) &&& (BitVec.ofInt 64 4294967295)).toNat : Int))))) (2 ^ 32)))) (2 ^ 32)))) + (Int.fdiv (IntKind.wrap .u64 ((IntKind.wrap .u64 ((((BitVec.ofInt 64 (IntKind.wrap .u64 ((IntKind.wrap .u64 ((Int.fdiv a0 (2 ^ 32)) * (IntKind.wrap .u64 ((((BitVec.ofInt 64 a1) &&& (BitVec.ofInt 64 4294967295)).toNat : Int))))) + (Int.fdiv (IntKind.wrap .u64 ((IntKind.wrap .u64 ((((BitVec.ofInt 64 a0) &&& (BitVec.ofInt 64 4294967295)).toNat : Int))) * (IntKind.wrap .u64 ((((BitVec.ofInt 64 a1) &&& (BitVec.ofInt 64 4294967295)).toNat : Int))))) (2 ^ 32))))) &&& (BitVec.ofInt 64 4294967295)).toNat : Int))) + (IntKind.wrap .u64 ((IntKind.wrap .u64 ((((BitVec.ofInt 64 a0) &&& (BitVec.ofInt 64 4294967295)).toNat : Int))) * (Int.fdiv a1 (2 ^ 32)))))) (2 ^ 32))), IntKind.wrap .u64 (a0 * a1))

def math_bits_Len64.j7 (v0 : Int) (v2 : Int) : Option Int :=
  ifE (decide (v0 ≥ 256)) (
    (getB (bs [0, 1, 2, 2, 3, 3, 3, 3, 4, 4, 4, 4, 4, 4, 4, 4, 5, 5, 5, 5, 5, 5, 5, 5, 5, 5, 5, 5, 5, 5, 5, 5, 6, 6, 6, 6, 6, 6, 6, 6, 6, 6, 6, 6, 6, 6, 6, 6, 6, 6, 6, 6, 6, 6, 6, 6, 6, 6, 6, 6, 6, 6, 6, 6, 7, 7, 7, 7, 7, 7, 7, 7, 7, 7, 7, 7, 7, 7, 7, 7, 7, 7, 7, 7, 7, 7, 7, 7, 7, 7, 7, 7, 7, 7, 7, 7, 7, 7, 7, 7, 7, 7, 7, 7, 7, 7, 7, 7, 7, 7, 7, 7, 7, 7, 7, 7, 7, 7, 7, 7, 7, 7, 7, 7, 7, 7, 7, 7, 8, 8, 8, 8, 8, 8, 8, 8, 8, 8, 8, 8, 8, 8, 8, 8, 8, 8, 8, 8, 8, 8, 8, 8, 8, 8, 8, 8, 8, 8, 8, 8, 8, 8, 8, 8, 8, 8, 8, 8, 8, 8, 8, 8, 8, 8, 8, 8, 8, 8, 8, 8, 8, 8, 8, 8, 8, 8, 8, 8, 8, 8, 8, 8, 8, 8, 8, 8, 8, 8, 8, 8, 8, 8, 8, 8, 8, 8, 8, 8, 8, 8, 8, 8, 8, 8, 8, 8, 8, 8, 8, 8, 8, 8, 8, 8, 8, 8, 8, 8, 8, 8, 8, 8, 8, 8, 8, 8, 8, 8, 8, 8, 8, 8, 8, 8, 8, 8, 8, 8, 8, 8, 8, 8, 8, 8, 8, 8]) (IntKind.wrap .u8 (Int.fdiv v0 (2 ^ 8)))).bind fun b1 =>
    some (W ((W (v2 + 8)) + (W ((b1.toNat : Int)))))) (
    (getB (bs [0, 1, 2, 2, 3, 3, 3, 3, 4, 4, 4, 4, 4, 4, 4, 4, 5, 5, 5, 5, 5, 5, 5, 5, 5, 5, 5, 5, 5, 5, 5, 5, 6, 6, 6, 6, 6, 6, 6, 6, 6, 6, 6, 6, 6, 6, 6, 6, 6, 6, 6, 6, 6, 6, 6, 6, 6, 6, 6, 6, 6, 6, 6, 6, 7, 7, 7, 7, 7, 7, 7, 7, 7, 7, 7, 7, 7, 7, 7, 7, 7, 7, 7, 7, 7, 7, 7, 7, 7, 7, 7, 7, 7, 7, 7, 7, 7, 7, 7, 7, 7, 7, 7, 7, 7, 7, 7, 7, 7, 7, 7, 7, 7, 7, 7, 7, 7, 7, 7, 7, 7, 7, 7, 7, 7, 7, 7, 7, 8, 8, 8, 8, 8, 8, 8, 8, 8, 8, 8, 8, 8, 8, 8, 8, 8, 8, 8, 8, 8, 8, 8, 8, 8, 8, 8, 8, 8, 8, 8, 8, 8, 8, 8, 8, 8, 8, 8, 8, 8, 8, 8, 8, 8, 8, 8, 8, 8, 8, 8, 8, 8, 8, 8, 8, 8, 8, 8, 8, 8, 8, 8, 8, 8, 8, 8, 8, 8, 8, 8, 8, 8, 8, 8, 8, 8, 8, 8, 8, 8, 8, 8, 8, 8, 8, 8, 8, 8, 8, 8, 8, 8, 8, 8, 8, 8, 8, 8, 8, 8, 8, 8, 8, 8, 8, 8, 8, 8, 8, 8, 8, 8, 8, 8, 8, 8, 8, 8, 8, 8, 8, 8, 8, 8, 8, 8, 8]) (IntKind.wrap .u8 (v0))).bind fun b2 =>
    some (W (v2 + (W ((b2.toNat : Int))))))

def math_bits_Len64.j4 (v0 : Int) (v2 : Int) : Option Int :=
  ifE (decide (v0 ≥ 65536)) (
    math_bits_Len64.j7 (Int.fdiv v0 (2 ^ 16)) (W (v2 + 16))) (
    math_bits_Len64.j7 v0 v2)

def math_bits_Len64.f (a0 : Int) : Option Int :=
  ifE (decide (a0 ≥ 4294967296)) (
    math_bits_Len64.j4 (Int.fdiv a0 (2 ^ 32)) 32) (
    math_bits_Len64.j4 a0 0)

def math_bits_LeadingZeros64.f (a0 : Int) : Option Int :=
  (math_bits_Len64.f a0).bind fun r1 =>
  some (W (64 - r1))

def math_bits_Div64.j25 (rec24 : Int → Int → Int → Int → Int → Int → Int → Int → Int → Option (Int × Int)) (v2 : Int) (v8 : Int) (v9 : Int) (v10 : Int) (v14 : Int) (v15 : Int) (v16 : Int) (v17 : Int) (v18 : Int) : Option (Int × Int) :=
  ifE (decide ((IntKind.wrap .u64 (v16 + v9)) ≥ 4294967296)) (
    guardE (0 ≤ v8 ∧ v8 < ((64 : Nat) : Int)) <|
    some (IntKind.wrap .u64 ((IntKind.wrap .u64 (v15 * 4294967296)) + (IntKind.wrap .u64 (v18 - 1))), Int.fdiv (IntKind.wrap .u64 ((IntKind.wrap .u64 ((IntKind.wrap .u64 (v17 * 4294967296)) + v14)) - (IntKind.wrap .u64 ((IntKind.wrap .u64 (v18 - 1)) * v2)))) (2 ^ (Int.toNat v8)))) (
    rec24 v2 v8 v9 v10 v14 v15 (IntKind.wrap .u64 (v16 + v9)) v17 (IntKind.wrap .u64 (v18 - 1)))

def math_bits_Div64.s24 (rec24 : Int → Int → Int → Int → Int → Int → Int → Int → Int → Option (Int × Int)) (v2 : Int) (v8 : Int) (v9 : Int) (v10 : Int) (v14 : Int) (v15 : Int) (v16 : Int) (v17 : Int) (v18 : Int) : Option (Int × Int) :=
  ifE (decide (v18 ≥ 4294967296)) (
    math_bits_Div64.j25 rec24 v2 v8 v9 v10 v14 v15 v16 v17 v18) (
    ifE (decide ((IntKind.wrap .u64 (v18 * v10)) > (IntKind.wrap .u64 ((IntKind.wrap .u64 (4294967296 * v16)) + v14)))) (
      math_bits_Div64.j25 rec24 v2 v8 v9 v10 v14 v15 v16 v17 v18) (
      guardE (0 ≤ v8 ∧ v8 < ((64 : Nat) : Int)) <|
      some (IntKind.wrap .u64 ((IntKind.wrap .u64 (v15 * 4294967296)) + v18), Int.fdiv (IntKind.wrap .u64 ((IntKind.wrap .u64 ((IntKind.wrap .u64 (v17 * 4294967296)) + v14)) - (IntKind.wrap .u64 (v18 * v2)))) (2 ^ (Int.toNat v8)))))

def math_bits_Div64.l24 : Nat → Int → Int → Int → Int → Int → Int → Int → Int → Int → Option (Int × Int)
  | 0 => fun _ _ _ _ _ _ _ _ _ => none
  | k + 1 => math_bits_Div64.s24 (math_bits_Div64.l24 k)

def math_bits_Div64.j18 (rec17 : Int → Int → Int → Int → Int → Int → Int → Int → Int → Option (Int × Int)) (v2 : Int) (v8 : Int) (v9 : Int) (v10 : Int) (v11 : Int) (v13 : Int) (v14 : Int) (v15 : Int) (v16 : Int) : Option (Int × Int) :=
  ifE (decide ((IntKind.wrap .u64 (v16 + v9)) ≥ 4294967296)) (
    guardE (v9 ≠ 0) <|
    math_bits_Div64.l24 fuelN v2 v8 v9 v10 v14 (IntKind.wrap .u64 (v15 - 1)) (IntKind.wrap .u64 ((IntKind.wrap .u64 ((IntKind.wrap .u64 ((IntKind.wrap .u64 (v11 * 4294967296)) + v13)) - (IntKind.wrap .u64 ((IntKind.wrap .u64 (v15 - 1)) * v2)))) - (IntKind.wrap .u64 ((IntKind.wrap .u64 (Int.tdiv (IntKind.wrap .u64 ((IntKind.wrap .u64 ((IntKind.wrap .u64 (v11 * 4294967296)) + v13)) - (IntKind.wrap .u64 ((IntKind.wrap .u64 (v15 - 1)) * v2)))) v9)) * v9)))) (IntKind.wrap .u64 ((IntKind.wrap .u64 ((IntKind.wrap .u64 (v11 * 4294967296)) + v13)) - (IntKind.wrap .u64 ((IntKind.wrap .u64 (v15 - 1)) * v2)))) (IntKind.wrap .u64 (Int.tdiv (IntKind.wrap .u64 ((IntKind.wrap .u64 ((IntKind.wrap .u64 (v11 * 4294967296)) + v13)) - (IntKind.wrap .u64 ((IntKind.wrap .u64 (v15 - 1)) * v2)))) v9))) (
    rec17 v2 v8 v9 v10 v11 v13 v14 (IntKind.wrap .u64 (v15 - 1)) (IntKind.wrap .u64 (v16 + v9)))

def math_bits_Div64.s17 (rec17 : Int → Int → Int → Int → Int → Int → Int → Int → Int → Option (Int × Int)) (v2 : Int) (v8 : Int) (v9 : Int) (v10 : Int) (v11 : Int) (v13 : Int) (v14 : Int) (v15 : Int) (v16 : Int) : Option (Int × Int) :=
  ifE (decide (v15 ≥ 4294967296)) (
    math_bits_Div64.j18 rec17 v2 v8 v9 v10 v11 v13 v14 v15 v16) (
    ifE (decide ((IntKind.wrap .u64 (v15 * v10)) > (IntKind.wrap .u64 ((IntKind.wrap .u64 (4294967296 * v16)) + v13)))) (
      math_bits_Div64.j18 rec17 v2 v8 v9 v10 v11 v13 v14 v15 v16) (
      guardE (v9 ≠ 0) <|
      math_bits_Div64.l24 fuelN v2 v8 v9 v10 v14 v15 (IntKind.wrap .u64 ((IntKind.wrap .u64 ((IntKind.wrap .u64 ((IntKind.wrap .u64 (v11 * 4294967296)) + v13)) - (IntKind.wrap .u64 (v15 * v2)))) - (IntKind.wrap .u64 ((IntKind.wrap .u64 (Int.tdiv (IntKind.wrap .u64 ((IntKind.wrap .u64 ((IntKind.wrap .u64 (v11 * 4294967296)) + v13)) - (IntKind.wrap .u64 (v15 * v2)))) v9)) * v9)))) (IntKind.wrap .u64 ((IntKind.wrap .u64 ((IntKind.wrap .u64 (v11 * 4294967296)) + v13)) - (IntKind.wrap .u64 (v15 * v2)))) (IntKind.wrap .u64 (Int.tdiv (IntKind.wrap .u64 ((IntKind.wrap .u64 ((IntKind.wrap .u64 (v11 * 4294967296)) + v13)) - (IntKind.wrap .u64 (v15 * v2)))) v9))))

def math_bits_Div64.l17 : Nat → Int → Int → Int → Int → Int → Int → Int → Int → Int → Option (Int × Int)
  | 0 => fun _ _ _ _ _ _ _ _ _ => none
  | k + 1 => math_bits_Div64.s17 (math_bits_Div64.l17 k)

def math_bits_Div64.f (a0 : Int) (a1 : Int) (a2 : Int) : Option (Int × Int) :=
  ifE (a2 == 0) (
    none) (
    ifE (decide (a2 ≤ a0)) (
      none) (
      ifE (a0 == 0) (
        guardE (a2 ≠ 0) <|
        guardE (a2 ≠ 0) <|
        some (IntKind.wrap .u64 (Int.tdiv a1 a2), Int.tmod a1 a2)) (
        (math_bits_LeadingZeros64.f a2).bind fun r1 =>
        guardE (0 ≤ (IntKind.wrap .u64 (r1)) ∧ (IntKind.wrap .u64 (r1)) < ((64 : Nat) : Int)) <|
        guardE (0 ≤ (IntKind.wrap .u64 (r1)) ∧ (IntKind.wrap .u64 (r1)) < ((64 : Nat) : Int)) <|
        guardE (0 ≤ (IntKind.wrap .u64 (64 - (IntKind.wrap .u64 (r1)))) ∧ (IntKind.wrap .u64 (64 - (IntKind.wrap .u64 (r1)))) < ((64 : Nat) : Int)) <|
        guardE (0 ≤ (IntKind.wrap .u64 (r1)) ∧ (IntKind.wrap .u64 (r1)) < ((64 : Nat) : Int)) <|
        guardE ((Int.fdiv (IntKind.wrap .u64 (a2 * 2 ^ (Int.toNat (IntKind.wrap .u64 (r1))))) (2 ^ 32)) ≠ 0) <|
        math_bits_Div64.l17 fuelN (IntKind.wrap .u64 (a2 * 2 ^ (Int.toNat (IntKind.wrap .u64 (r1))))) (IntKind.wrap .u64 (r1)) (Int.fdiv (IntKind.wrap .u64 (a2 * 2 ^ (Int.toNat (IntKind.wrap .u64 (r1))))) (2 ^ 32)) (IntKind.wrap .u64 ((((BitVec.ofInt 64 (IntKind.wrap .u64 (a2 * 2 ^ (Int.toNat (IntKind.wrap .u64 (r1)))))) &&& (BitVec.ofInt 64 4294967295)).toNat : Int))) (IntKind.wrap .u64 ((((BitVec.ofInt 64 (IntKind.wrap .u64 (a0 * 2 ^ (Int.toNat (IntKind.wrap .u64 (r1)))))) ||| (BitVec.ofInt 64 (Int.fdiv a1 (2 ^ (Int.toNat (IntKind.wrap .u64 (64 - (IntKind.wrap .u64 (r1))))))))).toNat : Int))) (Int.fdiv (IntKind.wrap .u64 (a1 * 2 ^ (Int.toNat (IntKind.wrap .u64 (r1))))) (2 ^ 32)) (IntKind.wrap .u64 ((((BitVec.ofInt 64 (IntKind.wrap .u64 (a1 * 2 ^ (Int.toNat (IntKind.wrap .u64 (r1)))))) &&& (BitVec.ofInt 64 4294967295)).toNat : Int))) (IntKind.wrap .u64 (Int.tdiv (IntKind.wrap .u64 ((((BitVec.ofInt 64 (IntKind.wrap .u64 (a0 * 2 ^ (Int.toNat (IntKind.wrap .u64 (r1)))))) ||| (BitVec.ofInt 64 (Int.fdiv a1 (2 ^ (Int.toNat (IntKind.wrap .u64 (64 - (IntKind.wrap .u64 (r1))))))))).toNat : Int))) (Int.fdiv (IntKind.wrap .u64 (a2 * 2 ^ (Int.toNat (IntKind.wrap .u64 (r1))))) (2 ^ 32)))) (IntKind.wrap .u64 ((IntKind.wrap .u64 ((((BitVec.ofInt 64 (IntKind.wrap .u64 (a0 * 2 ^ (Int.toNat (IntKind.wrap .u64 (r1)))))) ||| (BitVec.ofInt 64 (Int.fdiv a1 (2 ^ (Int.toNat (IntKind.wrap .u64 (64 - (IntKind.wrap .u64 (r1))))))))).toNat : Int))) - (IntKind.wrap .u64 ((IntKind.wrap .u64 (Int.tdiv (IntKind.wrap .u64 ((((BitVec.ofInt 64 (IntKind.wrap .u64 (a0 * 2 ^ (Int.toNat (IntKind.wrap .u64 (r1)))))) ||| (BitVec.ofInt 64 (Int.fdiv a1 (2 ^ (Int.toNat (IntKind.wrap .u64 (64 - (IntKind.wrap .u64 (r1))))))))).toNat : Int))) (Int.fdiv (IntKind.wrap .u64 (a2 * 2 ^ (Int.toNat (IntKind.wrap .u64 (r1))))) (2 ^ 32)))) * (Int.fdiv (IntKind.wrap .u64 (a2 * 2 ^ (Int.toNat (IntKind.wrap .u64 (r1))))) (2 ^ 32)))))))))

def impl_times.f (a0 : Int) (a1 : Int) (a2 : Int) : Option Int :=
  (impl_mod.f a0 a2).bind fun r1 =>
  (impl_mod.f a1 a2).bind fun r2 =>
  (math_bits_Mul64.f (IntKind.wrap .u64 (r1)) (IntKind.wrap .u64 (r2))).bind fun r3 =>
  guardE ((IntKind.wrap .u64 (a2)) ≠ 0) <|
  (math_bits_Div64.f (Int.tmod r3.1 (IntKind.wrap .u64 (a2))) r3.2 (IntKind.wrap .u64 (a2))).bind fun r4 =>
  some (W (r4.2))

def impl_unit.f (a0 : Int) (a1 : Int) : Option Int :=
  (impl_valuation.f a0 a1).bind fun r1 =>
  (impl_power.f a0 r1).bind fun r2 =>
  guardE (r2 ≠ 0) <|
  some (W (Int.tdiv a1 r2))

def impl_inverse.s2 (rec2 : Int → Int → Int → Int → Int → Option Int) (v1 : Int) (v5 : Int) (v6 : Int) (v7 : Int) (v8 : Int) : Option Int :=
  ifE (v6 != 0) (
    guardE (v6 ≠ 0) <|
    rec2 v1 v6 (W (v5 - (W ((W (Int.tdiv v5 v6)) * v6)))) v8 (W (v7 - (W ((W (Int.tdiv v5 v6)) * v8))))) (
    (impl_mod.f v7 v1).bind fun r2 =>
    some r2)

def impl_inverse.l2 : Nat → Int → Int → Int → Int → Int → Option Int
  | 0 => fun _ _ _ _ _ => none
  | k + 1 => impl_inverse.s2 (impl_inverse.l2 k)

def impl_inverse.f (a0 : Int) (a1 : Int) : Option Int :=
  (impl_mod.f a0 a1).bind fun r1 =>
  impl_inverse.l2 fuelN a1 r1 a1 1 0

def impl_ballAt.f (a0 : Int) (a1 : Int) (a2 : Int) (a3 : Int) : Option (Siii × Bool) :=
  (impl_isLevel.f a3).bind fun r1 =>
  ifE (!r1) (
    some ((⟨0, 0, 0⟩ : Siii), false)) (
    (impl_valuation.f a0 a1).bind fun r2 =>
    (impl_valuation.f a0 a2).bind fun r3 =>
    ifE (a1 == 0) (
      some ((⟨a3, 0, 0⟩ : Siii), true)) (
      ifE (decide ((W (r2 - r3)) ≥ a3)) (
        some ((⟨a3, 0, 0⟩ : Siii), true)) (
        ifE (decide ((W (r2 - r3)) < (-6))) (
          some ((⟨0, 0, 0⟩ : Siii), false)) (
          (impl_power.f a0 (W (a3 + 6))).bind fun r4 =>
          (impl_unit.f a0 a1).bind fun r5 =>
          (impl_unit.f a0 a2).bind fun r6 =>
          (impl_inverse.f r6 r4).bind fun r7 =>
          (impl_times.f r5 r7 r4).bind fun r8 =>
          (impl_power.f a0 (W ((W (r2 - r3)) + 6))).bind fun r9 =>
          (impl_times.f r8 r9 r4).bind fun r10 =>
          (impl_ofMark.f a0 a3 r10).bind fun r11 =>
          some (r11.1, r11.2)))))

end Go.Gn
end
section
set_option linter.unusedVariables false
set_option maxRecDepth 100000
open Go Go.Eng
namespace Go.Gn
structure Sii where
  c0 : Int
  c1 : Int
  deriving DecidableEq, Inhabited

def Sii.cells (x : Sii) : List DV := [I x.c0, I x.c1]

structure Siiib where
  c0 : Int
  c1 : Int
  c2 : Int
  c3 : Bool
  deriving DecidableEq, Inhabited

def Siiib.cells (x : Siiib) : List DV := [I x.c0, I x.c1, I x.c2, B x.c3]

def spec_l01Bad.f (a0 : SLu8eiu64) (a1 : Siii) : Option (Siii × SLu8eiu64) :=
  (spec_l01Next.f a0 40).bind fun r1 =>
  ifE (r1.1 == 0) (
    (spec_l01Pick.f r1.2 [(-7), 7, W (a1.c0 - 1), 1099511627776]).bind fun r2 =>
    some ((⟨r2.1, a1.c1, a1.c2⟩ : Siii), r2.2)) (
    ifE (r1.1 == 1) (
      (spec_l01Pick.f r1.2 [(-1), W (a1.c1 * 7), 1099511627776]).bind fun r3 =>
      some ((⟨a1.c0, r3.1, a1.c2⟩ : Siii), r3.2)) (
      ifE (r1.1 == 2) (
        (spec_l01Pick.f r1.2 [(-1), W (a1.c2 + 1), 7]).bind fun r4 =>
        some ((⟨a1.c0, a1.c1, r4.1⟩ : Siii), r4.2)) (
        some (a1, r1.2))))

def spec_l01Draw.f (a0 : SLu8eiu64) (a1 : Int) : Option (Siii × SLu8eiu64) :=
  (spec_l01Next.f a0 13).bind fun r1 =>
  (spec_l01Pick.f r1.2 [0, 1, 2, 3, W (r1.1 - 6)]).bind fun r2 =>
  (spec_l01Next.f r2.2 6).bind fun r3 =>
  ifE (r3.1 == 0) (
    some ((⟨r2.1, 0, 0⟩ : Siii), r3.2)) (
    (spec_l01Next.f r3.2 20).bind fun r4 =>
    (spec_l01Next.f r4.2 2000000).bind fun r5 =>
    (spec_l01Pick.f r5.2 [W (r4.1 - 10), W (r5.1 - 1000000)]).bind fun r6 =>
    (spec_l01Next.f r6.2 7).bind fun r7 =>
    (spec_l01Pick.f r7.2 [0, 0, 1, 2, r7.1]).bind fun r8 =>
    (spec_l01Power.f a1 r8.1).bind fun r9 =>
    (spec_l01Of.f a1 r6.1 r9 r2.1).bind fun r10 =>
    ifE (!r10.2) (
      some ((⟨r2.1, 0, 0⟩ : Siii), r8.2)) (
      some (r10.1, r8.2)))

def spec_l09Side.f (a0 : SLu8eiu64) (a1 : Int) : Option (Siiib × SLu8eiu64) :=
  (spec_l01Draw.f a0 (imin (imax a1 2) 7)).bind fun r1 =>
  (spec_l01Bad.f r1.2 r1.1).bind fun r2 =>
  (spec_l01Next.f r2.2 4).bind fun r3 =>
  some ((⟨r2.1.c0, r2.1.c1, r2.1.c2, r3.1 == 0⟩ : Siiib), r3.2)

def spec_DrawMoveSide.f (a0 : (List Int)) : Option (Int × Siiii × Siiib) :=
  (spec_l01From.f a0).bind fun r1 =>
  (spec_l01Pick.f r1 [2, 3, 5, 7, 2, 3, 4]).bind fun r2 =>
  (spec_l04Draw.f r2.2).bind fun r3 =>
  (spec_l09Side.f r3.2 r2.1).bind fun r4 =>
  some (r2.1, r3.1, r4.1)

def impl_areSides.s2 (rec2 : Int → (List Siiib) → Int → Int → Option Bool) (v0 : Int) (v7 : (List Siiib)) (v8 : Int) (v9 : Int) : Option Bool :=
  ifE (decide (v9 < v8)) (
    (getE v7 v9).bind fun e1 =>
    (impl_IsBall.f v0 (⟨e1.c0, e1.c1, e1.c2⟩ : Siii)).bind fun r2 =>
    ifE (!r2) (
      some false) (
      rec2 v0 v7 v8 (W (v9 + 1)))) (
    (impl_isPrime.f v0).bind fun r3 =>
    some r3)

def impl_areSides.l2 : Nat → Int → (List Siiib) → Int → Int → Option Bool
  | 0 => fun _ _ _ _ => none
  | k + 1 => impl_areSides.s2 (impl_areSides.l2 k)

def impl_areSides.f (a0 : Int) (a1 : (List Siiib)) : Option Bool :=
  impl_areSides.l2 fuelN a0 a1 (a1.length : Int) 0

def impl_moveSide.j8 (v0 : Int) (v10 : Int) (v11 : Int) (v12 : Int) (o5_0 : Int) (o5_1 : Int) (o5_2 : Int) (o5_3 : Bool) (o6_0 : Int) (o6_1 : Int) (o6_2 : Int) (o6_3 : Bool) : Option (Siiib × Bool) :=
  (impl_valuation.f v0 v11).bind fun r8 =>
  (impl_ballAt.f v0 v10 v11 (W ((W (o5_0 + v12)) - (W (2 * (W (r8 - 6))))))).bind fun r9 =>
  some ((⟨r9.1.c0, r9.1.c1, r9.1.c2, o5_3⟩ : Siiib), r9.2)

def impl_moveSide.f (a0 : Int) (a1 : Siiii) (a2 : Siiib) : Option (Siiib × Bool) :=
  (impl_mark.f a0 (⟨a2.c0, a2.c1, a2.c2⟩ : Siii)).bind fun r1 =>
  (impl_power.f a0 6).bind fun r2 =>
  (impl_determinant.f a1).bind fun r3 =>
  (impl_valuation.f a0 r3).bind fun r4 =>
  (impl_valuation.f a0 a1.c2).bind fun r5 =>
  ifE (a1.c2 != 0) (
    (impl_valuation.f a0 (W ((W (a1.c2 * r1)) + (W (a1.c3 * r2))))).bind fun r6 =>
    ifE (decide ((W (r6 - 6)) ≥ (W (a2.c0 + r5)))) (
      (impl_ballAt.f a0 a1.c0 a1.c2 (W ((W ((W (r4 - (W (2 * r5)))) - a2.c0)) + 1))).bind fun r7 =>
      some ((⟨r7.1.c0, r7.1.c1, r7.1.c2, !a2.c3⟩ : Siiib), r7.2)) (
      impl_moveSide.j8 a0 (W ((W (a1.c0 * r1)) + (W (a1.c1 * r2)))) (W ((W (a1.c2 * r1)) + (W (a1.c3 * r2)))) r4 a2.c0 a2.c1 a2.c2 a2.c3 0 0 0 false)) (
    impl_moveSide.j8 a0 (W ((W (a1.c0 * r1)) + (W (a1.c1 * r2)))) (W ((W (a1.c2 * r1)) + (W (a1.c3 * r2)))) r4 a2.c0 a2.c1 a2.c2 a2.c3 0 0 0 false)

def impl_MoveSide.f (a0 : Int) (a1 : Siiii) (a2 : Siiib) : Option (Siiib × Int) :=
  (impl_areSides.f a0 [a2]).bind fun r1 =>
  ifE (!r1) (
    some ((⟨0, 0, 0, false⟩ : Siiib), 1)) (
    (impl_IsMatrix.f a1).bind fun r2 =>
    ifE (!r2) (
      some ((⟨0, 0, 0, false⟩ : Siiib), 1)) (
      (impl_moveSide.f a0 a1 a2).bind fun r3 =>
      ifE (!r3.2) (
        some ((⟨0, 0, 0, false⟩ : Siiib), 3)) (
        some (r3.1, 0))))

def spec_l09Code.s4 (rec4 : Int → (List Siiib) → Int → Option Int) (v0 : Int) (v1 : (List Siiib)) (v5 : Int) : Option Int :=
  ifE (decide (v5 < (v1.length : Int))) (
    (getE v1 v5).bind fun e2 =>
    (spec_l01Is.f v0 (⟨e2.c0, e2.c1, e2.c2⟩ : Siii)).bind fun r3 =>
    ifE (!r3) (
      some 1) (
      rec4 v0 v1 (W (v5 + 1)))) (
    some 0)

def spec_l09Code.l4 : Nat → Int → (List Siiib) → Int → Option Int
  | 0 => fun _ _ _ => none
  | k + 1 => spec_l09Code.s4 (spec_l09Code.l4 k)

def spec_l09Code.f (a0 : Int) (a1 : (List Siiib)) : Option Int :=
  (spec_l01Prime.f a0).bind fun r1 =>
  ifE (!r1) (
    some 1) (
    spec_l09Code.l4 fuelN a0 a1 0)

def spec_l09Move.j6 (v0 : Int) (v9 : Int) (v10 : Int) (v11 : Int) (v12 : Int) (v13 : Bool) (o4_0 : Int) (o4_1 : Int) (o4_2 : Int) (o4_3 : Int) (o5_0 : Int) (o5_1 : Int) (o5_2 : Int) (o5_3 : Bool) (o6_0 : Int) (o6_1 : Int) (o6_2 : Int) (o6_3 : Bool) : Option (Siiib × Bool) :=
  ifE (!v13) (
    (spec_l01Val.f v0 v11).bind fun r5 =>
    (spec_l01Of.f v0 v10 v11 (W ((W (v9 + o5_0)) - (W (2 * (W (r5 - o5_2))))))).bind fun r6 =>
    some ((⟨r6.1.c0, r6.1.c1, r6.1.c2, o5_3⟩ : Siiib), r6.2)) (
    (spec_l01Val.f v0 v12).bind fun r7 =>
    (spec_l01Of.f v0 o4_0 v12 (W ((W ((W (v9 - (W (2 * r7)))) - o5_0)) + 1))).bind fun r8 =>
    some ((⟨r8.1.c0, r8.1.c1, r8.1.c2, !o5_3⟩ : Siiib), r8.2))

def spec_l09Move.f (a0 : Int) (a1 : Siiii) (a2 : Siiib) : Option (Siiib × Bool) :=
  (spec_l01Power.f a0 a2.c2).bind fun r1 =>
  (spec_l01Val.f a0 (W ((W (a1.c0 * a1.c3)) - (W (a1.c1 * a1.c2))))).bind fun r2 =>
  ifE (a1.c2 != 0) (
    ifE ((W ((W (a1.c2 * a2.c1)) + (W (a1.c3 * r1)))) == 0) (
      spec_l09Move.j6 a0 r2 (W ((W (a1.c0 * a2.c1)) + (W (a1.c1 * r1)))) (W ((W (a1.c2 * a2.c1)) + (W (a1.c3 * r1)))) a1.c2 true a1.c0 a1.c1 a1.c2 a1.c3 a2.c0 a2.c1 a2.c2 a2.c3 0 0 0 false) (
      (spec_l01Val.f a0 (W ((W (a1.c2 * a2.c1)) + (W (a1.c3 * r1))))).bind fun r3 =>
      (spec_l01Val.f a0 a1.c2).bind fun r4 =>
      spec_l09Move.j6 a0 r2 (W ((W (a1.c0 * a2.c1)) + (W (a1.c1 * r1)))) (W ((W (a1.c2 * a2.c1)) + (W (a1.c3 * r1)))) a1.c2 (decide ((W (r3 - a2.c2)) ≥ (W (r4 + a2.c0)))) a1.c0 a1.c1 a1.c2 a1.c3 a2.c0 a2.c1 a2.c2 a2.c3 0 0 0 false)) (
    spec_l09Move.j6 a0 r2 (W ((W (a1.c0 * a2.c1)) + (W (a1.c1 * r1)))) (W ((W (a1.c2 * a2.c1)) + (W (a1.c3 * r1)))) a1.c2 false a1.c0 a1.c1 a1.c2 a1.c3 a2.c0 a2.c1 a2.c2 a2.c3 0 0 0 false)

def spec_MoveSide.f (a0 : Int) (a1 : Siiii) (a2 : Siiib) : Option (Siiib × Int) :=
  (spec_l09Code.f a0 [a2]).bind fun r1 =>
  ifE (r1 != 0) (
    some ((⟨0, 0, 0, false⟩ : Siiib), 1)) (
    (spec_l04Is.f a1).bind fun r2 =>
    ifE (!r2) (
      some ((⟨0, 0, 0, false⟩ : Siiib), 1)) (
      (spec_l09Move.f a0 a1 a2).bind fun r3 =>
      ifE (!r3.2) (
        some ((⟨0, 0, 0, false⟩ : Siiib), 3)) (
        some (r3.1, 0))))

def impl_IsEnd.f (a0 : Sii) : Option Bool :=
  ifE (a0.c1 == 0) (
    some (a0.c0 == 1)) (
    (impl_within.f 1000000 [a0.c0, a0.c1]).bind fun r1 =>
    ifE r1 (
      ifE (decide (a0.c1 > 0)) (
        (impl_gcd.f a0.c0 a0.c1).bind fun r2 =>
        some (r2 == 1)) (
        some false)) (
      some false))

def impl_fittedEnd.f (a0 : Sii) (a1 : Bool) : Option (Sii × Int) :=
  ifE (!a1) (
    some ((⟨0, 0⟩ : Sii), 3)) (
    some (a0, 0))

def impl_endAt.j6 (v0 : Int) (v1 : Int) (v6 : Int) (o4_0 : Int) (o4_1 : Int) : Option (Sii × Bool) :=
  guardE (v6 ≠ 0) <|
  guardE (v6 ≠ 0) <|
  (impl_IsEnd.f (⟨W (Int.tdiv v0 v6), W (Int.tdiv v1 v6)⟩ : Sii)).bind fun r2 =>
  some ((⟨W (Int.tdiv v0 v6), W (Int.tdiv v1 v6)⟩ : Sii), r2)

def impl_endAt.f (a0 : Int) (a1 : Int) : Option (Sii × Bool) :=
  ifE (a1 == 0) (
    some ((⟨1, 0⟩ : Sii), true)) (
    (impl_gcd.f a0 a1).bind fun r1 =>
    ifE (decide (a1 < 0)) (
      impl_endAt.j6 a0 a1 (W (0 - r1)) 0 0) (
      impl_endAt.j6 a0 a1 r1 0 0))

def impl_moveEnd.f (a0 : Siiii) (a1 : Sii) : Option (Sii × Bool) :=
  (impl_endAt.f (W ((W (a0.c0 * a1.c0)) + (W (a0.c1 * a1.c1)))) (W ((W (a0.c2 * a1.c0)) + (W (a0.c3 * a1.c1))))).bind fun r1 =>
  some (r1.1, r1.2)

def impl_MoveEnd.f (a0 : Siiii) (a1 : Sii) : Option (Sii × Int) :=
  (impl_IsMatrix.f a0).bind fun r1 =>
  ifE (!r1) (
    some ((⟨0, 0⟩ : Sii), 1)) (
    (impl_IsEnd.f a1).bind fun r2 =>
    ifE (!r2) (
      some ((⟨0, 0⟩ : Sii), 1)) (
      (impl_moveEnd.f a0 a1).bind fun r3 =>
      (impl_fittedEnd.f r3.1 r3.2).bind fun r4 =>
      some (r4.1, r4.2)))

def impl_nearness.f (a0 : Int) (a1 : Siii) (a2 : Int) (a3 : Int) : Option Int :=
  (impl_power.f a0 6).bind fun r1 =>
  (impl_mark.f a0 a1).bind fun r2 =>
  ifE ((W ((W (a2 * r1)) - (W (r2 * a3)))) == 0) (
    some 1000) (
    (impl_valuation.f a0 (W ((W (a2 * r1)) - (W (r2 * a3))))).bind fun r3 =>
    (impl_valuation.f a0 a3).bind fun r4 =>
    some (W ((W (r3 - r4)) - 6)))

def impl_held.f (a0 : Int) (a1 : Siii) (a2 : Sii) : Option Bool :=
  ifE (a2.c1 != 0) (
    (impl_nearness.f a0 a1 a2.c0 a2.c1).bind fun r1 =>
    some (decide (r1 ≥ a1.c0))) (
    some false)

def impl_sideHas.f (a0 : Int) (a1 : Siiib) (a2 : Sii) : Option Bool :=
  (impl_held.f a0 (⟨a1.c0, a1.c1, a1.c2⟩ : Siii) a2).bind fun r1 =>
  some (!(r1 == a1.c3))

def impl_SideHas.f (a0 : Int) (a1 : Siiib) (a2 : Sii) : Option (Bool × Int) :=
  (impl_areSides.f a0 [a1]).bind fun r1 =>
  ifE (!r1) (
    some (false, 1)) (
    (impl_IsEnd.f a2).bind fun r2 =>
    ifE (!r2) (
      some (false, 1)) (
      (impl_sideHas.f a0 a1 a2).bind fun r3 =>
      some (r3, 0)))

def spec_l01DrawPrime.f (a0 : SLu8eiu64) : Option (Int × SLu8eiu64) :=
  (spec_l01Pick.f a0 [2, 2, 3, 3, 5, 7]).bind fun r1 =>
  some (r1.1, r1.2)

def spec_l01Spoil.f (a0 : SLu8eiu64) : Option (Int × Siii × SLu8eiu64) :=
  (spec_l01DrawPrime.f a0).bind fun r1 =>
  (spec_l01Draw.f r1.2 r1.1).bind fun r2 =>
  (spec_l01Bad.f r2.2 r2.1).bind fun r3 =>
  (spec_l01Next.f r3.2 40).bind fun r4 =>
  ifE (r4.1 == 0) (
    (spec_l01Pick.f r4.2 [0, 1, 4, 11, (-3)]).bind fun r5 =>
    some (r5.1, r3.1, r5.2)) (
    some (r1.1, r3.1, r4.2))

def spec_l01Parent.f (a0 : Int) (a1 : Siii) : Option (Siii × Bool) :=
  (spec_l01Power.f a0 a1.c2).bind fun r1 =>
  (spec_l01Of.f a0 a1.c1 r1 (W (a1.c0 - 1))).bind fun r2 =>
  some (r2.1, r2.2)

def spec_l01Two.s10 (rec10 : Int → Int → Int → Int → Int → Int → Int → Int → Int → Int → Int → Int → Int → Int → Int → Option (Int × Siii × Siii)) (v6 : Int) (v8 : Int) (v10 : Int) (o3_0 : Int) (o3_1 : Int) (o3_2 : Int) (o4_0 : Int) (o4_1 : Int) (o4_2 : Int) (o7_0 : Int) (o7_1 : Int) (o7_2 : Int) (o9_0 : Int) (o9_1 : Int) (o9_2 : Int) : Option (Int × Siii × Siii) :=
  ifE (decide (v10 > 0)) (
    (spec_l01Parent.f v8 (⟨o9_0, o9_1, o9_2⟩ : Siii)).bind fun r9 =>
    ifE r9.2 (
      rec10 v6 v8 (W (v10 - 1)) o3_0 o3_1 o3_2 o4_0 o4_1 o4_2 o7_0 o7_1 o7_2 r9.1.c0 r9.1.c1 r9.1.c2) (
      rec10 v6 v8 (W (v10 - 1)) o3_0 o3_1 o3_2 o4_0 o4_1 o4_2 o7_0 o7_1 o7_2 o9_0 o9_1 o9_2)) (
    some (v6, (⟨o7_0, o7_1, o7_2⟩ : Siii), (⟨o9_0, o9_1, o9_2⟩ : Siii)))

def spec_l01Two.l10 : Nat → Int → Int → Int → Int → Int → Int → Int → Int → Int → Int → Int → Int → Int → Int → Int → Option (Int × Siii × Siii)
  | 0 => fun _ _ _ _ _ _ _ _ _ _ _ _ _ _ _ => none
  | k + 1 => spec_l01Two.s10 (spec_l01Two.l10 k)

def spec_l01Two.j6 (v6 : Int) (v8 : Int) (o3_0 : Int) (o3_1 : Int) (o3_2 : Int) (o4_0 : Int) (o4_1 : Int) (o4_2 : Int) (o14_0 : (List Int)) (o14_1 : Int) (o14_2 : Int) (o7_0 : Int) (o7_1 : Int) (o7_2 : Int) : Option (Int × Siii × Siii) :=
  (spec_l01Draw.f (⟨o14_0, o14_1, o14_2⟩ : SLu8eiu64) v8).bind fun r4 =>
  (spec_l01Bad.f r4.2 r4.1).bind fun r5 =>
  (spec_l01Next.f r5.2 3).bind fun r6 =>
  ifE (r6.1 == 0) (
    (spec_l01Is.f v8 (⟨o7_0, o7_1, o7_2⟩ : Siii)).bind fun r7 =>
    ifE r7 (
      (spec_l01Next.f r6.2 4).bind fun r8 =>
      spec_l01Two.l10 fuelN v6 v8 r8.1 o3_0 o3_1 o3_2 o4_0 o4_1 o4_2 o7_0 o7_1 o7_2 o7_0 o7_1 o7_2) (
      some (v6, (⟨o7_0, o7_1, o7_2⟩ : Siii), r5.1))) (
    some (v6, (⟨o7_0, o7_1, o7_2⟩ : Siii), r5.1))

def spec_l01Two.f (a0 : (List Int)) : Option (Int × Siii × Siii) :=
  (spec_l01From.f a0).bind fun r1 =>
  (spec_l01Spoil.f r1).bind fun r2 =>
  (spec_l01Prime.f r2.1).bind fun r3 =>
  ifE (!r3) (
    spec_l01Two.j6 r2.1 2 0 0 0 0 0 0 r2.2.2.c0 r2.2.2.c1 r2.2.2.c2 r2.2.1.c0 r2.2.1.c1 r2.2.1.c2) (
    spec_l01Two.j6 r2.1 r2.1 0 0 0 0 0 0 r2.2.2.c0 r2.2.2.c1 r2.2.2.c2 r2.2.1.c0 r2.2.1.c1 r2.2.1.c2)

def spec_DrawPairedMover.f (a0 : (List Int)) : Option (Int × Siii × Siii) :=
  (spec_l01From.f a0).bind fun r1 =>
  (spec_l01Next.f r1 2).bind fun r2 =>
  ifE (r2.1 == 0) (
    (spec_l01Two.f a0).bind fun r3 =>
    some (r3.1, r3.2.1, r3.2.2)) (
    (spec_l01Pick.f r2.2 [2, 3, 5, 7]).bind fun r4 =>
    (spec_l01Next.f r4.2 20).bind fun r5 =>
    (spec_l01Pick.f r5.2 [1, 1, r4.1]).bind fun r6 =>
    (spec_l01Next.f r6.2 3).bind fun r7 =>
    (spec_l01Of.f r4.1 (W (r5.1 - 10)) r6.1 r7.1).bind fun r8 =>
    (spec_l01Next.f r7.2 20).bind fun r9 =>
    (spec_l01Pick.f r9.2 [1, 1, r4.1]).bind fun r10 =>
    (spec_l01Next.f r10.2 3).bind fun r11 =>
    (spec_l01Of.f r4.1 (W (r9.1 - 10)) r10.1 r11.1).bind fun r12 =>
    some (r4.1, r8.1, r12.1))

def impl_PairedMover.s16 (rec16 : Int → Int → Int → Int → Int → Int → Int → Int → Int → Int → Int → Int → Int → Option (Siiii × Int)) (v0 : Int) (v10 : Int) (v11 : Int) (o4_0 : Int) (o4_1 : Int) (o4_2 : Int) (o5_0 : Int) (o5_1 : Int) (o5_2 : Int) (o6_0 : Int) (o6_1 : Int) (o6_2 : Int) (o6_3 : Int) : Option (Siiii × Int) :=
  ifE (v10 != 0) (
    ifE (decide (v11 > 0)) (
      guardE (v0 ≠ 0) <|
      ifE ((Int.tmod v10 v0) == 0) (
        guardE (v0 ≠ 0) <|
        rec16 v0 (W (Int.tdiv v10 v0)) (W (v11 - 1)) o4_0 o4_1 o4_2 o5_0 o5_1 o5_2 o6_0 o6_1 o6_2 o6_3) (
        ifE (v10 == 0) (
          ifE (decide ((imax (imax o4_2 o5_2) 0) > 10)) (
            some ((⟨0, 0, 0, 0⟩ : Siiii), 3)) (
            (impl_power.f v0 (imax (imax o4_2 o5_2) 0)).bind fun r5 =>
            ifE (decide (r5 > 1000)) (
              some ((⟨0, 0, 0, 0⟩ : Siiii), 3)) (
              (impl_within.f 1000 [v10]).bind fun r6 =>
              ifE (!r6) (
                some ((⟨0, 0, 0, 0⟩ : Siiii), 3)) (
                (impl_power.f v0 (W ((imax (imax o4_2 o5_2) 0) - 0))).bind fun r7 =>
                ifE (decide (r7 > 1000)) (
                  some ((⟨0, 0, 0, 0⟩ : Siiii), 3)) (
                  (impl_power.f v0 (W ((imax (imax o4_2 o5_2) 0) - o5_2))).bind fun r8 =>
                  (impl_power.f v0 (W ((imax (imax o4_2 o5_2) 0) - 0))).bind fun r9 =>
                  (impl_power.f v0 (imax (imax o4_2 o5_2) 0)).bind fun r10 =>
                  (impl_power.f v0 (W ((imax (imax o4_2 o5_2) 0) - o4_2))).bind fun r11 =>
                  (impl_reduced.f (⟨W (o5_1 * r8), W (v10 * r9), r10, W ((W (0 - o4_1)) * r11)⟩ : Siiii)).bind fun r12 =>
                  (impl_fittedMatrix.f r12.1 r12.2).bind fun r13 =>
                  some (r13.1, r13.2)))))) (
          ifE (decide ((imax (imax o4_2 o5_2) v11) > 10)) (
            some ((⟨0, 0, 0, 0⟩ : Siiii), 3)) (
            (impl_power.f v0 (imax (imax o4_2 o5_2) v11)).bind fun r14 =>
            ifE (decide (r14 > 1000)) (
              some ((⟨0, 0, 0, 0⟩ : Siiii), 3)) (
              (impl_within.f 1000 [v10]).bind fun r15 =>
              ifE (!r15) (
                some ((⟨0, 0, 0, 0⟩ : Siiii), 3)) (
                (impl_power.f v0 (W ((imax (imax o4_2 o5_2) v11) - v11))).bind fun r16 =>
                ifE (decide (r16 > 1000)) (
                  some ((⟨0, 0, 0, 0⟩ : Siiii), 3)) (
                  (impl_power.f v0 (W ((imax (imax o4_2 o5_2) v11) - o5_2))).bind fun r17 =>
                  (impl_power.f v0 (W ((imax (imax o4_2 o5_2) v11) - v11))).bind fun r18 =>
                  (impl_power.f v0 (imax (imax o4_2 o5_2) v11)).bind fun r19 =>
                  (impl_power.f v0 (W ((imax (imax o4_2 o5_2) v11) - o4_2))).bind fun r20 =>
                  (impl_reduced.f (⟨W (o5_1 * r17), W (v10 * r18), r19, W ((W (0 - o4_1)) * r20)⟩ : Siiii)).bind fun r21 =>
                  (impl_fittedMatrix.f r21.1 r21.2).bind fun r22 =>
                  some (r22.1, r22.2)))))))) (
      ifE (v10 == 0) (
        ifE (decide ((imax (imax o4_2 o5_2) 0) > 10)) (
          some ((⟨0, 0, 0, 0⟩ : Siiii), 3)) (
          (impl_power.f v0 (imax (imax o4_2 o5_2) 0)).bind fun r23 =>
          ifE (decide (r23 > 1000)) (
            some ((⟨0, 0, 0, 0⟩ : Siiii), 3)) (
            (impl_within.f 1000 [v10]).bind fun r24 =>
            ifE (!r24) (
              some ((⟨0, 0, 0, 0⟩ : Siiii), 3)) (
              (impl_power.f v0 (W ((imax (imax o4_2 o5_2) 0) - 0))).bind fun r25 =>
              ifE (decide (r25 > 1000)) (
                some ((⟨0, 0, 0, 0⟩ : Siiii), 3)) (
                (impl_power.f v0 (W ((imax (imax o4_2 o5_2) 0) - o5_2))).bind fun r26 =>
                (impl_power.f v0 (W ((imax (imax o4_2 o5_2) 0) - 0))).bind fun r27 =>
                (impl_power.f v0 (imax (imax o4_2 o5_2) 0)).bind fun r28 =>
                (impl_power.f v0 (W ((imax (imax o4_2 o5_2) 0) - o4_2))).bind fun r29 =>
                (impl_reduced.f (⟨W (o5_1 * r26), W (v10 * r27), r28, W ((W (0 - o4_1)) * r29)⟩ : Siiii)).bind fun r30 =>
                (impl_fittedMatrix.f r30.1 r30.2).bind fun r31 =>
                some (r31.1, r31.2)))))) (
        ifE (decide ((imax (imax o4_2 o5_2) v11) > 10)) (
          some ((⟨0, 0, 0, 0⟩ : Siiii), 3)) (
          (impl_power.f v0 (imax (imax o4_2 o5_2) v11)).bind fun r32 =>
          ifE (decide (r32 > 1000)) (
            some ((⟨0, 0, 0, 0⟩ : Siiii), 3)) (
            (impl_within.f 1000 [v10]).bind fun r33 =>
            ifE (!r33) (
              some ((⟨0, 0, 0, 0⟩ : Siiii), 3)) (
              (impl_power.f v0 (W ((imax (imax o4_2 o5_2) v11) - v11))).bind fun r34 =>
              ifE (decide (r34 > 1000)) (
                some ((⟨0, 0, 0, 0⟩ : Siiii), 3)) (
                (impl_power.f v0 (W ((imax (imax o4_2 o5_2) v11) - o5_2))).bind fun r35 =>
                (impl_power.f v0 (W ((imax (imax o4_2 o5_2) v11) - v11))).bind fun r36 =>
                (impl_power.f v0 (imax (imax o4_2 o5_2) v11)).bind fun r37 =>
                (impl_power.f v0 (W ((imax (imax o4_2 o5_2) v11) - o4_2))).bind fun r38 =>
                (impl_reduced.f (⟨W (o5_1 * r35), W (v10 * r36), r37, W ((W (0 - o4_1)) * r38)⟩ : Siiii)).bind fun r39 =>
                (impl_fittedMatrix.f r39.1 r39.2).bind fun r40 =>
                some (r40.1, r40.2)))))))) (
    ifE (v10 == 0) (
      ifE (decide ((imax (imax o4_2 o5_2) 0) > 10)) (
        some ((⟨0, 0, 0, 0⟩ : Siiii), 3)) (
        (impl_power.f v0 (imax (imax o4_2 o5_2) 0)).bind fun r41 =>
        ifE (decide (r41 > 1000)) (
          some ((⟨0, 0, 0, 0⟩ : Siiii), 3)) (
          (impl_within.f 1000 [v10]).bind fun r42 =>
          ifE (!r42) (
            some ((⟨0, 0, 0, 0⟩ : Siiii), 3)) (
            (impl_power.f v0 (W ((imax (imax o4_2 o5_2) 0) - 0))).bind fun r43 =>
            ifE (decide (r43 > 1000)) (
              some ((⟨0, 0, 0, 0⟩ : Siiii), 3)) (
              (impl_power.f v0 (W ((imax (imax o4_2 o5_2) 0) - o5_2))).bind fun r44 =>
              (impl_power.f v0 (W ((imax (imax o4_2 o5_2) 0) - 0))).bind fun r45 =>
              (impl_power.f v0 (imax (imax o4_2 o5_2) 0)).bind fun r46 =>
              (impl_power.f v0 (W ((imax (imax o4_2 o5_2) 0) - o4_2))).bind fun r47 =>
              (impl_reduced.f (⟨W (o5_1 * r44), W (v10 * r45), r46, W ((W (0 - o4_1)) * r47)⟩ : Siiii)).bind fun r48 =>
              (impl_fittedMatrix.f r48.1 r48.2).bind fun r49 =>
              some (r49.1, r49.2)))))) (
      ifE (decide ((imax (imax o4_2 o5_2) v11) > 10)) (
        some ((⟨0, 0, 0, 0⟩ : Siiii), 3)) (
        (impl_power.f v0 (imax (imax o4_2 o5_2) v11)).bind fun r50 =>
        ifE (decide (r50 > 1000)) (
          some ((⟨0, 0, 0, 0⟩ : Siiii), 3)) (
          (impl_within.f 1000 [v10]).bind fun r51 =>
          ifE (!r51) (
            some ((⟨0, 0, 0, 0⟩ : Siiii), 3)) (
            (impl_power.f v0 (W ((imax (imax o4_2 o5_2) v11) - v11))).bind fun r52 =>
            ifE (decide (r52 > 1000)) (
              some ((⟨0, 0, 0, 0⟩ : Siiii), 3)) (
              (impl_power.f v0 (W ((imax (imax o4_2 o5_2) v11) - o5_2))).bind fun r53 =>
              (impl_power.f v0 (W ((imax (imax o4_2 o5_2) v11) - v11))).bind fun r54 =>
              (impl_power.f v0 (imax (imax o4_2 o5_2) v11)).bind fun r55 =>
              (impl_power.f v0 (W ((imax (imax o4_2 o5_2) v11) - o4_2))).bind fun r56 =>
              (impl_reduced.f (⟨W (o5_1 * r53), W (v10 * r54), r55, W ((W (0 - o4_1)) * r56)⟩ : Siiii)).bind fun r57 =>
              (impl_fittedMatrix.f r57.1 r57.2).bind fun r58 =>
              some (r58.1, r58.2)))))))

def impl_PairedMover.l16 : Nat → Int → Int → Int → Int → Int → Int → Int → Int → Int → Int → Int → Int → Int → Option (Siiii × Int)
  | 0 => fun _ _ _ _ _ _ _ _ _ _ _ _ _ => none
  | k + 1 => impl_PairedMover.s16 (impl_PairedMover.l16 k)

def impl_PairedMover.f (a0 : Int) (a1 : Siii) (a2 : Siii) : Option (Siiii × Int) :=
  (impl_areBalls.f a0 [a1, a2]).bind fun r1 =>
  ifE (!r1) (
    some ((⟨0, 0, 0, 0⟩ : Siiii), 1)) (
    (impl_apart.f a0 a1 a2).bind fun r2 =>
    ifE (!r2) (
      some ((⟨0, 0, 0, 0⟩ : Siiii), 5)) (
      ifE (decide (a1.c1 > 1000)) (
        some ((⟨0, 0, 0, 0⟩ : Siiii), 3)) (
        ifE (decide (a2.c1 > 1000)) (
          some ((⟨0, 0, 0, 0⟩ : Siiii), 3)) (
          ifE (decide ((W ((W ((W (a1.c0 + a2.c0)) - 1)) + (W (a1.c2 + a2.c2)))) ≥ 0)) (
            ifE (decide ((W ((W ((W (a1.c0 + a2.c0)) - 1)) + (W (a1.c2 + a2.c2)))) > 19)) (
              some ((⟨0, 0, 0, 0⟩ : Siiii), 3)) (
              (impl_power.f a0 (W ((W ((W (a1.c0 + a2.c0)) - 1)) + (W (a1.c2 + a2.c2))))).bind fun r3 =>
              impl_PairedMover.l16 fuelN a0 (W (r3 - (W (a1.c1 * a2.c1)))) (W (a1.c2 + a2.c2)) a1.c0 a1.c1 a1.c2 a2.c0 a2.c1 a2.c2 0 0 0 0)) (
            (impl_power.f a0 (W (0 - (W ((W ((W (a1.c0 + a2.c0)) - 1)) + (W (a1.c2 + a2.c2))))))).bind fun r4 =>
            impl_PairedMover.l16 fuelN a0 (W (1 - (W ((W (a1.c1 * a2.c1)) * r4)))) (W (0 - (W ((W (a1.c0 + a2.c0)) - 1)))) a1.c0 a1.c1 a1.c2 a2.c0 a2.c1 a2.c2 0 0 0 0)))))

def spec_l09Paired.j22 (rec19 : Int → Int → Int → Int → Int → Int → Int → Int → Int → Int → Option (Siiii × Bool)) (v14 : Int) (v17 : Int) (o6_0 : Int) (o6_1 : Int) (o6_2 : Int) (o6_3 : Int) (o13_0 : Int) (o13_1 : Int) (o13_2 : Int) (o13_3 : Int) : Option (Siiii × Bool) :=
  ifE (v17 == 0) (
    (spec_l01In.f o13_0 (-1000) 1000).bind fun r13 =>
    ifE (!r13) (
      some ((⟨0, 0, 0, 0⟩ : Siiii), false)) (
      rec19 v14 (W (v17 + 1)) o6_0 o6_1 o6_2 o6_3 o13_0 o13_1 o13_2 o13_3)) (
    ifE (v17 == 1) (
      (spec_l01In.f o13_1 (-1000) 1000).bind fun r14 =>
      ifE (!r14) (
        some ((⟨0, 0, 0, 0⟩ : Siiii), false)) (
        rec19 v14 (W (v17 + 1)) o6_0 o6_1 o6_2 o6_3 o13_0 o13_1 o13_2 o13_3)) (
      ifE (v17 == 2) (
        (spec_l01In.f o13_2 (-1000) 1000).bind fun r15 =>
        ifE (!r15) (
          some ((⟨0, 0, 0, 0⟩ : Siiii), false)) (
          rec19 v14 (W (v17 + 1)) o6_0 o6_1 o6_2 o6_3 o13_0 o13_1 o13_2 o13_3)) (
        ifE (v17 == 3) (
          (spec_l01In.f o13_3 (-1000) 1000).bind fun r16 =>
          ifE (!r16) (
            some ((⟨0, 0, 0, 0⟩ : Siiii), false)) (
            rec19 v14 (W (v17 + 1)) o6_0 o6_1 o6_2 o6_3 o13_0 o13_1 o13_2 o13_3)) (
          none))))

def spec_l09Paired.s19 (rec19 : Int → Int → Int → Int → Int → Int → Int → Int → Int → Int → Option (Siiii × Bool)) (v14 : Int) (v17 : Int) (o6_0 : Int) (o6_1 : Int) (o6_2 : Int) (o6_3 : Int) (o13_0 : Int) (o13_1 : Int) (o13_2 : Int) (o13_3 : Int) : Option (Siiii × Bool) :=
  ifE (decide (v17 < 4)) (
    ifE (v17 == 0) (
      guardE (v14 ≠ 0) <|
      spec_l09Paired.j22 rec19 v14 v17 o6_0 o6_1 o6_2 o6_3 (W (Int.tdiv o13_0 v14)) o13_1 o13_2 o13_3) (
      ifE (v17 == 1) (
        guardE (v14 ≠ 0) <|
        spec_l09Paired.j22 rec19 v14 v17 o6_0 o6_1 o6_2 o6_3 o13_0 (W (Int.tdiv o13_1 v14)) o13_2 o13_3) (
        ifE (v17 == 2) (
          guardE (v14 ≠ 0) <|
          spec_l09Paired.j22 rec19 v14 v17 o6_0 o6_1 o6_2 o6_3 o13_0 o13_1 (W (Int.tdiv o13_2 v14)) o13_3) (
          ifE (v17 == 3) (
            guardE (v14 ≠ 0) <|
            spec_l09Paired.j22 rec19 v14 v17 o6_0 o6_1 o6_2 o6_3 o13_0 o13_1 o13_2 (W (Int.tdiv o13_3 v14))) (
            none))))) (
    some ((⟨o13_0, o13_1, o13_2, o13_3⟩ : Siiii), true))

def spec_l09Paired.l19 : Nat → Int → Int → Int → Int → Int → Int → Int → Int → Int → Int → Option (Siiii × Bool)
  | 0 => fun _ _ _ _ _ _ _ _ _ _ => none
  | k + 1 => spec_l09Paired.s19 (spec_l09Paired.l19 k)

def spec_l09Paired.s13 (rec13 : Int → Int → Int → Int → Int → Int → Int → Int → Int → Int → Option (Siiii × Bool)) (v14 : Int) (v16 : Int) (o6_0 : Int) (o6_1 : Int) (o6_2 : Int) (o6_3 : Int) (o13_0 : Int) (o13_1 : Int) (o13_2 : Int) (o13_3 : Int) : Option (Siiii × Bool) :=
  ifE (decide (v16 < 4)) (
    ifE (v16 == 0) (
      ifE (o13_0 != 0) (
        ifE (decide (o13_0 < 0)) (
          spec_l09Paired.l19 fuelN (W (0 - v14)) 0 o6_0 o6_1 o6_2 o6_3 o13_0 o13_1 o13_2 o13_3) (
          spec_l09Paired.l19 fuelN v14 0 o6_0 o6_1 o6_2 o6_3 o13_0 o13_1 o13_2 o13_3)) (
        rec13 v14 (W (v16 + 1)) o6_0 o6_1 o6_2 o6_3 o13_0 o13_1 o13_2 o13_3)) (
      ifE (v16 == 1) (
        ifE (o13_1 != 0) (
          ifE (decide (o13_1 < 0)) (
            spec_l09Paired.l19 fuelN (W (0 - v14)) 0 o6_0 o6_1 o6_2 o6_3 o13_0 o13_1 o13_2 o13_3) (
            spec_l09Paired.l19 fuelN v14 0 o6_0 o6_1 o6_2 o6_3 o13_0 o13_1 o13_2 o13_3)) (
          rec13 v14 (W (v16 + 1)) o6_0 o6_1 o6_2 o6_3 o13_0 o13_1 o13_2 o13_3)) (
        ifE (v16 == 2) (
          ifE (o13_2 != 0) (
            ifE (decide (o13_2 < 0)) (
              spec_l09Paired.l19 fuelN (W (0 - v14)) 0 o6_0 o6_1 o6_2 o6_3 o13_0 o13_1 o13_2 o13_3) (
              spec_l09Paired.l19 fuelN v14 0 o6_0 o6_1 o6_2 o6_3 o13_0 o13_1 o13_2 o13_3)) (
            rec13 v14 (W (v16 + 1)) o6_0 o6_1 o6_2 o6_3 o13_0 o13_1 o13_2 o13_3)) (
          ifE (v16 == 3) (
            ifE (o13_3 != 0) (
              ifE (decide (o13_3 < 0)) (
                spec_l09Paired.l19 fuelN (W (0 - v14)) 0 o6_0 o6_1 o6_2 o6_3 o13_0 o13_1 o13_2 o13_3) (
                spec_l09Paired.l19 fuelN v14 0 o6_0 o6_1 o6_2 o6_3 o13_0 o13_1 o13_2 o13_3)) (
              rec13 v14 (W (v16 + 1)) o6_0 o6_1 o6_2 o6_3 o13_0 o13_1 o13_2 o13_3)) (
            none))))) (
    spec_l09Paired.l19 fuelN v14 0 o6_0 o6_1 o6_2 o6_3 o13_0 o13_1 o13_2 o13_3)

def spec_l09Paired.l13 : Nat → Int → Int → Int → Int → Int → Int → Int → Int → Int → Int → Option (Siiii × Bool)
  | 0 => fun _ _ _ _ _ _ _ _ _ _ => none
  | k + 1 => spec_l09Paired.s13 (spec_l09Paired.l13 k)

def spec_l09Paired.s8 (rec8 : Int → Int → Int → Int → Int → Int → Int → Int → Int → Int → Option (Siiii × Bool)) (v14 : Int) (v15 : Int) (o6_0 : Int) (o6_1 : Int) (o6_2 : Int) (o6_3 : Int) (o13_0 : Int) (o13_1 : Int) (o13_2 : Int) (o13_3 : Int) : Option (Siiii × Bool) :=
  ifE (decide (v15 < 4)) (
    ifE (v15 == 0) (
      ifE (o13_0 != 0) (
        (spec_l01Gcd.f o13_0 v14).bind fun r5 =>
        rec8 r5 (W (v15 + 1)) o6_0 o6_1 o6_2 o6_3 o13_0 o13_1 o13_2 o13_3) (
        ifE (v14 != 0) (
          (spec_l01Gcd.f o13_0 v14).bind fun r6 =>
          rec8 r6 (W (v15 + 1)) o6_0 o6_1 o6_2 o6_3 o13_0 o13_1 o13_2 o13_3) (
          rec8 v14 (W (v15 + 1)) o6_0 o6_1 o6_2 o6_3 o13_0 o13_1 o13_2 o13_3))) (
      ifE (v15 == 1) (
        ifE (o13_1 != 0) (
          (spec_l01Gcd.f o13_1 v14).bind fun r7 =>
          rec8 r7 (W (v15 + 1)) o6_0 o6_1 o6_2 o6_3 o13_0 o13_1 o13_2 o13_3) (
          ifE (v14 != 0) (
            (spec_l01Gcd.f o13_1 v14).bind fun r8 =>
            rec8 r8 (W (v15 + 1)) o6_0 o6_1 o6_2 o6_3 o13_0 o13_1 o13_2 o13_3) (
            rec8 v14 (W (v15 + 1)) o6_0 o6_1 o6_2 o6_3 o13_0 o13_1 o13_2 o13_3))) (
        ifE (v15 == 2) (
          ifE (o13_2 != 0) (
            (spec_l01Gcd.f o13_2 v14).bind fun r9 =>
            rec8 r9 (W (v15 + 1)) o6_0 o6_1 o6_2 o6_3 o13_0 o13_1 o13_2 o13_3) (
            ifE (v14 != 0) (
              (spec_l01Gcd.f o13_2 v14).bind fun r10 =>
              rec8 r10 (W (v15 + 1)) o6_0 o6_1 o6_2 o6_3 o13_0 o13_1 o13_2 o13_3) (
              rec8 v14 (W (v15 + 1)) o6_0 o6_1 o6_2 o6_3 o13_0 o13_1 o13_2 o13_3))) (
          ifE (v15 == 3) (
            ifE (o13_3 != 0) (
              (spec_l01Gcd.f o13_3 v14).bind fun r11 =>
              rec8 r11 (W (v15 + 1)) o6_0 o6_1 o6_2 o6_3 o13_0 o13_1 o13_2 o13_3) (
              ifE (v14 != 0) (
                (spec_l01Gcd.f o13_3 v14).bind fun r12 =>
                rec8 r12 (W (v15 + 1)) o6_0 o6_1 o6_2 o6_3 o13_0 o13_1 o13_2 o13_3) (
                rec8 v14 (W (v15 + 1)) o6_0 o6_1 o6_2 o6_3 o13_0 o13_1 o13_2 o13_3))) (
            none))))) (
    spec_l09Paired.l13 fuelN v14 0 o6_0 o6_1 o6_2 o6_3 o13_0 o13_1 o13_2 o13_3)

def spec_l09Paired.l8 : Nat → Int → Int → Int → Int → Int → Int → Int → Int → Int → Int → Option (Siiii × Bool)
  | 0 => fun _ _ _ _ _ _ _ _ _ _ => none
  | k + 1 => spec_l09Paired.s8 (spec_l09Paired.l8 k)

def spec_l09Paired.j4 (v0 : Int) (v8 : Int) (o4_0 : Int) (o4_1 : Int) (o4_2 : Int) (o5_0 : Int) (o5_1 : Int) (o5_2 : Int) (o6_0 : Int) (o6_1 : Int) (o6_2 : Int) (o6_3 : Int) : Option (Siiii × Bool) :=
  (spec_l01Power.f v0 o4_2).bind fun r1 =>
  (spec_l01Power.f v0 o5_2).bind fun r2 =>
  (spec_l01Power.f v0 (imax v8 0)).bind fun r3 =>
  (spec_l01Power.f v0 (imax (W (0 - v8)) 0)).bind fun r4 =>
  spec_l09Paired.l8 fuelN 0 0 o6_0 o6_1 o6_2 o6_3 (W ((W (o5_1 * r1)) * r4)) (W ((W ((W (r3 * r1)) * r2)) - (W ((W (o4_1 * o5_1)) * r4)))) (W ((W (r1 * r2)) * r4)) (W ((W ((W (0 - o4_1)) * r2)) * r4))

def spec_l09Paired.f (a0 : Int) (a1 : Siii) (a2 : Siii) : Option (Siiii × Bool) :=
  ifE (decide (a1.c1 > 1000000)) (
    some ((⟨0, 0, 0, 0⟩ : Siiii), false)) (
    ifE (decide (a2.c1 > 1000000)) (
      some ((⟨0, 0, 0, 0⟩ : Siiii), false)) (
      ifE (a0 == 7) (
        ifE ((W (a1.c2 + a2.c2)) == 12) (
          some ((⟨0, 0, 0, 0⟩ : Siiii), false)) (
          spec_l09Paired.j4 a0 (W ((W (a1.c0 + a2.c0)) - 1)) a1.c0 a1.c1 a1.c2 a2.c0 a2.c1 a2.c2 0 0 0 0)) (
        spec_l09Paired.j4 a0 (W ((W (a1.c0 + a2.c0)) - 1)) a1.c0 a1.c1 a1.c2 a2.c0 a2.c1 a2.c2 0 0 0 0)))

def spec_PairedMover.f (a0 : Int) (a1 : Siii) (a2 : Siii) : Option (Siiii × Int) :=
  (spec_l01Code.f a0 [a1, a2]).bind fun r1 =>
  ifE (r1 != 0) (
    some ((⟨0, 0, 0, 0⟩ : Siiii), r1)) (
    (spec_l01Holds.f a0 a1 a2).bind fun r2 =>
    ifE r2 (
      some ((⟨0, 0, 0, 0⟩ : Siiii), 5)) (
      (spec_l01Holds.f a0 a2 a1).bind fun r3 =>
      ifE r3 (
        some ((⟨0, 0, 0, 0⟩ : Siiii), 5)) (
        (spec_l09Paired.f a0 a1 a2).bind fun r4 =>
        ifE (!r4.2) (
          some ((⟨0, 0, 0, 0⟩ : Siiii), 3)) (
          some (r4.1, 0)))))

def impl_apartSides.j3 (v0 : Int) (o4_0 : Int) (o4_1 : Int) (o4_2 : Int) (o4_3 : Bool) (o5_0 : Int) (o5_1 : Int) (o5_2 : Int) (o5_3 : Bool) : Option Bool :=
  ifE o4_3 (
    (impl_holds.f v0 (⟨o4_0, o4_1, o4_2⟩ : Siii) (⟨o5_0, o5_1, o5_2⟩ : Siii)).bind fun r1 =>
    some r1) (
    ifE o5_3 (
      (impl_holds.f v0 (⟨o5_0, o5_1, o5_2⟩ : Siii) (⟨o4_0, o4_1, o4_2⟩ : Siii)).bind fun r2 =>
      some r2) (
      (impl_apart.f v0 (⟨o4_0, o4_1, o4_2⟩ : Siii) (⟨o5_0, o5_1, o5_2⟩ : Siii)).bind fun r3 =>
      some r3))

def impl_apartSides.f (a0 : Int) (a1 : Siiib) (a2 : Siiib) : Option Bool :=
  ifE a1.c3 (
    ifE a2.c3 (
      some false) (
      impl_apartSides.j3 a0 a1.c0 a1.c1 a1.c2 a1.c3 a2.c0 a2.c1 a2.c2 a2.c3)) (
    impl_apartSides.j3 a0 a1.c0 a1.c1 a1.c2 a1.c3 a2.c0 a2.c1 a2.c2 a2.c3)

def impl_opposite.f (a0 : Siiib) : Option Siiib :=
  some (⟨a0.c0, a0.c1, a0.c2, !a0.c3⟩ : Siiib)

def impl_isFree.s5 (rec2 : Int → (List Siiii) → (List Siiib) → (List Siiib) → Int → Int → Option (Bool × Int)) (rec5 : Int → (List Siiii) → (List Siiib) → (List Siiib) → Int → Int → (List Siiib) → Int → Int → Int → Int → Int → Bool → Option (Bool × Int)) (v0 : Int) (v1 : (List Siiii)) (v2 : (List Siiib)) (v16 : (List Siiib)) (v17 : Int) (v18 : Int) (v25 : (List Siiib)) (v26 : Int) (v27 : Int) (o9_0 : Int) (o9_1 : Int) (o9_2 : Int) (o9_3 : Bool) : Option (Bool × Int) :=
  ifE (decide (v27 < v26)) (
    (getE v25 v27).bind fun e3 =>
    (impl_apartSides.f v0 (⟨o9_0, o9_1, o9_2, o9_3⟩ : Siiib) e3).bind fun r4 =>
    ifE (!r4) (
      some (false, 0)) (
      rec5 v0 v1 v2 v16 v17 v18 v25 v26 (W (v27 + 1)) o9_0 o9_1 o9_2 o9_3)) (
    rec2 v0 v1 v2 v16 v17 (W (v18 + 1)))

def impl_isFree.l5 (rec2 : Int → (List Siiii) → (List Siiib) → (List Siiib) → Int → Int → Option (Bool × Int)) : Nat → Int → (List Siiii) → (List Siiib) → (List Siiib) → Int → Int → (List Siiib) → Int → Int → Int → Int → Int → Bool → Option (Bool × Int)
  | 0 => fun _ _ _ _ _ _ _ _ _ _ _ _ _ => none
  | k + 1 => impl_isFree.s5 rec2 (impl_isFree.l5 rec2 k)

def impl_isFree.s12 (rec12 : Int → (List Siiib) → (List Siiii) → Int → Int → Option (Bool × Int)) (v0 : Int) (v2 : (List Siiib)) (v38 : (List Siiii)) (v39 : Int) (v40 : Int) : Option (Bool × Int) :=
  ifE (decide (v40 < v39)) (
    (getE v38 v40).bind fun e5 =>
    (getE v2 (W (2 * v40))).bind fun e6 =>
    (impl_opposite.f e6).bind fun r7 =>
    (impl_moveSide.f v0 e5 r7).bind fun r8 =>
    ifE (!r8.2) (
      some (false, 3)) (
      (getE v2 (W ((W (2 * v40)) + 1))).bind fun e9 =>
      ifE (!(((r8.1.c0 == e9.c0) && ((r8.1.c1 == e9.c1) && ((r8.1.c2 == e9.c2) && true))) && ((r8.1.c3 == e9.c3) && true))) (
        some (false, 0)) (
        rec12 v0 v2 v38 v39 (W (v40 + 1))))) (
    some (true, 0))

def impl_isFree.l12 : Nat → Int → (List Siiib) → (List Siiii) → Int → Int → Option (Bool × Int)
  | 0 => fun _ _ _ _ _ => none
  | k + 1 => impl_isFree.s12 (impl_isFree.l12 k)

def impl_isFree.s2 (rec2 : Int → (List Siiii) → (List Siiib) → (List Siiib) → Int → Int → Option (Bool × Int)) (v0 : Int) (v1 : (List Siiii)) (v2 : (List Siiib)) (v16 : (List Siiib)) (v17 : Int) (v18 : Int) : Option (Bool × Int) :=
  ifE (decide (v18 < v17)) (
    (getE v16 v18).bind fun e1 =>
    (getS v2 0 v18).bind fun l2 =>
    impl_isFree.l5 rec2 fuelN v0 v1 v2 v16 v17 v18 l2 (l2.length : Int) 0 e1.c0 e1.c1 e1.c2 e1.c3) (
    impl_isFree.l12 fuelN v0 v2 v1 (v1.length : Int) 0)

def impl_isFree.l2 : Nat → Int → (List Siiii) → (List Siiib) → (List Siiib) → Int → Int → Option (Bool × Int)
  | 0 => fun _ _ _ _ _ _ => none
  | k + 1 => impl_isFree.s2 (impl_isFree.l2 k)

def impl_isFree.f (a0 : Int) (a1 : (List Siiii)) (a2 : (List Siiib)) : Option (Bool × Int) :=
  impl_isFree.l2 fuelN a0 a1 a2 a2 (a2.length : Int) 0

def impl_freeCode.f (a0 : Int) (a1 : (List Siiii)) (a2 : (List Siiib)) : Option (Bool × Int) :=
  (impl_areSides.f a0 a2).bind fun r1 =>
  ifE (!r1) (
    some (false, 1)) (
    (impl_areMatrices.f a1).bind fun r2 =>
    ifE (!r2) (
      some (false, 1)) (
      ifE (decide ((a1.length : Int) < 1)) (
        some (false, 2)) (
        ifE (decide ((a1.length : Int) > 4)) (
          some (false, 2)) (
          ifE ((a2.length : Int) != (W (2 * (a1.length : Int)))) (
            some (false, 2)) (
            (impl_isFree.f a0 a1 a2).bind fun r3 =>
            some (r3.1, r3.2))))))

def impl_IsFree.f (a0 : Int) (a1 : (List Siiii)) (a2 : (List Siiib)) : Option (Bool × Int) :=
  (impl_freeCode.f a0 a1 a2).bind fun r1 =>
  some (r1.1, r1.2)

def spec_l01EndOf.j6 (v0 : Int) (v1 : Int) (v6 : Int) (o4_0 : Int) (o4_1 : Int) : Option (Sii × Bool) :=
  guardE (v6 ≠ 0) <|
  guardE (v6 ≠ 0) <|
  ifE (decide ((W (Int.tdiv v1 v6)) ≤ 1000000)) (
    some ((⟨W (Int.tdiv v0 v6), W (Int.tdiv v1 v6)⟩ : Sii), decide ((imax (W (Int.tdiv v0 v6)) (W (0 - (W (Int.tdiv v0 v6))))) ≤ 1000000))) (
    some ((⟨W (Int.tdiv v0 v6), W (Int.tdiv v1 v6)⟩ : Sii), false))

def spec_l01EndOf.f (a0 : Int) (a1 : Int) : Option (Sii × Bool) :=
  ifE (a1 == 0) (
    some ((⟨1, 0⟩ : Sii), true)) (
    (spec_l01Gcd.f a0 a1).bind fun r1 =>
    ifE (decide (a1 < 0)) (
      spec_l01EndOf.j6 a0 a1 (W (0 - r1)) 0 0) (
      spec_l01EndOf.j6 a0 a1 r1 0 0))

def spec_l01DrawEnd.j5 (v8 : Int) (o2000_0 : (List Int)) (o2000_1 : Int) (o2000_2 : Int) (o2_0 : Int) (o2_1 : Int) : Option (Sii × SLu8eiu64) :=
  ifE (v8 == 2) (
    (spec_l01Pick.f (⟨o2000_0, o2000_1, o2000_2⟩ : SLu8eiu64) [2, 0, 1000001]).bind fun r2 =>
    (spec_l01Pick.f r2.2 [0, 4, (-1)]).bind fun r3 =>
    some ((⟨r2.1, r3.1⟩ : Sii), r3.2)) (
    (spec_l01Next.f (⟨o2000_0, o2000_1, o2000_2⟩ : SLu8eiu64) 20).bind fun r4 =>
    (spec_l01Next.f r4.2 200).bind fun r5 =>
    (spec_l01Next.f r5.2 2000001).bind fun r6 =>
    (spec_l01Pick.f r6.2 [W (r4.1 - 10), W (r5.1 - 100), W (r6.1 - 1000000)]).bind fun r7 =>
    (spec_l01Next.f r7.2 20).bind fun r8 =>
    (spec_l01Next.f r8.2 8).bind fun r9 =>
    (spec_l01Power.f 2 r9.1).bind fun r10 =>
    (spec_l01Next.f r9.2 6).bind fun r11 =>
    (spec_l01Power.f 3 r11.1).bind fun r12 =>
    (spec_l01Next.f r11.2 1000000).bind fun r13 =>
    (spec_l01Pick.f r13.2 [1, 1, W (1 + r8.1), r10, r12, W (1 + r13.1)]).bind fun r14 =>
    (spec_l01EndOf.f r7.1 r14.1).bind fun r15 =>
    some (r15.1, r14.2))

def spec_l01DrawEnd.f (a0 : SLu8eiu64) : Option (Sii × SLu8eiu64) :=
  (spec_l01Next.f a0 30).bind fun r1 =>
  ifE (r1.1 == 0) (
    ifE (r1.1 == 0) (
      some ((⟨1, 0⟩ : Sii), r1.2)) (
      spec_l01DrawEnd.j5 r1.1 r1.2.c0 r1.2.c1 r1.2.c2 0 0)) (
    ifE (r1.1 == 1) (
      some ((⟨1, 0⟩ : Sii), r1.2)) (
      spec_l01DrawEnd.j5 r1.1 r1.2.c0 r1.2.c1 r1.2.c2 0 0))

def spec_l05End.j7 (v7 : Int) (v8 : Int) (o2000_0 : (List Int)) (o2000_1 : Int) (o2000_2 : Int) (o6_0 : Int) (o6_1 : Int) : Option (Sii × SLu8eiu64) :=
  (spec_l01EndOf.f v7 v8).bind fun r9 =>
  ifE (!r9.2) (
    (spec_l01DrawEnd.f (⟨o2000_0, o2000_1, o2000_2⟩ : SLu8eiu64)).bind fun r10 =>
    some (r10.1, r10.2)) (
    some (r9.1, (⟨o2000_0, o2000_1, o2000_2⟩ : SLu8eiu64)))

def spec_l05End.f (a0 : SLu8eiu64) (a1 : Int) (a2 : Siii) : Option (Sii × SLu8eiu64) :=
  (spec_l01Is.f a1 a2).bind fun r1 =>
  ifE (!r1) (
    (spec_l01DrawEnd.f a0).bind fun r2 =>
    some (r2.1, r2.2)) (
    (spec_l01Next.f a0 3).bind fun r3 =>
    ifE (r3.1 == 0) (
      (spec_l01DrawEnd.f r3.2).bind fun r4 =>
      some (r4.1, r4.2)) (
      (spec_l01Power.f a1 a2.c2).bind fun r5 =>
      (spec_l01Next.f r3.2 4).bind fun r6 =>
      ifE (decide ((W ((W (a2.c0 + r6.1)) - 1)) ≥ 0)) (
        (spec_l01Next.f r6.2 a1).bind fun r7 =>
        (spec_l01Power.f a1 (W ((W (a2.c0 + r6.1)) - 1))).bind fun r8 =>
        spec_l05End.j7 (W (a2.c1 + (W ((W (r7.1 * r8)) * r5)))) r5 r7.2.c0 r7.2.c1 r7.2.c2 0 0) (
        spec_l05End.j7 a2.c1 r5 r6.2.c0 r6.2.c1 r6.2.c2 0 0)))

def spec_DrawSideHas.f (a0 : (List Int)) : Option (Int × Siiib × Sii) :=
  (spec_l01From.f a0).bind fun r1 =>
  (spec_l01Pick.f r1 [2, 3, 5, 7, 2, 3, 4]).bind fun r2 =>
  (spec_l09Side.f r2.2 r2.1).bind fun r3 =>
  (spec_l05End.f r3.2 r2.1 (⟨r3.1.c0, r3.1.c1, r3.1.c2⟩ : Siii)).bind fun r4 =>
  some (r2.1, r3.1, r4.1)

def spec_l01End.f (a0 : Sii) : Option Bool :=
  ifE (a0.c1 == 0) (
    some (a0.c0 == 1)) (
    (spec_l01In.f a0.c1 1 1000000).bind fun r1 =>
    ifE r1 (
      (spec_l01In.f a0.c0 (-1000000) 1000000).bind fun r2 =>
      ifE r2 (
        (spec_l01Gcd.f a0.c0 a0.c1).bind fun r3 =>
        some (r3 == 1)) (
        some false)) (
      some false))

def spec_l02Meet.f (a0 : Int) (a1 : Siii) (a2 : Sii) : Option Int :=
  (spec_l01Power.f a0 a1.c2).bind fun r1 =>
  ifE ((W ((W (a2.c0 * r1)) - (W (a1.c1 * a2.c1)))) == 0) (
    some a1.c0) (
    (spec_l01Val.f a0 (W ((W (a2.c0 * r1)) - (W (a1.c1 * a2.c1))))).bind fun r2 =>
    (spec_l01Val.f a0 a2.c1).bind fun r3 =>
    some (imin a1.c0 (W ((W (r2 - r3)) - a1.c2))))

def spec_l09Has.f (a0 : Int) (a1 : Siiib) (a2 : Sii) : Option Bool :=
  ifE (a2.c1 == 0) (
    some a1.c3) (
    (spec_l02Meet.f a0 (⟨a1.c0, a1.c1, a1.c2⟩ : Siii) a2).bind fun r1 =>
    some (!((r1 == a1.c0) == a1.c3)))

def spec_SideHas.f (a0 : Int) (a1 : Siiib) (a2 : Sii) : Option (Bool × Int) :=
  (spec_l09Code.f a0 [a1]).bind fun r1 =>
  ifE (r1 != 0) (
    some (false, 1)) (
    (spec_l01End.f a2).bind fun r2 =>
    ifE (!r2) (
      some (false, 1)) (
      (spec_l09Has.f a0 a1 a2).bind fun r3 =>
      some (r3, 0)))

def spec_DrawAreApartSides.f (a0 : (List Int)) : Option (Int × Siiib × Siiib) :=
  guardE (([4].length + a0.length) * 1 ≤ 140737488355328) <|
  (spec_l01From.f ([4] ++ a0)).bind fun r1 =>
  (spec_l01Two.f a0).bind fun r2 =>
  (spec_l01Next.f r1 2).bind fun r3 =>
  (spec_l01Next.f r3.2 4).bind fun r4 =>
  some (r2.1, (⟨r2.2.1.c0, r2.2.1.c1, r2.2.1.c2, r3.1 == 0⟩ : Siiib), (⟨r2.2.2.c0, r2.2.2.c1, r2.2.2.c2, r4.1 == 0⟩ : Siiib))

def impl_AreApartSides.f (a0 : Int) (a1 : Siiib) (a2 : Siiib) : Option (Bool × Int) :=
  (impl_areSides.f a0 [a1, a2]).bind fun r1 =>
  ifE (!r1) (
    some (false, 1)) (
    (impl_apartSides.f a0 a1 a2).bind fun r2 =>
    some (r2, 0))

def spec_l09Apart.j3 (v0 : Int) (o4_0 : Int) (o4_1 : Int) (o4_2 : Int) (o4_3 : Bool) (o5_0 : Int) (o5_1 : Int) (o5_2 : Int) (o5_3 : Bool) : Option Bool :=
  ifE o4_3 (
    (spec_l01Holds.f v0 (⟨o4_0, o4_1, o4_2⟩ : Siii) (⟨o5_0, o5_1, o5_2⟩ : Siii)).bind fun r1 =>
    some r1) (
    ifE o5_3 (
      (spec_l01Holds.f v0 (⟨o5_0, o5_1, o5_2⟩ : Siii) (⟨o4_0, o4_1, o4_2⟩ : Siii)).bind fun r2 =>
      some r2) (
      (spec_l01Holds.f v0 (⟨o4_0, o4_1, o4_2⟩ : Siii) (⟨o5_0, o5_1, o5_2⟩ : Siii)).bind fun r3 =>
      ifE (!r3) (
        (spec_l01Holds.f v0 (⟨o5_0, o5_1, o5_2⟩ : Siii) (⟨o4_0, o4_1, o4_2⟩ : Siii)).bind fun r4 =>
        some (!r4)) (
        some false)))

def spec_l09Apart.f (a0 : Int) (a1 : Siiib) (a2 : Siiib) : Option Bool :=
  ifE a1.c3 (
    ifE a2.c3 (
      some false) (
      spec_l09Apart.j3 a0 a1.c0 a1.c1 a1.c2 a1.c3 a2.c0 a2.c1 a2.c2 a2.c3)) (
    spec_l09Apart.j3 a0 a1.c0 a1.c1 a1.c2 a1.c3 a2.c0 a2.c1 a2.c2 a2.c3)

def spec_AreApartSides.f (a0 : Int) (a1 : Siiib) (a2 : Siiib) : Option (Bool × Int) :=
  (spec_l09Code.f a0 [a1, a2]).bind fun r1 =>
  ifE (r1 != 0) (
    some (false, r1)) (
    (spec_l09Apart.f a0 a1 a2).bind fun r2 =>
    some (r2, 0))

def laws_FnSides.j33 (v0 : (List Int)) : Option Bool :=
  (spec_DrawSideHas.f v0).bind fun r19 =>
  (impl_SideHas.f r19.1 r19.2.1 r19.2.2).bind fun r20 =>
  (spec_SideHas.f r19.1 r19.2.1 r19.2.2).bind fun r21 =>
  (spec_DrawAreApartSides.f v0).bind fun r22 =>
  (impl_AreApartSides.f r22.1 r22.2.1 r22.2.2).bind fun r23 =>
  (spec_AreApartSides.f r22.1 r22.2.1 r22.2.2).bind fun r24 =>
  (impl_AreApartSides.f r22.1 r22.2.2 r22.2.1).bind fun r25 =>
  ifE (r20.2 == r21.2) (
    ifE (r20.1 == r21.1) (
      ifE (r23.2 == r24.2) (
        ifE (r23.1 == r24.1) (
          ifE (r25.2 == r23.2) (
            some (r25.1 == r23.1)) (
            some false)) (
          some false)) (
        some false)) (
      some false)) (
    some false)

def laws_FnSides.s16 (rec16 : (List Int) → Int → Int → Int → Int → Int → Int → Int → Int → Int → Bool → Int → Int → Int → Bool → (List Sii) → Option Bool) (v0 : (List Int)) (v3 : Int) (v14 : Int) (o4_0 : Int) (o4_1 : Int) (o4_2 : Int) (o4_3 : Int) (o5_0 : Int) (o5_1 : Int) (o5_2 : Int) (o5_3 : Bool) (o6_0 : Int) (o6_1 : Int) (o6_2 : Int) (o6_3 : Bool) (o1013 : (List Sii)) : Option Bool :=
  ifE (decide (v14 < (o1013.length : Int))) (
    (getE o1013 v14).bind fun e10 =>
    (impl_MoveEnd.f (⟨o4_0, o4_1, o4_2, o4_3⟩ : Siiii) e10).bind fun r11 =>
    ifE (r11.2 != 0) (
      rec16 v0 v3 (W (v14 + 1)) o4_0 o4_1 o4_2 o4_3 o5_0 o5_1 o5_2 o5_3 o6_0 o6_1 o6_2 o6_3 o1013) (
      (getE o1013 v14).bind fun e12 =>
      (impl_SideHas.f v3 (⟨o5_0, o5_1, o5_2, o5_3⟩ : Siiib) e12).bind fun r13 =>
      (impl_SideHas.f v3 (⟨o6_0, o6_1, o6_2, o6_3⟩ : Siiib) r11.1).bind fun r14 =>
      ifE (r13.2 != 0) (
        some false) (
        ifE (r14.2 != 0) (
          some false) (
          ifE (!(r13.1 == r14.1)) (
            some false) (
            rec16 v0 v3 (W (v14 + 1)) o4_0 o4_1 o4_2 o4_3 o5_0 o5_1 o5_2 o5_3 o6_0 o6_1 o6_2 o6_3 o1013))))) (
    (spec_DrawPairedMover.f v0).bind fun r15 =>
    (impl_PairedMover.f r15.1 r15.2.1 r15.2.2).bind fun r16 =>
    (spec_PairedMover.f r15.1 r15.2.1 r15.2.2).bind fun r17 =>
    ifE (r16.2 != r17.2) (
      some false) (
      ifE (!(((r16.1.c0 == r17.1.c0) && ((r16.1.c1 == r17.1.c1) && true)) && (((r16.1.c2 == r17.1.c2) && ((r16.1.c3 == r17.1.c3) && true)) && true))) (
        some false) (
        ifE (r16.2 == 0) (
          (impl_IsFree.f r15.1 [r16.1] [(⟨r15.2.1.c0, r15.2.1.c1, r15.2.1.c2, false⟩ : Siiib), (⟨r15.2.2.c0, r15.2.2.c1, r15.2.2.c2, false⟩ : Siiib)]).bind fun r18 =>
          ifE (r18.2 != 0) (
            some false) (
            ifE (!r18.1) (
              some false) (
              laws_FnSides.j33 v0))) (
          laws_FnSides.j33 v0))))

def laws_FnSides.l16 : Nat → (List Int) → Int → Int → Int → Int → Int → Int → Int → Int → Int → Bool → Int → Int → Int → Bool → (List Sii) → Option Bool
  | 0 => fun _ _ _ _ _ _ _ _ _ _ _ _ _ _ _ _ => none
  | k + 1 => laws_FnSides.s16 (laws_FnSides.l16 k)

def laws_FnSides.f (a0 : (List Int)) : Option Bool :=
  (laws_big.f a0).bind fun r1 =>
  ifE r1 (
    some true) (
    (spec_DrawMoveSide.f a0).bind fun r2 =>
    (impl_MoveSide.f r2.1 r2.2.1 r2.2.2).bind fun r3 =>
    (spec_MoveSide.f r2.1 r2.2.1 r2.2.2).bind fun r4 =>
    ifE (r3.2 != r4.2) (
      some false) (
      ifE (!(((r3.1.c0 == r4.1.c0) && ((r3.1.c1 == r4.1.c1) && ((r3.1.c2 == r4.1.c2) && true))) && ((r3.1.c3 == r4.1.c3) && true))) (
        some false) (
        ifE (r3.2 == 0) (
          (impl_MoveSide.f r2.1 r2.2.1 (⟨r2.2.2.c0, r2.2.2.c1, r2.2.2.c2, !r2.2.2.c3⟩ : Siiib)).bind fun r5 =>
          ifE (r5.2 != 0) (
            some false) (
            ifE (!((r5.1.c0 == r3.1.c0) && ((r5.1.c1 == r3.1.c1) && ((r5.1.c2 == r3.1.c2) && true)))) (
              some false) (
              ifE (r5.1.c3 == r3.1.c3) (
                some false) (
                laws_FnSides.l16 fuelN a0 r2.1 0 r2.2.1.c0 r2.2.1.c1 r2.2.1.c2 r2.2.1.c3 r2.2.2.c0 r2.2.2.c1 r2.2.2.c2 r2.2.2.c3 r3.1.c0 r3.1.c1 r3.1.c2 r3.1.c3 [(⟨0, 1⟩ : Sii), (⟨1, 0⟩ : Sii), (⟨1, 1⟩ : Sii), (⟨3, 2⟩ : Sii), (⟨(-5), 3⟩ : Sii)])))) (
          (spec_DrawPairedMover.f a0).bind fun r6 =>
          (impl_PairedMover.f r6.1 r6.2.1 r6.2.2).bind fun r7 =>
          (spec_PairedMover.f r6.1 r6.2.1 r6.2.2).bind fun r8 =>
          ifE (r7.2 != r8.2) (
            some false) (
            ifE (!(((r7.1.c0 == r8.1.c0) && ((r7.1.c1 == r8.1.c1) && true)) && (((r7.1.c2 == r8.1.c2) && ((r7.1.c3 == r8.1.c3) && true)) && true))) (
              some false) (
              ifE (r7.2 == 0) (
                (impl_IsFree.f r6.1 [r7.1] [(⟨r6.2.1.c0, r6.2.1.c1, r6.2.1.c2, false⟩ : Siiib), (⟨r6.2.2.c0, r6.2.2.c1, r6.2.2.c2, false⟩ : Siiib)]).bind fun r9 =>
                ifE (r9.2 != 0) (
                  some false) (
                  ifE (!r9.1) (
                    some false) (
                    laws_FnSides.j33 a0))) (
                laws_FnSides.j33 a0)))))))

end Go.Gn
end
section
set_option linter.unusedVariables false
set_option maxRecDepth 100000
open Go Go.Eng
namespace Go.Gn

def impl_moveBall.j6 (v0 : Int) (o4_0 : Int) (o4_1 : Int) (o4_2 : Int) (o4_3 : Int) (o5_0 : Int) (o5_1 : Int) (o5_2 : Int) (o6_0 : Int) (o6_1 : Int) (o6_2 : Int) (o12_0 : Int) (o12_1 : Int) : Option (Siii × Bool) :=
  (impl_determinant.f (⟨o4_0, o4_1, o4_2, o4_3⟩ : Siiii)).bind fun r6 =>
  (impl_valuation.f v0 r6).bind fun r7 =>
  (impl_valuation.f v0 o12_1).bind fun r8 =>
  (impl_ballAt.f v0 o12_0 o12_1 (W ((W ((W (r7 + o5_0)) + 12)) - (W (2 * r8))))).bind fun r9 =>
  some (r9.1, r9.2)

def impl_moveBall.f (a0 : Int) (a1 : Siiii) (a2 : Siii) : Option (Siii × Bool) :=
  (impl_mark.f a0 a2).bind fun r1 =>
  (impl_power.f a0 6).bind fun r2 =>
  (impl_power.f a0 (W (a2.c0 + 6))).bind fun r3 =>
  (impl_valuation.f a0 (W ((W (a1.c2 * r1)) + (W (a1.c3 * r2))))).bind fun r4 =>
  (impl_valuation.f a0 (W (a1.c2 * r3))).bind fun r5 =>
  ifE (decide (r4 > r5)) (
    impl_moveBall.j6 a0 a1.c0 a1.c1 a1.c2 a1.c3 a2.c0 a2.c1 a2.c2 0 0 0 (W (a1.c0 * r3)) (W (a1.c2 * r3))) (
    impl_moveBall.j6 a0 a1.c0 a1.c1 a1.c2 a1.c3 a2.c0 a2.c1 a2.c2 0 0 0 (W ((W (a1.c0 * r1)) + (W (a1.c1 * r2)))) (W ((W (a1.c2 * r1)) + (W (a1.c3 * r2)))))

def impl_fitted.f (a0 : Siii) (a1 : Bool) : Option (Siii × Int) :=
  ifE (!a1) (
    some ((⟨0, 0, 0⟩ : Siii), 3)) (
    some (a0, 0))

def impl_MoveBall.f (a0 : Int) (a1 : Siiii) (a2 : Siii) : Option (Siii × Int) :=
  (impl_IsBall.f a0 a2).bind fun r1 =>
  ifE (!r1) (
    some ((⟨0, 0, 0⟩ : Siii), 1)) (
    (impl_IsMatrix.f a1).bind fun r2 =>
    ifE (!r2) (
      some ((⟨0, 0, 0⟩ : Siii), 1)) (
      (impl_moveBall.f a0 a1 a2).bind fun r3 =>
      (impl_fitted.f r3.1 r3.2).bind fun r4 =>
      some (r4.1, r4.2)))

def spec_l04Code.f (a0 : Int) (a1 : Siiii) (a2 : (List Siii)) : Option Int :=
  (spec_l01Code.f a0 a2).bind fun r1 =>
  ifE (r1 != 0) (
    some 1) (
    (spec_l04Is.f a1).bind fun r2 =>
    ifE (!r2) (
      some 1) (
      some 0))

def spec_l04Move.j8 (v0 : Int) (v8 : Int) (o4_0 : Int) (o4_1 : Int) (o4_2 : Int) (o4_3 : Int) (o5_0 : Int) (o5_1 : Int) (o5_2 : Int) (o6_0 : Int) (o6_1 : Int) (o6_2 : Int) (o13_0 : Int) (o13_1 : Int) : Option (Siii × Bool) :=
  (spec_l04Det.f (⟨o4_0, o4_1, o4_2, o4_3⟩ : Siiii)).bind fun r6 =>
  (spec_l01Val.f v0 r6).bind fun r7 =>
  (spec_l01Val.f v0 o13_1).bind fun r8 =>
  (spec_l01Of.f v0 o13_0 o13_1 (W ((W ((W (r7 + o5_0)) + (W (2 * v8)))) - (W (2 * r8))))).bind fun r9 =>
  some (r9.1, r9.2)

def spec_l04Move.j7 (v0 : Int) (v8 : Int) (o4_0 : Int) (o4_1 : Int) (o4_2 : Int) (o4_3 : Int) (o5_0 : Int) (o5_1 : Int) (o5_2 : Int) (o6_0 : Int) (o6_1 : Int) (o6_2 : Int) (o12_0 : Int) (o12_1 : Int) (o13_0 : Int) (o13_1 : Int) : Option (Siii × Bool) :=
  spec_l04Move.j8 v0 v8 o4_0 o4_1 o4_2 o4_3 o5_0 o5_1 o5_2 o6_0 o6_1 o6_2 o12_0 o12_1

def spec_l04Move.f (a0 : Int) (a1 : Siiii) (a2 : Siii) : Option (Siii × Bool) :=
  (spec_l01Power.f a0 (W (a2.c0 + (imax a2.c2 (W (0 - a2.c0)))))).bind fun r1 =>
  (spec_l01Power.f a0 (imax a2.c2 (W (0 - a2.c0)))).bind fun r2 =>
  (spec_l01Power.f a0 (W ((imax a2.c2 (W (0 - a2.c0))) - a2.c2))).bind fun r3 =>
  ifE ((W ((W (a1.c2 * (W (a2.c1 * r3)))) + (W (a1.c3 * r2)))) == 0) (
    spec_l04Move.j7 a0 (imax a2.c2 (W (0 - a2.c0))) a1.c0 a1.c1 a1.c2 a1.c3 a2.c0 a2.c1 a2.c2 0 0 0 (W (a1.c0 * r1)) (W (a1.c2 * r1)) (W ((W (a1.c0 * (W (a2.c1 * r3)))) + (W (a1.c1 * r2)))) (W ((W (a1.c2 * (W (a2.c1 * r3)))) + (W (a1.c3 * r2))))) (
    ifE ((W (a1.c2 * r1)) != 0) (
      (spec_l01Val.f a0 (W ((W (a1.c2 * (W (a2.c1 * r3)))) + (W (a1.c3 * r2))))).bind fun r4 =>
      (spec_l01Val.f a0 (W (a1.c2 * r1))).bind fun r5 =>
      ifE (decide (r4 > r5)) (
        spec_l04Move.j7 a0 (imax a2.c2 (W (0 - a2.c0))) a1.c0 a1.c1 a1.c2 a1.c3 a2.c0 a2.c1 a2.c2 0 0 0 (W (a1.c0 * r1)) (W (a1.c2 * r1)) (W ((W (a1.c0 * (W (a2.c1 * r3)))) + (W (a1.c1 * r2)))) (W ((W (a1.c2 * (W (a2.c1 * r3)))) + (W (a1.c3 * r2))))) (
        spec_l04Move.j8 a0 (imax a2.c2 (W (0 - a2.c0))) a1.c0 a1.c1 a1.c2 a1.c3 a2.c0 a2.c1 a2.c2 0 0 0 (W ((W (a1.c0 * (W (a2.c1 * r3)))) + (W (a1.c1 * r2)))) (W ((W (a1.c2 * (W (a2.c1 * r3)))) + (W (a1.c3 * r2)))))) (
      spec_l04Move.j8 a0 (imax a2.c2 (W (0 - a2.c0))) a1.c0 a1.c1 a1.c2 a1.c3 a2.c0 a2.c1 a2.c2 0 0 0 (W ((W (a1.c0 * (W (a2.c1 * r3)))) + (W (a1.c1 * r2)))) (W ((W (a1.c2 * (W (a2.c1 * r3)))) + (W (a1.c3 * r2))))))

def impl_joinLevel.f (a0 : Int) (a1 : Siii) (a2 : Siii) : Option Int :=
  (impl_mark.f a0 a1).bind fun r1 =>
  (impl_mark.f a0 a2).bind fun r2 =>
  (impl_valuation.f a0 (W (r1 - r2))).bind fun r3 =>
  some (imin (imin a1.c0 a2.c0) (W (r3 - 6)))

def impl_distance.f (a0 : Int) (a1 : Siii) (a2 : Siii) : Option Int :=
  (impl_joinLevel.f a0 a1 a2).bind fun r1 =>
  some (W ((W (a1.c0 + a2.c0)) - (W (2 * r1))))

def impl_child.f (a0 : Int) (a1 : Siii) (a2 : Int) : Option (Siii × Bool) :=
  (impl_mark.f a0 a1).bind fun r1 =>
  (impl_power.f a0 (W (a1.c0 + 6))).bind fun r2 =>
  (impl_ofMark.f a0 (W (a1.c0 + 1)) (W (r1 + (W (a2 * r2))))).bind fun r3 =>
  some (r3.1, r3.2)

def spec_l02Valuation.f (a0 : Int) (a1 : Siii) (a2 : Siii) : Option (Int × Bool) :=
  (spec_l01Power.f a0 (W ((imax a1.c2 a2.c2) - a1.c2))).bind fun r1 =>
  (spec_l01Power.f a0 (W ((imax a1.c2 a2.c2) - a2.c2))).bind fun r2 =>
  ifE ((W ((W (a1.c1 * r1)) - (W (a2.c1 * r2)))) == 0) (
    some (0, false)) (
    (spec_l01Val.f a0 (W ((W (a1.c1 * r1)) - (W (a2.c1 * r2))))).bind fun r3 =>
    some (W (r3 - (imax a1.c2 a2.c2)), true))

def spec_l02Join.f (a0 : Int) (a1 : Siii) (a2 : Siii) : Option Int :=
  (spec_l02Valuation.f a0 a1 a2).bind fun r1 =>
  ifE r1.2 (
    some (imin (imin a1.c0 a2.c0) r1.1)) (
    some (imin a1.c0 a2.c0))

def impl_parent.f (a0 : Int) (a1 : Siii) : Option (Siii × Bool) :=
  (impl_mark.f a0 a1).bind fun r1 =>
  (impl_ofMark.f a0 (W (a1.c0 - 1)) r1).bind fun r2 =>
  some (r2.1, r2.2)

def impl_neighbour.f (a0 : Int) (a1 : Siii) (a2 : Int) : Option (Siii × Bool) :=
  ifE (a2 == 0) (
    (impl_parent.f a0 a1).bind fun r1 =>
    some (r1.1, r1.2)) (
    (impl_child.f a0 a1 (W (a2 - 1))).bind fun r2 =>
    some (r2.1, r2.2))

def spec_l01Child.j9 (v0 : Int) (v8 : Int) (v9 : Int) (o4_0 : Int) (o4_1 : Int) (o4_2 : Int) (o6_0 : Int) (o6_1 : Int) (o6_2 : Int) : Option (Siii × Bool) :=
  (spec_l01Of.f v0 v8 v9 (W (o4_0 + 1))).bind fun r5 =>
  some (r5.1, r5.2)

def spec_l01Child.f (a0 : Int) (a1 : Siii) (a2 : Int) : Option (Siii × Bool) :=
  ifE (a1.c0 == 6) (
    some ((⟨0, 0, 0⟩ : Siii), false)) (
    (spec_l01Power.f a0 a1.c2).bind fun r1 =>
    ifE (decide (a1.c0 ≥ 0)) (
      (spec_l01Power.f a0 a1.c0).bind fun r2 =>
      spec_l01Child.j9 a0 (W (a1.c1 + (W ((W (a2 * r1)) * r2)))) r1 a1.c0 a1.c1 a1.c2 0 0 0) (
      (spec_l01Power.f a0 (W (0 - a1.c0))).bind fun r3 =>
      guardE (r1 ≠ 0) <|
      (spec_l01Power.f a0 (W (0 - a1.c0))).bind fun r4 =>
      guardE (r4 ≠ 0) <|
      spec_l01Child.j9 a0 (W ((W (a1.c1 * (W (Int.tdiv (imax r1 r3) r1)))) + (W (a2 * (W (Int.tdiv (imax r1 r3) r4)))))) (imax r1 r3) a1.c0 a1.c1 a1.c2 0 0 0))

end Go.Gn
end
section
set_option linter.unusedVariables false
set_option maxRecDepth 100000
open Go Go.Eng
namespace Go.Gn

def spec_l10Word.s12 (rec12 : (List Int) → Int → Int → (List Int) → Option (ByteArray × SLu8eiu64)) (o2000_0 : (List Int)) (o2000_1 : Int) (o2000_2 : Int) (o1005 : (List Int)) : Option (ByteArray × SLu8eiu64) :=
  ifE (decide ((o1005.length : Int) ≤ 40)) (
    guardE ((o1005.length + [48, 117].length) * 1 ≤ 140737488355328) <|
    rec12 o2000_0 o2000_1 o2000_2 (o1005 ++ [48, 117])) (
    (toStr o1005).bind fun z9 =>
    some (z9, (⟨o2000_0, o2000_1, o2000_2⟩ : SLu8eiu64)))

def spec_l10Word.l12 : Nat → (List Int) → Int → Int → (List Int) → Option (ByteArray × SLu8eiu64)
  | 0 => fun _ _ _ _ => none
  | k + 1 => spec_l10Word.s12 (spec_l10Word.l12 k)

def spec_l10Word.s3 (rec3 : Int → Int → (List Int) → Int → Int → (List Int) → Option (ByteArray × SLu8eiu64)) (v1 : Int) (v6 : Int) (o2000_0 : (List Int)) (o2000_1 : Int) (o2000_2 : Int) (o1005 : (List Int)) : Option (ByteArray × SLu8eiu64) :=
  ifE (decide (v6 > 0)) (
    (spec_l01Next.f (⟨o2000_0, o2000_1, o2000_2⟩ : SLu8eiu64) 3).bind fun r4 =>
    ifE (r4.1 == 0) (
      guardE ((o1005.length + [117].length) * 1 ≤ 140737488355328) <|
      rec3 v1 (W (v6 - 1)) r4.2.c0 r4.2.c1 r4.2.c2 (o1005 ++ [117])) (
      (spec_l01Next.f r4.2 (imin (imax v1 1) 9)).bind fun r5 =>
      guardE ((o1005.length + [IntKind.wrap .u8 (W (48 + r5.1))].length) * 1 ≤ 140737488355328) <|
      rec3 v1 (W (v6 - 1)) r5.2.c0 r5.2.c1 r5.2.c2 (o1005 ++ [IntKind.wrap .u8 (W (48 + r5.1))]))) (
    (spec_l01Next.f (⟨o2000_0, o2000_1, o2000_2⟩ : SLu8eiu64) 40).bind fun r6 =>
    ifE (r6.1 == 0) (
      (toStr o1005).bind fun z7 =>
      guardE (z7.size + (bs [57]).size ≤ 9223372036854775807) <|
      some ((z7 ++ (bs [57])), r6.2)) (
      ifE (r6.1 == 1) (
        spec_l10Word.l12 fuelN r6.2.c0 r6.2.c1 r6.2.c2 o1005) (
        (toStr o1005).bind fun z8 =>
        some (z8, r6.2))))

def spec_l10Word.l3 : Nat → Int → Int → (List Int) → Int → Int → (List Int) → Option (ByteArray × SLu8eiu64)
  | 0 => fun _ _ _ _ _ _ => none
  | k + 1 => spec_l10Word.s3 (spec_l10Word.l3 k)

def spec_l10Word.f (a0 : SLu8eiu64) (a1 : Int) : Option (ByteArray × SLu8eiu64) :=
  (spec_l01Next.f a0 5).bind fun r1 =>
  (spec_l01Next.f r1.2 9).bind fun r2 =>
  (spec_l01Pick.f r2.2 [r1.1, r2.1]).bind fun r3 =>
  spec_l10Word.l3 fuelN a1 r3.1 r3.2.c0 r3.2.c1 r3.2.c2 []

def spec_DrawFollowSteps.f (a0 : (List Int)) : Option (Int × Siii × ByteArray) :=
  (spec_l01From.f a0).bind fun r1 =>
  (spec_l01Spoil.f r1).bind fun r2 =>
  (spec_l10Word.f r2.2.2 r2.1).bind fun r3 =>
  some (r2.1, r2.2.1, r3.1)

def spec_DrawNormalSteps.f (a0 : (List Int)) : Option (Int × ByteArray) :=
  (spec_DrawFollowSteps.f a0).bind fun r1 =>
  some (r1.1, r1.2.2)

def spec_DrawMatrixOfSteps.f (a0 : (List Int)) : Option (Int × ByteArray) :=
  (spec_DrawNormalSteps.f a0).bind fun r1 =>
  some (r1.1, r1.2)

def impl_isSteps.s2 (rec2 : Int → ByteArray → Int → Int → Option Bool) (v0 : Int) (v1 : ByteArray) (v8 : Int) (v9 : Int) : Option Bool :=
  ifE (decide (v9 < v8)) (
    (getB v1 v9).bind fun b1 =>
    ifE ((b1.toNat : Int) != 117) (
      ifE (decide ((b1.toNat : Int) < 48)) (
        some false) (
        ifE (decide ((W (IntKind.wrap .u8 ((b1.toNat : Int) - 48))) ≥ v0)) (
          some false) (
          rec2 v0 v1 v8 (W (v9 + 1))))) (
      rec2 v0 v1 v8 (W (v9 + 1)))) (
    some (decide ((v1.size : Int) ≤ 40)))

def impl_isSteps.l2 : Nat → Int → ByteArray → Int → Int → Option Bool
  | 0 => fun _ _ _ _ => none
  | k + 1 => impl_isSteps.s2 (impl_isSteps.l2 k)

def impl_isSteps.f (a0 : Int) (a1 : ByteArray) : Option Bool :=
  impl_isSteps.l2 fuelN a0 a1 (a1.size : Int) 0

def impl_stepsCode.f (a0 : Int) (a1 : Siii) (a2 : ByteArray) : Option Int :=
  (impl_IsBall.f a0 a1).bind fun r1 =>
  ifE (!r1) (
    some 1) (
    (impl_isSteps.f a0 a2).bind fun r2 =>
    ifE (!r2) (
      some 6) (
      some 0))

def impl_MatrixOfSteps.j11 (rec6 : Int → ByteArray → Int → Int → Int → Int → Int → Int → Int → Int → Int → Int → Option (Siiii × Int)) (v0 : Int) (v1 : ByteArray) (v22 : Int) (v23 : Int) (o4_0 : Int) (o4_1 : Int) (o4_2 : Int) (o4_3 : Int) (o7_0 : Int) (o7_1 : Int) (o7_2 : Int) (o7_3 : Int) (o9_0 : Int) (o9_1 : Int) (o9_2 : Int) (o9_3 : Int) : Option (Siiii × Int) :=
  (impl_product.f (⟨o7_0, o7_1, o7_2, o7_3⟩ : Siiii) (⟨o9_0, o9_1, o9_2, o9_3⟩ : Siiii)).bind fun r5 =>
  ifE (!r5.2) (
    some ((⟨0, 0, 0, 0⟩ : Siiii), 3)) (
    rec6 v0 v1 v22 (W (v23 + 1)) o4_0 o4_1 o4_2 o4_3 r5.1.c0 r5.1.c1 r5.1.c2 r5.1.c3)

def impl_MatrixOfSteps.s6 (rec6 : Int → ByteArray → Int → Int → Int → Int → Int → Int → Int → Int → Int → Int → Option (Siiii × Int)) (v0 : Int) (v1 : ByteArray) (v22 : Int) (v23 : Int) (o4_0 : Int) (o4_1 : Int) (o4_2 : Int) (o4_3 : Int) (o7_0 : Int) (o7_1 : Int) (o7_2 : Int) (o7_3 : Int) : Option (Siiii × Int) :=
  ifE (decide (v23 < v22)) (
    (getB v1 v23).bind fun b3 =>
    ifE ((b3.toNat : Int) != 117) (
      (getB v1 v23).bind fun b4 =>
      impl_MatrixOfSteps.j11 rec6 v0 v1 v22 v23 o4_0 o4_1 o4_2 o4_3 o7_0 o7_1 o7_2 o7_3 v0 (W (IntKind.wrap .u8 ((b4.toNat : Int) - 48))) 0 1) (
      impl_MatrixOfSteps.j11 rec6 v0 v1 v22 v23 o4_0 o4_1 o4_2 o4_3 o7_0 o7_1 o7_2 o7_3 1 0 0 v0)) (
    some ((⟨o7_0, o7_1, o7_2, o7_3⟩ : Siiii), 0))

def impl_MatrixOfSteps.l6 : Nat → Int → ByteArray → Int → Int → Int → Int → Int → Int → Int → Int → Int → Int → Option (Siiii × Int)
  | 0 => fun _ _ _ _ _ _ _ _ _ _ _ _ => none
  | k + 1 => impl_MatrixOfSteps.s6 (impl_MatrixOfSteps.l6 k)

def impl_MatrixOfSteps.f (a0 : Int) (a1 : ByteArray) : Option (Siiii × Int) :=
  (impl_stepsCode.f a0 (⟨0, 0, 0⟩ : Siii) a1).bind fun r1 =>
  ifE (r1 != 0) (
    some ((⟨0, 0, 0, 0⟩ : Siiii), r1)) (
    (impl_one.f).bind fun r2 =>
    impl_MatrixOfSteps.l6 fuelN a0 a1 (a1.size : Int) 0 0 0 0 0 r2.c0 r2.c1 r2.c2 r2.c3)

def spec_l10Is.s4 (rec4 : Int → ByteArray → Int → Option Bool) (v0 : Int) (v1 : ByteArray) (v5 : Int) : Option Bool :=
  ifE (decide (v5 < (v1.size : Int))) (
    (getB v1 v5).bind fun b1 =>
    ifE ((b1.toNat : Int) != 117) (
      (getB v1 v5).bind fun b2 =>
      (spec_l01In.f (W ((W ((b2.toNat : Int))) - 48)) 0 (W (v0 - 1))).bind fun r3 =>
      ifE (!r3) (
        some false) (
        rec4 v0 v1 (W (v5 + 1)))) (
      rec4 v0 v1 (W (v5 + 1)))) (
    some true)

def spec_l10Is.l4 : Nat → Int → ByteArray → Int → Option Bool
  | 0 => fun _ _ _ => none
  | k + 1 => spec_l10Is.s4 (spec_l10Is.l4 k)

def spec_l10Is.f (a0 : Int) (a1 : ByteArray) : Option Bool :=
  ifE (decide ((a1.size : Int) > 40)) (
    some false) (
    spec_l10Is.l4 fuelN a0 a1 0)

def spec_l10Code.f (a0 : Int) (a1 : ByteArray) (a2 : (List Siii)) : Option Int :=
  (spec_l01Code.f a0 a2).bind fun r1 =>
  ifE (r1 != 0) (
    some 1) (
    (spec_l10Is.f a0 a1).bind fun r2 =>
    ifE (!r2) (
      some 6) (
      some 0))

def spec_MatrixOfSteps.j11 (rec6 : Int → ByteArray → Int → Int → Int → Int → Int → Int → Int → Int → Int → Option (Siiii × Int)) (v0 : Int) (v1 : ByteArray) (v8 : Int) (o4_0 : Int) (o4_1 : Int) (o4_2 : Int) (o4_3 : Int) (o7_0 : Int) (o7_1 : Int) (o7_2 : Int) (o7_3 : Int) (o9_0 : Int) (o9_1 : Int) (o9_2 : Int) (o9_3 : Int) : Option (Siiii × Int) :=
  (spec_l04Times.f (⟨o7_0, o7_1, o7_2, o7_3⟩ : Siiii) (⟨o9_0, o9_1, o9_2, o9_3⟩ : Siiii)).bind fun r4 =>
  ifE (!r4.2) (
    some ((⟨0, 0, 0, 0⟩ : Siiii), 3)) (
    rec6 v0 v1 (W (v8 + 1)) o4_0 o4_1 o4_2 o4_3 r4.1.c0 r4.1.c1 r4.1.c2 r4.1.c3)

def spec_MatrixOfSteps.s6 (rec6 : Int → ByteArray → Int → Int → Int → Int → Int → Int → Int → Int → Int → Option (Siiii × Int)) (v0 : Int) (v1 : ByteArray) (v8 : Int) (o4_0 : Int) (o4_1 : Int) (o4_2 : Int) (o4_3 : Int) (o7_0 : Int) (o7_1 : Int) (o7_2 : Int) (o7_3 : Int) : Option (Siiii × Int) :=
  ifE (decide (v8 < (v1.size : Int))) (
    (getB v1 v8).bind fun b2 =>
    ifE ((b2.toNat : Int) != 117) (
      (getB v1 v8).bind fun b3 =>
      spec_MatrixOfSteps.j11 rec6 v0 v1 v8 o4_0 o4_1 o4_2 o4_3 o7_0 o7_1 o7_2 o7_3 v0 (W ((W ((b3.toNat : Int))) - 48)) 0 1) (
      spec_MatrixOfSteps.j11 rec6 v0 v1 v8 o4_0 o4_1 o4_2 o4_3 o7_0 o7_1 o7_2 o7_3 1 0 0 v0)) (
    some ((⟨o7_0, o7_1, o7_2, o7_3⟩ : Siiii), 0))

def spec_MatrixOfSteps.l6 : Nat → Int → ByteArray → Int → Int → Int → Int → Int → Int → Int → Int → Int → Option (Siiii × Int)
  | 0 => fun _ _ _ _ _ _ _ _ _ _ _ => none
  | k + 1 => spec_MatrixOfSteps.s6 (spec_MatrixOfSteps.l6 k)

def spec_MatrixOfSteps.f (a0 : Int) (a1 : ByteArray) : Option (Siiii × Int) :=
  (spec_l10Code.f a0 a1 []).bind fun r1 =>
  ifE (r1 != 0) (
    some ((⟨0, 0, 0, 0⟩ : Siiii), r1)) (
    spec_MatrixOfSteps.l6 fuelN a0 a1 0 0 0 0 0 1 0 0 1)

def spec_l04With.f (a0 : (List Int)) : Option (Int × Siiii × Siii) :=
  (spec_l01From.f a0).bind fun r1 =>
  (spec_l01Spoil.f r1).bind fun r2 =>
  (spec_l01Next.f r2.2.2 3).bind fun r3 =>
  ifE (r3.1 == 0) (
    (spec_l04Draw.f r3.2).bind fun r4 =>
    some (r2.1, r4.1, (⟨0, 0, 0⟩ : Siii))) (
    (spec_l04Draw.f r3.2).bind fun r5 =>
    some (r2.1, r5.1, r2.2.1))

def spec_DrawTriangularPart.f (a0 : (List Int)) : Option (Int × Siiii) :=
  (spec_l04With.f a0).bind fun r1 =>
  some (r1.1, r1.2.1)

def impl_partCode.f (a0 : Int) (a1 : Siiii) : Option Int :=
  (impl_isPrime.f a0).bind fun r1 =>
  ifE (!r1) (
    some 1) (
    (impl_IsMatrix.f a1).bind fun r2 =>
    ifE (!r2) (
      some 1) (
      some 0))

def impl_triangular.f (a0 : Int) (a1 : Siiii) : Option (Siiii × Bool) :=
  (impl_moveBall.f a0 a1 (⟨0, 0, 0⟩ : Siii)).bind fun r1 =>
  ifE (!r1.2) (
    some ((⟨0, 0, 0, 0⟩ : Siiii), false)) (
    (impl_power.f a0 (W (r1.1.c0 + (imax (imax 0 (W (0 - r1.1.c0))) r1.1.c2)))).bind fun r2 =>
    (impl_power.f a0 (W ((imax (imax 0 (W (0 - r1.1.c0))) r1.1.c2) - r1.1.c2))).bind fun r3 =>
    (impl_power.f a0 (imax (imax 0 (W (0 - r1.1.c0))) r1.1.c2)).bind fun r4 =>
    (impl_reduced.f (⟨r2, W (r1.1.c1 * r3), 0, r4⟩ : Siiii)).bind fun r5 =>
    some (r5.1, r5.2))

def impl_TriangularPart.f (a0 : Int) (a1 : Siiii) : Option (Siiii × Int) :=
  (impl_partCode.f a0 a1).bind fun r1 =>
  ifE (r1 != 0) (
    some ((⟨0, 0, 0, 0⟩ : Siiii), r1)) (
    (impl_triangular.f a0 a1).bind fun r2 =>
    (impl_fittedMatrix.f r2.1 r2.2).bind fun r3 =>
    some (r3.1, r3.2))

def spec_l10Triangular.f (a0 : Int) (a1 : Siiii) : Option (Siiii × Bool) :=
  (spec_l04Move.f a0 a1 (⟨0, 0, 0⟩ : Siii)).bind fun r1 =>
  ifE (!r1.2) (
    some ((⟨0, 0, 0, 0⟩ : Siiii), false)) (
    (spec_l01Power.f a0 (W (r1.1.c0 + (imax r1.1.c2 (W (0 - r1.1.c0)))))).bind fun r2 =>
    (spec_l01Power.f a0 (W ((imax r1.1.c2 (W (0 - r1.1.c0))) - r1.1.c2))).bind fun r3 =>
    (spec_l01Power.f a0 (imax r1.1.c2 (W (0 - r1.1.c0)))).bind fun r4 =>
    (spec_l04Reduce.f (⟨r2, W (r1.1.c1 * r3), 0, r4⟩ : Siiii)).bind fun r5 =>
    some (r5.1, r5.2))

def spec_TriangularPart.f (a0 : Int) (a1 : Siiii) : Option (Siiii × Int) :=
  (spec_l04Code.f a0 a1 []).bind fun r1 =>
  ifE (r1 != 0) (
    some ((⟨0, 0, 0, 0⟩ : Siiii), r1)) (
    (spec_l10Triangular.f a0 a1).bind fun r2 =>
    ifE (!r2.2) (
      some ((⟨0, 0, 0, 0⟩ : Siiii), 3)) (
      some (r2.1, 0)))

def impl_UnitPart.f (a0 : Int) (a1 : Siiii) : Option (Siiii × Int) :=
  (impl_partCode.f a0 a1).bind fun r1 =>
  ifE (r1 != 0) (
    some ((⟨0, 0, 0, 0⟩ : Siiii), r1)) (
    (impl_triangular.f a0 a1).bind fun r2 =>
    ifE (!r2.2) (
      some ((⟨0, 0, 0, 0⟩ : Siiii), 3)) (
      (impl_inverted.f r2.1).bind fun r3 =>
      (impl_product.f r3 a1).bind fun r4 =>
      (impl_fittedMatrix.f r4.1 r4.2).bind fun r5 =>
      some (r5.1, r5.2)))

def spec_UnitPart.f (a0 : Int) (a1 : Siiii) : Option (Siiii × Int) :=
  (spec_l04Code.f a0 a1 []).bind fun r1 =>
  ifE (r1 != 0) (
    some ((⟨0, 0, 0, 0⟩ : Siiii), r1)) (
    (spec_l10Triangular.f a0 a1).bind fun r2 =>
    ifE (!r2.2) (
      some ((⟨0, 0, 0, 0⟩ : Siiii), 3)) (
      (spec_l04Inverse.f r2.1).bind fun r3 =>
      (spec_l04Times.f r3 a1).bind fun r4 =>
      ifE (!r4.2) (
        some ((⟨0, 0, 0, 0⟩ : Siiii), 3)) (
        some (r4.1, 0))))

def impl_IsUnitMatrix.f (a0 : Int) (a1 : Siiii) : Option (Bool × Int) :=
  (impl_partCode.f a0 a1).bind fun r1 =>
  ifE (r1 != 0) (
    some (false, r1)) (
    (impl_reduce.f a1).bind fun r2 =>
    (impl_determinant.f r2).bind fun r3 =>
    guardE (a0 ≠ 0) <|
    some ((Int.tmod r3 a0) != 0, 0))

def spec_l10Position.f (a0 : Int) (a1 : Siiii) : Option Int :=
  (spec_l04Reduce.f a1).bind fun r1 =>
  (spec_l04Det.f r1.1).bind fun r2 =>
  (spec_l01Val.f a0 r2).bind fun r3 =>
  some r3

def spec_IsUnitMatrix.f (a0 : Int) (a1 : Siiii) : Option (Bool × Int) :=
  (spec_l04Code.f a0 a1 []).bind fun r1 =>
  ifE (r1 != 0) (
    some (false, r1)) (
    (spec_l10Position.f a0 a1).bind fun r2 =>
    some (r2 == 0, 0))

def impl_MatrixPosition.f (a0 : Int) (a1 : Siiii) : Option (Int × Int) :=
  (impl_partCode.f a0 a1).bind fun r1 =>
  ifE (r1 != 0) (
    some (0, r1)) (
    (impl_reduce.f a1).bind fun r2 =>
    (impl_determinant.f r2).bind fun r3 =>
    (impl_valuation.f a0 r3).bind fun r4 =>
    some (r4, 0))

def spec_MatrixPosition.f (a0 : Int) (a1 : Siiii) : Option (Int × Int) :=
  (spec_l04Code.f a0 a1 []).bind fun r1 =>
  ifE (r1 != 0) (
    some (0, r1)) (
    (spec_l10Position.f a0 a1).bind fun r2 =>
    some (r2, 0))

def impl_above.f (a0 : Int) (a1 : Siii) (a2 : Int) : Option Siii :=
  (impl_mark.f a0 a1).bind fun r1 =>
  (impl_ofMark.f a0 a2 r1).bind fun r2 =>
  some r2.1

def impl_geodesic.s7 (rec7 : Int → Int → Int → Int → Int → (List Siii) → Option (List Siii)) (v0 : Int) (v10 : Int) (o5_0 : Int) (o5_1 : Int) (o5_2 : Int) (o1008 : (List Siii)) : Option (List Siii) :=
  ifE (decide (v10 ≤ o5_0)) (
    (impl_above.f v0 (⟨o5_0, o5_1, o5_2⟩ : Siii) v10).bind fun r3 =>
    guardE ((o1008.length + [r3].length) * 24 ≤ 140737488355328) <|
    rec7 v0 (W (v10 + 1)) o5_0 o5_1 o5_2 (o1008 ++ [r3])) (
    some o1008)

def impl_geodesic.l7 : Nat → Int → Int → Int → Int → Int → (List Siii) → Option (List Siii)
  | 0 => fun _ _ _ _ _ _ => none
  | k + 1 => impl_geodesic.s7 (impl_geodesic.l7 k)

def impl_geodesic.s3 (rec3 : Int → Int → Int → Int → Int → Int → Int → Int → Int → (List Siii) → Option (List Siii)) (v0 : Int) (v7 : Int) (v9 : Int) (o4_0 : Int) (o4_1 : Int) (o4_2 : Int) (o5_0 : Int) (o5_1 : Int) (o5_2 : Int) (o1008 : (List Siii)) : Option (List Siii) :=
  ifE (decide (v9 ≥ v7)) (
    (impl_above.f v0 (⟨o4_0, o4_1, o4_2⟩ : Siii) v9).bind fun r2 =>
    guardE ((o1008.length + [r2].length) * 24 ≤ 140737488355328) <|
    rec3 v0 v7 (W (v9 - 1)) o4_0 o4_1 o4_2 o5_0 o5_1 o5_2 (o1008 ++ [r2])) (
    impl_geodesic.l7 fuelN v0 (W (v7 + 1)) o5_0 o5_1 o5_2 o1008)

def impl_geodesic.l3 : Nat → Int → Int → Int → Int → Int → Int → Int → Int → Int → (List Siii) → Option (List Siii)
  | 0 => fun _ _ _ _ _ _ _ _ _ _ => none
  | k + 1 => impl_geodesic.s3 (impl_geodesic.l3 k)

def impl_geodesic.f (a0 : Int) (a1 : Siii) (a2 : Siii) : Option (List Siii) :=
  (impl_joinLevel.f a0 a1 a2).bind fun r1 =>
  impl_geodesic.l3 fuelN a0 r1 a1.c0 a1.c0 a1.c1 a1.c2 a2.c0 a2.c1 a2.c2 []

def impl_toward.s2 (rec2 : Int → Int → Int → Int → Int → Int → Int → Int → Option Int) (v0 : Int) (v7 : Int) (o4_0 : Int) (o4_1 : Int) (o4_2 : Int) (o5_0 : Int) (o5_1 : Int) (o5_2 : Int) : Option Int :=
  ifE (decide (v7 ≤ v0)) (
    (impl_neighbour.f v0 (⟨o4_0, o4_1, o4_2⟩ : Siii) v7).bind fun r1 =>
    ifE r1.2 (
      ifE ((r1.1.c0 == o5_0) && ((r1.1.c1 == o5_1) && ((r1.1.c2 == o5_2) && true))) (
        some v7) (
        rec2 v0 (W (v7 + 1)) o4_0 o4_1 o4_2 o5_0 o5_1 o5_2)) (
      rec2 v0 (W (v7 + 1)) o4_0 o4_1 o4_2 o5_0 o5_1 o5_2)) (
    some 0)

def impl_toward.l2 : Nat → Int → Int → Int → Int → Int → Int → Int → Int → Option Int
  | 0 => fun _ _ _ _ _ _ _ _ => none
  | k + 1 => impl_toward.s2 (impl_toward.l2 k)

def impl_toward.f (a0 : Int) (a1 : Siii) (a2 : Siii) : Option Int :=
  impl_toward.l2 fuelN a0 1 a1.c0 a1.c1 a1.c2 a2.c0 a2.c1 a2.c2

def impl_letterTo.f (a0 : Int) (a1 : Siii) (a2 : Siii) : Option Int :=
  ifE (decide (a2.c0 < a1.c0)) (
    some 117) (
    (impl_toward.f a0 a1 a2).bind fun r1 =>
    some (IntKind.wrap .u8 (W ((W (48 + r1)) - 1))))

def impl_wayWord.s3 (rec3 : Int → (List Siii) → Int → (List Int) → Option ByteArray) (v0 : Int) (v8 : (List Siii)) (v9 : Int) (o1007 : (List Int)) : Option ByteArray :=
  ifE (decide (v9 < (v8.length : Int))) (
    (getE v8 (W (v9 - 1))).bind fun e2 =>
    (getE v8 v9).bind fun e3 =>
    (impl_letterTo.f v0 e2 e3).bind fun r4 =>
    guardE ((o1007.length + [r4].length) * 1 ≤ 140737488355328) <|
    rec3 v0 v8 (W (v9 + 1)) (o1007 ++ [r4])) (
    (toStr o1007).bind fun z5 =>
    some z5)

def impl_wayWord.l3 : Nat → Int → (List Siii) → Int → (List Int) → Option ByteArray
  | 0 => fun _ _ _ _ => none
  | k + 1 => impl_wayWord.s3 (impl_wayWord.l3 k)

def impl_wayWord.f (a0 : Int) (a1 : Siii) (a2 : Siii) : Option ByteArray :=
  (impl_geodesic.f a0 a1 a2).bind fun r1 =>
  impl_wayWord.l3 fuelN a0 r1 1 []

def impl_StepsOfMatrix.f (a0 : Int) (a1 : Siiii) : Option (ByteArray × Int) :=
  (impl_partCode.f a0 a1).bind fun r1 =>
  ifE (r1 != 0) (
    some ((bs []), r1)) (
    (impl_triangular.f a0 a1).bind fun r2 =>
    ifE (!r2.2) (
      some ((bs []), 3)) (
      (impl_moveBall.f a0 a1 (⟨0, 0, 0⟩ : Siii)).bind fun r3 =>
      (impl_wayWord.f a0 (⟨0, 0, 0⟩ : Siii) r3.1).bind fun r4 =>
      some (r4, 0)))

def spec_l02Up.f (a0 : Int) (a1 : Siii) (a2 : Int) : Option (Siii × Bool) :=
  (spec_l01Power.f a0 a1.c2).bind fun r1 =>
  (spec_l01Of.f a0 a1.c1 r1 a2).bind fun r2 =>
  some (r2.1, r2.2)

def spec_l10Digit.s3 (rec3 : Int → Int → Int → Int → Int → Int → Int → Int → Option Int) (v0 : Int) (v7 : Int) (o3_0 : Int) (o3_1 : Int) (o3_2 : Int) (o5_0 : Int) (o5_1 : Int) (o5_2 : Int) : Option Int :=
  ifE (decide (v7 < v0)) (
    (spec_l01Child.f v0 (⟨o5_0, o5_1, o5_2⟩ : Siii) v7).bind fun r2 =>
    ifE r2.2 (
      ifE ((r2.1.c0 == o3_0) && ((r2.1.c1 == o3_1) && ((r2.1.c2 == o3_2) && true))) (
        some v7) (
        rec3 v0 (W (v7 + 1)) o3_0 o3_1 o3_2 o5_0 o5_1 o5_2)) (
      rec3 v0 (W (v7 + 1)) o3_0 o3_1 o3_2 o5_0 o5_1 o5_2)) (
    some 0)

def spec_l10Digit.l3 : Nat → Int → Int → Int → Int → Int → Int → Int → Int → Option Int
  | 0 => fun _ _ _ _ _ _ _ _ => none
  | k + 1 => spec_l10Digit.s3 (spec_l10Digit.l3 k)

def spec_l10Digit.f (a0 : Int) (a1 : Siii) : Option Int :=
  (spec_l01Parent.f a0 a1).bind fun r1 =>
  spec_l10Digit.l3 fuelN a0 0 a1.c0 a1.c1 a1.c2 r1.1.c0 r1.1.c1 r1.1.c2

def spec_l10Way.s7 (rec7 : Int → Int → Int → Int → Int → (List Int) → Option (ByteArray × Bool)) (v0 : Int) (v11 : Int) (o5_0 : Int) (o5_1 : Int) (o5_2 : Int) (o1009 : (List Int)) : Option (ByteArray × Bool) :=
  ifE (decide (v11 ≤ o5_0)) (
    (spec_l02Up.f v0 (⟨o5_0, o5_1, o5_2⟩ : Siii) v11).bind fun r2 =>
    ifE (!r2.2) (
      some ((bs []), false)) (
      (spec_l10Digit.f v0 r2.1).bind fun r3 =>
      guardE ((o1009.length + [IntKind.wrap .u8 (W (48 + r3))].length) * 1 ≤ 140737488355328) <|
      rec7 v0 (W (v11 + 1)) o5_0 o5_1 o5_2 (o1009 ++ [IntKind.wrap .u8 (W (48 + r3))]))) (
    (toStr o1009).bind fun z4 =>
    some (z4, true))

def spec_l10Way.l7 : Nat → Int → Int → Int → Int → Int → (List Int) → Option (ByteArray × Bool)
  | 0 => fun _ _ _ _ _ _ => none
  | k + 1 => spec_l10Way.s7 (spec_l10Way.l7 k)

def spec_l10Way.s3 (rec3 : Int → Int → Int → Int → Int → Int → (List Int) → Option (ByteArray × Bool)) (v0 : Int) (v8 : Int) (v10 : Int) (o5_0 : Int) (o5_1 : Int) (o5_2 : Int) (o1009 : (List Int)) : Option (ByteArray × Bool) :=
  ifE (decide (v10 > v8)) (
    guardE ((o1009.length + [117].length) * 1 ≤ 140737488355328) <|
    rec3 v0 v8 (W (v10 - 1)) o5_0 o5_1 o5_2 (o1009 ++ [117])) (
    spec_l10Way.l7 fuelN v0 (W (v8 + 1)) o5_0 o5_1 o5_2 o1009)

def spec_l10Way.l3 : Nat → Int → Int → Int → Int → Int → Int → (List Int) → Option (ByteArray × Bool)
  | 0 => fun _ _ _ _ _ _ _ => none
  | k + 1 => spec_l10Way.s3 (spec_l10Way.l3 k)

def spec_l10Way.f (a0 : Int) (a1 : Siii) (a2 : Siii) : Option (ByteArray × Bool) :=
  (spec_l02Join.f a0 a1 a2).bind fun r1 =>
  spec_l10Way.l3 fuelN a0 r1 a1.c0 a2.c0 a2.c1 a2.c2 []

def spec_StepsOfMatrix.f (a0 : Int) (a1 : Siiii) : Option (ByteArray × Int) :=
  (spec_l04Code.f a0 a1 []).bind fun r1 =>
  ifE (r1 != 0) (
    some ((bs []), r1)) (
    (spec_l04Move.f a0 a1 (⟨0, 0, 0⟩ : Siii)).bind fun r2 =>
    (spec_l10Triangular.f a0 a1).bind fun r3 =>
    ifE (!r2.2) (
      some ((bs []), 3)) (
      ifE (!r3.2) (
        some ((bs []), 3)) (
        (spec_l10Way.f a0 (⟨0, 0, 0⟩ : Siii) r2.1).bind fun r4 =>
        ifE (!r4.2) (
          some ((bs []), 3)) (
          some (r4.1, 0)))))

def spec_NormalSteps.s6 (rec6 : ByteArray → Int → (List Int) → Option (ByteArray × Int)) (v1 : ByteArray) (v8 : Int) (o1007 : (List Int)) : Option (ByteArray × Int) :=
  ifE (decide (v8 < (v1.size : Int))) (
    (getB v1 v8).bind fun b2 =>
    ifE ((b2.toNat : Int) == 117) (
      ifE (decide ((o1007.length : Int) > 0)) (
        (getE o1007 (W ((o1007.length : Int) - 1))).bind fun e3 =>
        ifE (e3 != 117) (
          (getS o1007 0 (W ((o1007.length : Int) - 1))).bind fun l4 =>
          rec6 v1 (W (v8 + 1)) l4) (
          (getB v1 v8).bind fun b5 =>
          guardE ((o1007.length + [(b5.toNat : Int)].length) * 1 ≤ 140737488355328) <|
          rec6 v1 (W (v8 + 1)) (o1007 ++ [(b5.toNat : Int)]))) (
        (getB v1 v8).bind fun b6 =>
        guardE ((o1007.length + [(b6.toNat : Int)].length) * 1 ≤ 140737488355328) <|
        rec6 v1 (W (v8 + 1)) (o1007 ++ [(b6.toNat : Int)]))) (
      (getB v1 v8).bind fun b7 =>
      guardE ((o1007.length + [(b7.toNat : Int)].length) * 1 ≤ 140737488355328) <|
      rec6 v1 (W (v8 + 1)) (o1007 ++ [(b7.toNat : Int)]))) (
    (toStr o1007).bind fun z8 =>
    some (z8, 0))

def spec_NormalSteps.l6 : Nat → ByteArray → Int → (List Int) → Option (ByteArray × Int)
  | 0 => fun _ _ _ => none
  | k + 1 => spec_NormalSteps.s6 (spec_NormalSteps.l6 k)

def spec_NormalSteps.f (a0 : Int) (a1 : ByteArray) : Option (ByteArray × Int) :=
  (spec_l10Code.f a0 a1 []).bind fun r1 =>
  ifE (r1 != 0) (
    some ((bs []), r1)) (
    spec_NormalSteps.l6 fuelN a1 0 [])

def impl_follow.j8 (rec3 : Int → ByteArray → Int → Int → Int → Int → Int → (List Siii) → Option ((List Siii) × Bool)) (v0 : Int) (v2 : ByteArray) (v10 : Int) (v16 : Int) (v17 : Int) (o4_0 : Int) (o4_1 : Int) (o4_2 : Int) (o1008 : (List Siii)) : Option ((List Siii) × Bool) :=
  (impl_neighbour.f v0 (⟨o4_0, o4_1, o4_2⟩ : Siii) v10).bind fun r3 =>
  ifE (!r3.2) (
    some ([], false)) (
    guardE ((o1008.length + [r3.1].length) * 24 ≤ 140737488355328) <|
    rec3 v0 v2 v16 (W (v17 + 1)) r3.1.c0 r3.1.c1 r3.1.c2 (o1008 ++ [r3.1]))

def impl_follow.s3 (rec3 : Int → ByteArray → Int → Int → Int → Int → Int → (List Siii) → Option ((List Siii) × Bool)) (v0 : Int) (v2 : ByteArray) (v16 : Int) (v17 : Int) (o4_0 : Int) (o4_1 : Int) (o4_2 : Int) (o1008 : (List Siii)) : Option ((List Siii) × Bool) :=
  ifE (decide (v17 < v16)) (
    (getB v2 v17).bind fun b1 =>
    ifE ((b1.toNat : Int) != 117) (
      (getB v2 v17).bind fun b2 =>
      impl_follow.j8 rec3 v0 v2 (W ((W (IntKind.wrap .u8 ((b2.toNat : Int) - 48))) + 1)) v16 v17 o4_0 o4_1 o4_2 o1008) (
      impl_follow.j8 rec3 v0 v2 0 v16 v17 o4_0 o4_1 o4_2 o1008)) (
    some (o1008, true))

def impl_follow.l3 : Nat → Int → ByteArray → Int → Int → Int → Int → Int → (List Siii) → Option ((List Siii) × Bool)
  | 0 => fun _ _ _ _ _ _ _ _ => none
  | k + 1 => impl_follow.s3 (impl_follow.l3 k)

def impl_follow.f (a0 : Int) (a1 : Siii) (a2 : ByteArray) : Option ((List Siii) × Bool) :=
  impl_follow.l3 fuelN a0 a2 (a2.size : Int) 0 a1.c0 a1.c1 a1.c2 [a1]

def impl_FollowSteps.f (a0 : Int) (a1 : Siii) (a2 : ByteArray) : Option (Siii × Int) :=
  (impl_stepsCode.f a0 a1 a2).bind fun r1 =>
  ifE (r1 != 0) (
    some ((⟨0, 0, 0⟩ : Siii), r1)) (
    (impl_follow.f a0 a1 a2).bind fun r2 =>
    ifE (!r2.2) (
      some ((⟨0, 0, 0⟩ : Siii), 3)) (
      (getE r2.1 (W ((r2.1.length : Int) - 1))).bind fun e3 =>
      some (e3, 0)))

def impl_DisplacementOf.f (a0 : Int) (a1 : Siiii) (a2 : Siii) : Option (Int × Int) :=
  (impl_MoveBall.f a0 a1 a2).bind fun r1 =>
  ifE (r1.2 != 0) (
    some (0, r1.2)) (
    (impl_distance.f a0 a2 r1.1).bind fun r2 =>
    some (r2, 0))

def laws_FnParts.j41 (v9 : Int) (v12 : Int) (v16 : Int) (o10_0 : Int) (o10_1 : Int) (o10_2 : Int) (o10_3 : Int) (o11_0 : Int) (o11_1 : Int) (o11_2 : Int) (o11_3 : Int) (o15_0 : Int) (o15_1 : Int) (o15_2 : Int) (o15_3 : Int) : Option Bool :=
  ifE (v16 != 0) (
    some (((o15_0 == 0) && ((o15_1 == 0) && true)) && (((o15_2 == 0) && ((o15_3 == 0) && true)) && true))) (
    (impl_IsUnitMatrix.f v9 (⟨o15_0, o15_1, o15_2, o15_3⟩ : Siiii)).bind fun r20 =>
    (impl_MultiplyMatrices.f (⟨o11_0, o11_1, o11_2, o11_3⟩ : Siiii) (⟨o15_0, o15_1, o15_2, o15_3⟩ : Siiii)).bind fun r21 =>
    (impl_ReduceMatrix.f (⟨o10_0, o10_1, o10_2, o10_3⟩ : Siiii)).bind fun r22 =>
    ifE (v12 == 0) (
      ifE (r20.2 == 0) (
        ifE r20.1 (
          ifE (r21.2 == 0) (
            ifE (r22.2 == 0) (
              some (((r21.1.c0 == r22.1.c0) && ((r21.1.c1 == r22.1.c1) && true)) && (((r21.1.c2 == r22.1.c2) && ((r21.1.c3 == r22.1.c3) && true)) && true))) (
              some false)) (
            some false)) (
          some false)) (
        some false)) (
      some false))

def laws_FnParts.j39 (v9 : Int) (v12 : Int) (v16 : Int) (v23 : Int) (v27 : ByteArray) (v28 : Int) (o10_0 : Int) (o10_1 : Int) (o10_2 : Int) (o10_3 : Int) (o11_0 : Int) (o11_1 : Int) (o11_2 : Int) (o11_3 : Int) (o15_0 : Int) (o15_1 : Int) (o15_2 : Int) (o15_3 : Int) : Option Bool :=
  ifE (v28 == 0) (
    ifE ((v27.size : Int) != v23) (
      some false) (
      laws_FnParts.j41 v9 v12 v16 o10_0 o10_1 o10_2 o10_3 o11_0 o11_1 o11_2 o11_3 o15_0 o15_1 o15_2 o15_3)) (
    laws_FnParts.j41 v9 v12 v16 o10_0 o10_1 o10_2 o10_3 o11_0 o11_1 o11_2 o11_3 o15_0 o15_1 o15_2 o15_3)

def laws_FnParts.j35 (v9 : Int) (v12 : Int) (v16 : Int) (v19 : Bool) (v23 : Int) (v24 : Int) (v27 : ByteArray) (v28 : Int) (o10_0 : Int) (o10_1 : Int) (o10_2 : Int) (o10_3 : Int) (o11_0 : Int) (o11_1 : Int) (o11_2 : Int) (o11_3 : Int) (o15_0 : Int) (o15_1 : Int) (o15_2 : Int) (o15_3 : Int) : Option Bool :=
  ifE (v24 == 0) (
    (impl_DisplacementOf.f v9 (⟨o10_0, o10_1, o10_2, o10_3⟩ : Siiii) (⟨0, 0, 0⟩ : Siii)).bind fun r19 =>
    ifE (r19.2 == 0) (
      ifE (r19.1 != v23) (
        some false) (
        ifE (!(v19 == (v23 == 0))) (
          some false) (
          laws_FnParts.j39 v9 v12 v16 v23 v27 v28 o10_0 o10_1 o10_2 o10_3 o11_0 o11_1 o11_2 o11_3 o15_0 o15_1 o15_2 o15_3))) (
      ifE (!(v19 == (v23 == 0))) (
        some false) (
        laws_FnParts.j39 v9 v12 v16 v23 v27 v28 o10_0 o10_1 o10_2 o10_3 o11_0 o11_1 o11_2 o11_3 o15_0 o15_1 o15_2 o15_3))) (
    laws_FnParts.j39 v9 v12 v16 v23 v27 v28 o10_0 o10_1 o10_2 o10_3 o11_0 o11_1 o11_2 o11_3 o15_0 o15_1 o15_2 o15_3)

def laws_FnParts.f (a0 : (List Int)) : Option Bool :=
  (laws_big.f a0).bind fun r1 =>
  ifE r1 (
    some true) (
    (spec_DrawMatrixOfSteps.f a0).bind fun r2 =>
    (impl_MatrixOfSteps.f r2.1 r2.2).bind fun r3 =>
    (spec_MatrixOfSteps.f r2.1 r2.2).bind fun r4 =>
    ifE (r3.2 != r4.2) (
      some false) (
      ifE (!(((r3.1.c0 == r4.1.c0) && ((r3.1.c1 == r4.1.c1) && true)) && (((r3.1.c2 == r4.1.c2) && ((r3.1.c3 == r4.1.c3) && true)) && true))) (
        some false) (
        (spec_DrawTriangularPart.f a0).bind fun r5 =>
        (impl_TriangularPart.f r5.1 r5.2).bind fun r6 =>
        (spec_TriangularPart.f r5.1 r5.2).bind fun r7 =>
        ifE (r6.2 != r7.2) (
          some false) (
          ifE (!(((r6.1.c0 == r7.1.c0) && ((r6.1.c1 == r7.1.c1) && true)) && (((r6.1.c2 == r7.1.c2) && ((r6.1.c3 == r7.1.c3) && true)) && true))) (
            some false) (
            (impl_UnitPart.f r5.1 r5.2).bind fun r8 =>
            (spec_UnitPart.f r5.1 r5.2).bind fun r9 =>
            ifE (r8.2 != r9.2) (
              some false) (
              ifE (!(((r8.1.c0 == r9.1.c0) && ((r8.1.c1 == r9.1.c1) && true)) && (((r8.1.c2 == r9.1.c2) && ((r8.1.c3 == r9.1.c3) && true)) && true))) (
                some false) (
                (impl_IsUnitMatrix.f r5.1 r5.2).bind fun r10 =>
                (spec_IsUnitMatrix.f r5.1 r5.2).bind fun r11 =>
                ifE (r10.2 != r11.2) (
                  some false) (
                  ifE (!(r10.1 == r11.1)) (
                    some false) (
                    (impl_MatrixPosition.f r5.1 r5.2).bind fun r12 =>
                    (spec_MatrixPosition.f r5.1 r5.2).bind fun r13 =>
                    ifE (r12.2 != r13.2) (
                      some false) (
                      ifE (r12.1 != r13.1) (
                        some false) (
                        (impl_StepsOfMatrix.f r5.1 r5.2).bind fun r14 =>
                        (spec_StepsOfMatrix.f r5.1 r5.2).bind fun r15 =>
                        ifE (r14.2 != r15.2) (
                          some false) (
                          ifE (!(r14.1.toList == r15.1.toList)) (
                            some false) (
                            (spec_NormalSteps.f r2.1 r2.2).bind fun r16 =>
                            ifE (r3.2 == 0) (
                              ifE (r16.1.toList == r2.2.toList) (
                                (impl_MoveBall.f r2.1 r3.1 (⟨0, 0, 0⟩ : Siii)).bind fun r17 =>
                                (impl_FollowSteps.f r2.1 (⟨0, 0, 0⟩ : Siii) r2.2).bind fun r18 =>
                                ifE (r18.2 == 0) (
                                  ifE (r17.2 != 0) (
                                    some false) (
                                    ifE (!((r17.1.c0 == r18.1.c0) && ((r17.1.c1 == r18.1.c1) && ((r17.1.c2 == r18.1.c2) && true)))) (
                                      some false) (
                                      laws_FnParts.j35 r5.1 r6.2 r8.2 r10.1 r12.1 r12.2 r14.1 r14.2 r5.2.c0 r5.2.c1 r5.2.c2 r5.2.c3 r6.1.c0 r6.1.c1 r6.1.c2 r6.1.c3 r8.1.c0 r8.1.c1 r8.1.c2 r8.1.c3))) (
                                  laws_FnParts.j35 r5.1 r6.2 r8.2 r10.1 r12.1 r12.2 r14.1 r14.2 r5.2.c0 r5.2.c1 r5.2.c2 r5.2.c3 r6.1.c0 r6.1.c1 r6.1.c2 r6.1.c3 r8.1.c0 r8.1.c1 r8.1.c2 r8.1.c3)) (
                                laws_FnParts.j35 r5.1 r6.2 r8.2 r10.1 r12.1 r12.2 r14.1 r14.2 r5.2.c0 r5.2.c1 r5.2.c2 r5.2.c3 r6.1.c0 r6.1.c1 r6.1.c2 r6.1.c3 r8.1.c0 r8.1.c1 r8.1.c2 r8.1.c3)) (
                              laws_FnParts.j35 r5.1 r6.2 r8.2 r10.1 r12.1 r12.2 r14.1 r14.2 r5.2.c0 r5.2.c1 r5.2.c2 r5.2.c3 r6.1.c0 r6.1.c1 r6.1.c2 r6.1.c3 r8.1.c0 r8.1.c1 r8.1.c2 r8.1.c3))))))))))))))

end Go.Gn
end
