import Derived.Test.YtdhhimfcjoclfaaVD
import Derived.Test.YtdhhimfcjoclfaaKS
set_option linter.unusedVariables false
set_option linter.unusedSimpArgs false
set_option maxRecDepth 100000
namespace Go.Proofs.Ytdhhimfcjoclfaa
open Go Go.K Go.V Go.Proofs
/- slices.Sort at numbers -/
def mg68 (fuel : Nat) (zs : List Int) : Option (List Int) := mSort fuel zs

/- slices.Compact at numbers -/
def mg49 (fuel : Nat) (zs : List Int) : Option (List Int) := mCompact fuel zs

/- (*foldhouse/foldhouselaw10.digits).next -/
def mg7 (fuel : Nat) (y6 : List Int) (y7 : Int) (n8 : Int) : Option (Int × Int) :=
  chk (ok64 (y7 + 1)) <|
  (bif decide (((y6.length : Nat) : Int) < (y7 + 1)) then
  some (0, y7 + 1)
  else
  chk (ok64 ((y7 + 1) - 1)) <|
  getK y6 ((y7 + 1) - 1) fun x53 =>
  chk (ok64 x53) <|
  chk (dv x53 n8) <|
  some (x53.tmod n8, y7 + 1)
  )

/- foldhouse/foldhouselaw10.Made -/
def mg6_l2 (fuel : Nat) (r37 : Int × Int) (x3807 : Int) (y3814 : Int) (y3815 : Int) (y3816 : Int) (l3817 : List (List Int)) (o1 : Int → List Int → Int → Int → Int → Int → List (List Int) → Option Fleet) : Nat → Int → List Int → Int → List Int → Option Fleet
  | 0, _, _, _, _ => none
  | k_2 + 1, x3948, y3949, y3954, l3955 =>
    (bif decide (x3948 < ((((1 + r37.1) + 1).toNat : Nat) : Int)) then
    (bif decide (x3807 ≠ x3948) then
    bnd (mg7 fuel y3949 y3954 60) fun r3979 =>
    chk (ok64 (1 + r3979.1)) <|
    getK l3955 x3948 fun x3985 =>
    chk (ok64 (x3948 + 1)) <|
    mg6_l2 fuel r37 x3807 y3814 y3815 y3816 l3817 o1 k_2 (x3948 + 1) y3949 r3979.2 (l3955.set x3948.toNat (1 + r3979.1))
    else
    chk (ok64 (x3948 + 1)) <|
    mg6_l2 fuel r37 x3807 y3814 y3815 y3816 l3817 o1 k_2 (x3948 + 1) y3949 y3954 l3955
    )
    else
    chk (lim (l3817.length + 1)) <|
    chk (ok64 (x3807 + 1)) <|
    o1 (x3807 + 1) y3949 y3954 y3814 y3815 y3816 (l3817 ++ [l3955])
    )
def mg6_l1 (fuel : Nat) (r37 : Int × Int) (l3036 : List Stop) : Nat → Int → List Int → Int → Int → Int → Int → List (List Int) → Option Fleet
  | 0, _, _, _, _, _, _, _ => none
  | k_1 + 1, x3807, y3808, y3813, y3814, y3815, y3816, l3817 =>
    (bif decide (x3807 < ((1 + r37.1) + 1)) then
    chk (ok64 ((1 + r37.1) + 1)) <|
    chk (mk64 ((1 + r37.1) + 1) ((1 + r37.1) + 1)) <|
    mg6_l2 fuel r37 x3807 y3814 y3815 y3816 l3817 (mg6_l1 fuel r37 l3036 k_1) fuel 0 y3808 y3813 (List.replicate ((1 + r37.1) + 1).toNat 0 : List Int)
    else
    some (⟨l3036, l3817, y3814, y3815, y3816⟩ : Fleet)
    )
def mg6_l0 (fuel : Nat) (r37 : Int × Int) : Nat → Int → List Int → Int → Int → Int → Int → List Stop → Option Fleet
  | 0, _, _, _, _, _, _, _ => none
  | k_0 + 1, x3026, y3027, y3032, y3033, y3034, y3035, l3036 =>
    (bif decide (x3026 < (1 + r37.1)) then
    bnd (mg7 fuel y3027 y3032 80) fun r3055 =>
    bnd (mg7 fuel y3027 r3055.2 100) fun r3060 =>
    bnd (mg7 fuel y3027 r3060.2 150) fun r3065 =>
    bnd (mg7 fuel y3027 r3065.2 12) fun r3070 =>
    bnd (mg7 fuel y3027 r3070.2 150) fun r3099 =>
    chk (ok64 (3 * r3099.1)) <|
    chk (ok64 (r3065.1 + (3 * r3099.1))) <|
    chk (lim (l3036.length + 1)) <|
    chk (ok64 (x3026 + 1)) <|
    mg6_l0 fuel r37 k_0 (x3026 + 1) y3027 r3099.2 y3033 y3034 y3035 (l3036 ++ [(⟨r3055.1, r3060.1, r3065.1, r3065.1 + (3 * r3099.1), r3070.1⟩ : Stop)])
    else
    chk (ok64 ((1 + r37.1) + 1)) <|
    mg6_l1 fuel r37 l3036 fuel 0 y3027 y3032 y3033 y3034 y3035 ([] : List (List Int))
    )
def mg6 (fuel : Nat) (l5 : List Int) (most6 : Int) : Option Fleet :=
  bnd (mg7 fuel l5 0 200) fun r13 =>
  chk (ok64 (60 + r13.1)) <|
  bnd (mg7 fuel l5 r13.2 60) fun r19 =>
  bnd (mg7 fuel l5 r19.2 248) fun r24 =>
  chk (ok64 (5 * r24.1)) <|
  chk (ok64 (200 + (5 * r24.1))) <|
  bnd (mg7 fuel l5 r24.2 most6) fun r37 =>
  chk (ok64 (1 + r37.1)) <|
  mg6_l0 fuel r37 fuel 0 l5 r37.2 (60 + r13.1) r19.1 (200 + (5 * r24.1)) ([] : List Stop)

/- slices.Reverse(()int,int) -/
def mg83_l0 (fuel : Nat)  : Nat → Int → Int → List Int → Option (List Int)
  | 0, _, _, _ => none
  | k_0 + 1, i214, j215, l216 =>
    (bif decide (i214 < j215) then
    getK l216 j215 fun x230 =>
    getK l216 i214 fun x238 =>
    getK l216 i214 fun x247 =>
    getK (l216.set i214.toNat x230) j215 fun x259 =>
    chk (ok64 (i214 + 1)) <|
    chk (ok64 (j215 - 1)) <|
    mg83_l0 fuel  k_0 (i214 + 1) (j215 - 1) ((l216.set i214.toNat x230).set j215.toNat x238)
    else
    some l216
    )
def mg83 (fuel : Nat) (s6 : List Int) : Option (List Int) :=
  chk (ok64 (((s6.length : Nat) : Int) - 1)) <|
  mg83_l0 fuel  fuel 0 (((s6.length : Nat) : Int) - 1) s6

/- foldhouse/foldhouselaw10.divided -/
def mg9_l0 (fuel : Nat) (n1 : Int) : Nat → Int → List Int → Int → List (List Int) → Option (List (List Int))
  | 0, _, _, _, _ => none
  | k_0 + 1, x2300, y2301, y2306, l2307 =>
    (bif decide (x2300 < n1) then
    chk (ok64 (((l2307.length : Nat) : Int) + 1)) <|
    bnd (mg7 fuel y2301 y2306 (((l2307.length : Nat) : Int) + 1)) fun r2325 =>
    (bif decide (r2325.1 = ((l2307.length : Nat) : Int)) then
    chk (lim (l2307.length + 1)) <|
    getK (l2307 ++ [([] : List Int)]) r2325.1 fun x2412 =>
    getK (l2307 ++ [([] : List Int)]) r2325.1 fun x2422 =>
    chk (ok64 (((x2422.length : Nat) : Int) + 1)) <|
    bnd (mg7 fuel y2301 r2325.2 (((x2422.length : Nat) : Int) + 1)) fun r2435 =>
    chk (upto r2435.1 x2412.length) <|
    chk (lim (x2412.length + 1)) <|
    getK (l2307 ++ [([] : List Int)]) r2325.1 fun x2459 =>
    chk (ok64 (x2300 + 1)) <|
    mg9_l0 fuel n1 k_0 (x2300 + 1) y2301 r2435.2 ((l2307 ++ [([] : List Int)]).set r2325.1.toNat (insAt x2412 r2435.1.toNat x2300))
    else
    getK l2307 r2325.1 fun x2950 =>
    getK l2307 r2325.1 fun x2960 =>
    chk (ok64 (((x2960.length : Nat) : Int) + 1)) <|
    bnd (mg7 fuel y2301 r2325.2 (((x2960.length : Nat) : Int) + 1)) fun r2972 =>
    chk (upto r2972.1 x2950.length) <|
    chk (lim (x2950.length + 1)) <|
    getK l2307 r2325.1 fun x2996 =>
    chk (ok64 (x2300 + 1)) <|
    mg9_l0 fuel n1 k_0 (x2300 + 1) y2301 r2972.2 (l2307.set r2325.1.toNat (insAt x2950 r2972.1.toNat x2300))
    )
    else
    some l2307
    )
def mg9 (fuel : Nat) (n1 : Int) (l6 : List Int) : Option (List (List Int)) :=
  mg9_l0 fuel n1 fuel 0 l6 0 ([] : List (List Int))

/- slices.IndexFunc(()int,int) -/
def mg57_l0 (fuel : Nat) (s5 : List Int) (q6 : Int → Option Bool) : Nat → Int → Option Int
  | 0, _ => none
  | k_0 + 1, x28 =>
    (bif decide (x28 < ((s5.length : Nat) : Int)) then
    getK s5 x28 fun x38 =>
    bnd (q6 x38) fun r47 =>
    (bif r47 then
    some x28
    else
    chk (ok64 (x28 + 1)) <|
    mg57_l0 fuel s5 q6 k_0 (x28 + 1)
    )
    else
    some (-1)
    )
def mg57 (fuel : Nat) (s5 : List Int) (q6 : Int → Option Bool) : Option Int :=
  mg57_l0 fuel s5 q6 fuel 0

/- slices.ContainsFunc(()int,int) -/
def mg31 (fuel : Nat) (s5 : List Int) (q6 : Int → Option Bool) : Option Bool :=
  bnd (mg57 fuel s5 q6) fun r11 =>
  some (decide (0 ≤ r11))

/- foldhouse/van.within -/
def mg33 (fuel : Nat) (n1 : Int) (first2 : Int) (last3 : Int) : Option Bool :=
  (bif decide (first2 ≤ n1) then
  some (decide (n1 ≤ last3))
  else
  some false
  )

/- foldhouse/van.time$1 -/
def mg62 (fuel : Nat) (n1 : Int) : Option Bool :=
  bnd (mg33 fuel n1 0 1440) fun r2 =>
  some (!r2)

/- foldhouse/van.time -/
def mg38 (fuel : Nat) (l5 : List Int) : Option Bool :=
  bnd (mg31 fuel l5 (mg62 fuel)) fun r6 =>
  some (!r6)

/- slices.IndexFunc(()foldhouse/van.Stop,foldhouse/van.Stop) -/
def mg63_l0 (fuel : Nat) (s5 : List Stop) (q6 : Stop → Option Bool) : Nat → Int → Option Int
  | 0, _ => none
  | k_0 + 1, x28 =>
    (bif decide (x28 < ((s5.length : Nat) : Int)) then
    getK s5 x28 fun x38 =>
    bnd (q6 x38) fun r47 =>
    (bif r47 then
    some x28
    else
    chk (ok64 (x28 + 1)) <|
    mg63_l0 fuel s5 q6 k_0 (x28 + 1)
    )
    else
    some (-1)
    )
def mg63 (fuel : Nat) (s5 : List Stop) (q6 : Stop → Option Bool) : Option Int :=
  mg63_l0 fuel s5 q6 fuel 0

/- slices.ContainsFunc(()foldhouse/van.Stop,foldhouse/van.Stop) -/
def mg39 (fuel : Nat) (s5 : List Stop) (q6 : Stop → Option Bool) : Option Bool :=
  bnd (mg63 fuel s5 q6) fun r11 =>
  some (decide (0 ≤ r11))

/- foldhouse/van.Check$1 -/
def mg40 (fuel : Nat) (s3 : Stop) : Option Bool :=
  bnd (mg33 fuel s3.load 0 10000) fun r7 =>
  (bif !r7 then
  some true
  else
  bnd (mg38 fuel [s3.ready, s3.opn, s3.close]) fun r25 =>
  (bif !r25 then
  some true
  else
  bnd (mg33 fuel s3.serve 0 120) fun r33 =>
  (bif !r33 then
  some true
  else
  some (decide (s3.close < s3.opn))
  )
  )
  )

/- foldhouse/van.Check$2 -/
def mg41 (fuel : Nat) (n1 : Int) : Option Bool :=
  bnd (mg33 fuel n1 0 600) fun r2 =>
  some (!r2)

/- foldhouse/van.Check -/
def mg18_l0 (fuel : Nat) (f3 : Fleet) : Nat → Int → Option Int
  | 0, _ => none
  | k_0 + 1, x97 =>
    (bif decide (x97 < ((f3.minutes.length : Nat) : Int)) then
    getK f3.minutes x97 fun x107 =>
    (bif decide (((x107.length : Nat) : Int) ≠ ((f3.minutes.length : Nat) : Int)) then
    some 1
    else
    getK x107 x97 fun x122 =>
    (bif decide (x122 ≠ 0) then
    some 1
    else
    bnd (mg31 fuel x107 (mg41 fuel)) fun r133 =>
    (bif r133 then
    some 1
    else
    chk (ok64 (x97 + 1)) <|
    mg18_l0 fuel f3 k_0 (x97 + 1)
    )
    )
    )
    else
    some 0
    )
def mg18 (fuel : Nat) (f3 : Fleet) : Option Int :=
  bnd (mg33 fuel ((f3.stops.length : Nat) : Int) 1 8) fun r16 =>
  (bif !r16 then
  some 2
  else
  bnd (mg33 fuel f3.cap 0 100000) fun r23 =>
  (bif !r23 then
  some 6
  else
  bnd (mg38 fuel [f3.start, f3.back]) fun r41 =>
  (bif !r41 then
  some 6
  else
  bnd (mg39 fuel f3.stops (mg40 fuel)) fun r49 =>
  (bif r49 then
  some 6
  else
  chk (ok64 (((f3.stops.length : Nat) : Int) + 1)) <|
  (bif decide (((f3.minutes.length : Nat) : Int) ≠ (((f3.stops.length : Nat) : Int) + 1)) then
  some 1
  else
  mg18_l0 fuel f3 fuel 0
  )
  )
  )
  )
  )

/- cmp.isNaN(int) -/
def mg88 (fuel : Nat) (x1 : Int) : Option Bool :=
  some (decide (x1 ≠ x1))

/- cmp.Less(int) -/
def mg96 (fuel : Nat) (x1 : Int) (y2 : Int) : Option Bool :=
  bnd (mg88 fuel x1) fun r3 =>
  (bif r3 then
  bnd (mg88 fuel y2) fun r9 =>
  (bif !r9 then
  some true
  else
  some (decide (x1 < y2))
  )
  else
  some (decide (x1 < y2))
  )

/- slices.Values(()int,int) -/

/- (foldhouse/van.Fleet).load -/
def mg50_l0 (fuel : Nat) (f3 : Fleet) (stops17 : List Int) : Nat → Int → Int → Option Int
  | 0, _, _ => none
  | k_0 + 1, n45, x46 =>
    (bif decide (x46 < ((stops17.length : Nat) : Int)) then
    getK stops17 x46 fun x57 =>
    getK f3.stops x57 fun x66 =>
    chk (ok64 (n45 + x66.load)) <|
    chk (ok64 (x46 + 1)) <|
    mg50_l0 fuel f3 stops17 k_0 (n45 + x66.load) (x46 + 1)
    else
    some n45
    )
def mg50 (fuel : Nat) (f3 : Fleet) (stops17 : List Int) : Option Int :=
  mg50_l0 fuel f3 stops17 fuel 0 0

/- slices.Values(()int,int)$1 -/
def mg69_l0 {σ : Type} (fuel : Nat) (y : σ → Int → Option σ) (y7 : (List Int)) : Nat → σ → Int → Option σ
  | 0, _, _ => none
  | k_0 + 1, s47, x50 =>
    (bif decide (x50 < ((y7.length : Nat) : Int)) then
    getK y7 x50 fun x60 =>
    bnd (y s47 x60) fun s69 =>
    chk (ok64 (x50 + 1)) <|
    mg69_l0 fuel y y7 k_0 s69 (x50 + 1)
    else
    some s47
    )
def mg69 {σ : Type} (fuel : Nat) (y : σ → Int → Option σ) (s0 : σ) (y7 : (List Int)) : Option σ :=
  mg69_l0 fuel y y7 fuel s0 0

/- slices.AppendSeq(()int,int) -/
def mg84_r11 (fuel : Nat)  (l79 : List Int) (x93 : Int) : Option (List Int) :=
  chk (lim (l79.length + 1)) <|
  some (l79 ++ [x93])
def mg84 (fuel : Nat) (y7 : (List Int)) : Option (List Int) :=
  bnd (mg69 fuel (fun s x11_0 => mg84_r11 fuel  s x11_0) ([] : List Int) y7) fun r90 =>
  some r90

/- slices.Collect(int) -/
def mg67 (fuel : Nat) (y7 : (List Int)) : Option (List Int) :=
  bnd (mg84 fuel y7) fun r8 =>
  some r8

/- slices.Sorted(int) -/
def mg47 (fuel : Nat) (y7 : (List Int)) : Option (List Int) :=
  bnd (mg67 fuel y7) fun r8 =>
  bnd (mg68 fuel r8) fun r19 =>
  some r19

/- foldhouse/van.ask -/
def mg22 (fuel : Nat) (f3 : Fleet) (stops17 : List Int) : Option Int :=
  bnd (mg18 fuel f3) fun r21 =>
  (bif decide (r21 ≠ 0) then
  some r21
  else
  bnd (mg47 fuel stops17) fun r31 =>
  (bif decide (((stops17.length : Nat) : Int) = 0) then
  some 1
  else
  getK r31 0 fun x112 =>
  (bif decide (x112 < 0) then
  some 1
  else
  chk (ok64 (((r31.length : Nat) : Int) - 1)) <|
  getK r31 (((r31.length : Nat) : Int) - 1) fun x124 =>
  (bif decide (((f3.stops.length : Nat) : Int) ≤ x124) then
  some 1
  else
  bnd (mg49 fuel r31) fun r134 =>
  (bif decide (((r134.length : Nat) : Int) < ((stops17.length : Nat) : Int)) then
  some 1
  else
  bnd (mg50 fuel f3 stops17) fun r157 =>
  (bif decide (f3.cap < r157) then
  some 110
  else
  some 0
  )
  )
  )
  )
  )
  )

/- slices.Clone(()int,int) -/
def mg20 (fuel : Nat) (xs : List Int) : Option (List Int) :=
  chk (lim (0 + xs.length)) <|
  some (([] : List Int) ++ xs)

/- (foldhouse/van.Fleet).arrive -/
def mg51 (fuel : Nat) (f3 : Fleet) (from13 : Int) (at14 : Int) (stop15 : Int) : Option (Int × Int × Bool) :=
  getK f3.stops stop15 fun x19 =>
  getK f3.minutes from13 fun x33 =>
  chk (ok64 (stop15 + 1)) <|
  getK x33 (stop15 + 1) fun x47 =>
  chk (ok64 (at14 + x47)) <|
  chk (ok64 ((max (at14 + x47) x19.opn) + x19.serve)) <|
  some (at14 + x47, (max (at14 + x47) x19.opn) + x19.serve, decide ((at14 + x47) ≤ x19.close))

/- (foldhouse/van.Fleet).drive -/
def mg23_l0 (fuel : Nat) (f3 : Fleet) (stops17 : List Int) (leave18 : Int) (r25 : (List Int)) : Nat → Int → Int → Int → List Int → Option (Tour × (List Int) × Bool)
  | 0, _, _, _, _ => none
  | k_0 + 1, from306, at307, x308, l309 =>
    (bif decide (x308 < ((stops17.length : Nat) : Int)) then
    getK stops17 x308 fun x330 =>
    bnd (mg51 fuel f3 from306 at307 x330) fun r339 =>
    (bif !r339.2.2 then
    some ((⟨([] : List Int), 0, 0⟩ : Tour), ([] : List Int), false)
    else
    chk (lim (l309.length + 1)) <|
    chk (ok64 (x330 + 1)) <|
    chk (ok64 (x308 + 1)) <|
    mg23_l0 fuel f3 stops17 leave18 r25 k_0 (x330 + 1) r339.2.1 (x308 + 1) (l309 ++ [r339.1])
    )
    else
    getK f3.minutes from306 fun x371 =>
    getK x371 0 fun x384 =>
    chk (ok64 (at307 + x384)) <|
    some ((⟨r25, leave18, at307 + x384⟩ : Tour), l309, decide ((at307 + x384) ≤ f3.back))
    )
def mg23 (fuel : Nat) (f3 : Fleet) (stops17 : List Int) (leave18 : Int) : Option (Tour × (List Int) × Bool) :=
  bnd (mg20 fuel stops17) fun r25 =>
  mg23_l0 fuel f3 stops17 leave18 r25 fuel 0 leave18 0 ([] : List Int)

/- (foldhouse/van.Fleet).leave -/
def mg24_l0 (fuel : Nat) (f3 : Fleet) (stops17 : List Int) : Nat → Int → Int → Option Int
  | 0, _, _ => none
  | k_0 + 1, at44, x45 =>
    (bif decide (x45 < ((stops17.length : Nat) : Int)) then
    getK stops17 x45 fun x56 =>
    getK f3.stops x56 fun x65 =>
    chk (ok64 (x45 + 1)) <|
    mg24_l0 fuel f3 stops17 k_0 (max at44 x65.ready) (x45 + 1)
    else
    some at44
    )
def mg24 (fuel : Nat) (f3 : Fleet) (stops17 : List Int) : Option Int :=
  mg24_l0 fuel f3 stops17 fuel f3.start 0

/- foldhouse/van.Drive -/
def mg10 (fuel : Nat) (f3 : Fleet) (stops17 : List Int) : Option (Tour × (List Int) × Int) :=
  bnd (mg22 fuel f3 stops17) fun r24 =>
  (bif decide (r24 ≠ 0) then
  some ((⟨([] : List Int), 0, 0⟩ : Tour), ([] : List Int), r24)
  else
  bnd (mg24 fuel f3 stops17) fun r42 =>
  bnd (mg23 fuel f3 stops17 r42) fun r48 =>
  (bif !r48.2.2 then
  some ((⟨([] : List Int), 0, 0⟩ : Tour), ([] : List Int), 12)
  else
  some ((⟨r48.1.stops, r48.1.leave, r48.1.fin⟩ : Tour), r48.2.1, 0)
  )
  )

/- foldhouse/van.parts -/

/- cmp.Compare(int) -/
def mg80 (fuel : Nat) (x1 : Int) (y2 : Int) : Option Int :=
  bnd (mg88 fuel x1) fun r3 =>
  bnd (mg88 fuel y2) fun r8 =>
  (bif r3 then
  (bif r8 then
  some 0
  else
  some (-1)
  )
  else
  (bif r8 then
  some 1
  else
  (bif decide (x1 < y2) then
  some (-1)
  else
  (bif decide (y2 < x1) then
  some 1
  else
  some 0
  )
  )
  )
  )

/- slices.Compare(()int,int) -/
def mg60_l0 (fuel : Nat) (s15 : List Int) (s210 : List Int) : Nat → Int → Option Int
  | 0, _ => none
  | k_0 + 1, x40 =>
    (bif decide (x40 < ((s15.length : Nat) : Int)) then
    getK s15 x40 fun x51 =>
    (bif decide (((s210.length : Nat) : Int) ≤ x40) then
    some 1
    else
    getK s210 x40 fun x61 =>
    bnd (mg80 fuel x51 x61) fun r70 =>
    (bif decide (r70 ≠ 0) then
    some r70
    else
    chk (ok64 (x40 + 1)) <|
    mg60_l0 fuel s15 s210 k_0 (x40 + 1)
    )
    )
    else
    (bif decide (((s15.length : Nat) : Int) < ((s210.length : Nat) : Int)) then
    some (-1)
    else
    some 0
    )
    )
def mg60 (fuel : Nat) (s15 : List Int) (s210 : List Int) : Option Int :=
  mg60_l0 fuel s15 s210 fuel 0

/- (foldhouse/van.plan).text -/
def mg61_l0 (fuel : Nat) (p3 : Plan) : Nat → Int → List Int → Option (List Int)
  | 0, _, _ => none
  | k_0 + 1, x173, l174 =>
    (bif decide (x173 < ((p3.tours.length : Nat) : Int)) then
    getK p3.tours x173 fun x190 =>
    chk (lim (l174.length + x190.stops.length)) <|
    chk (lim ((l174.length + x190.stops.length) + 1)) <|
    chk (ok64 (x173 + 1)) <|
    mg61_l0 fuel p3 k_0 (x173 + 1) ((l174 ++ x190.stops) ++ [(-1)])
    else
    some l174
    )
def mg61 (fuel : Nat) (p3 : Plan) : Option (List Int) :=
  mg61_l0 fuel p3 fuel 0 ([] : List Int)

/- (foldhouse/van.plan).less -/
def mg37 (fuel : Nat) (p3 : Plan) (q11 : Plan) : Option Bool :=
  (bif decide (((p3.tours.length : Nat) : Int) ≠ ((q11.tours.length : Nat) : Int)) then
  some (decide (((p3.tours.length : Nat) : Int) < ((q11.tours.length : Nat) : Int)))
  else
  (bif decide (p3.takes ≠ q11.takes) then
  some (decide (p3.takes < q11.takes))
  else
  bnd (mg61 fuel p3) fun r77 =>
  bnd (mg61 fuel q11) fun r89 =>
  bnd (mg60 fuel r77 r89) fun r115 =>
  some (decide (r115 < 0))
  )
  )

/- slices.Index(()int,int) -/
def mg89_l0 (fuel : Nat) (s5 : List Int) (v6 : Int) : Nat → Int → Option Int
  | 0, _ => none
  | k_0 + 1, x20 =>
    (bif decide (x20 < ((s5.length : Nat) : Int)) then
    getK s5 x20 fun x30 =>
    (bif decide (v6 = x30) then
    some x20
    else
    chk (ok64 (x20 + 1)) <|
    mg89_l0 fuel s5 v6 k_0 (x20 + 1)
    )
    else
    some (-1)
    )
def mg89 (fuel : Nat) (s5 : List Int) (v6 : Int) : Option Int :=
  mg89_l0 fuel s5 v6 fuel 0

/- slices.Contains(()int,int) -/
def mg82 (fuel : Nat) (s5 : List Int) (v6 : Int) : Option Bool :=
  bnd (mg89 fuel s5 v6) fun r7 =>
  some (decide (0 ≤ r7))

/- (foldhouse/van.Fleet).least$1 -/
def mg81_l0 (fuel : Nat) (self : Int → Int → (List Int) → (List Int) → (List Stop) → (List (List Int)) → Int → Int → Int → (Option (List Int)) → Int → Int → Int → Option ((List Int) × (Option (List Int)) × Int × Int)) (from1 : Int) (at2 : Int) (y16 : (List Int)) (y23 : (List Stop)) (y28 : (List (List Int))) (y29 : Int) (y30 : Int) (y31 : Int) (y42 : Int) : Nat → Int → Option (List Int) → Int → Int → List Int → Option ((List Int) × (Option (List Int)) × Int × Int)
  | 0, _, _, _, _, _ => none
  | k_0 + 1, x451, y452, y457, y458, l459 =>
    (bif decide (x451 < ((y16.length : Nat) : Int)) then
    getK y16 x451 fun x479 =>
    bnd (mg82 fuel l459 x479) fun r494 =>
    (bif r494 then
    chk (ok64 (x451 + 1)) <|
    mg81_l0 fuel self from1 at2 y16 y23 y28 y29 y30 y31 y42 k_0 (x451 + 1) y452 y457 y458 l459
    else
    bnd (mg51 fuel (⟨y23, y28, y29, y30, y31⟩ : Fleet) from1 at2 x479) fun r506 =>
    (bif r506.2.2 then
    chk (lim (l459.length + 1)) <|
    chk (ok64 (x479 + 1)) <|
    bnd (self (x479 + 1) r506.2.1 (l459 ++ [x479]) y16 y23 y28 y29 y30 y31 y452 y457 y458 y42) fun r533 =>
    chk (ok64 (((r533.1.length : Nat) : Int) - 1)) <|
    chk (upto (((r533.1.length : Nat) : Int) - 1) r533.1.length) <|
    chk (ok64 (x451 + 1)) <|
    mg81_l0 fuel self from1 at2 y16 y23 y28 y29 y30 y31 y42 k_0 (x451 + 1) r533.2.1 r533.2.2.1 r533.2.2.2 (r533.1.take (((r533.1.length : Nat) : Int) - 1).toNat)
    else
    chk (ok64 (x451 + 1)) <|
    mg81_l0 fuel self from1 at2 y16 y23 y28 y29 y30 y31 y42 k_0 (x451 + 1) y452 y457 y458 l459
    )
    )
    else
    some (l459, y452, y457, y458)
    )
def mg81 : Nat → Int → Int → (List Int) → (List Int) → (List Stop) → (List (List Int)) → Int → Int → Int → (Option (List Int)) → Int → Int → Int → Option ((List Int) × (Option (List Int)) × Int × Int)
  | 0, _, _, _, _, _, _, _, _, _, _, _, _, _ => none
  | fuel + 1, from1, at2, y8, y16, y23, y28, y29, y30, y31, o37, y38, y39, y42 =>
    (bif decide (((y8.length : Nat) : Int) = ((y16.length : Nat) : Int)) then
    getK y28 from1 fun x45 =>
    getK x45 0 fun x58 =>
    chk (ok64 (at2 + x58)) <|
    (bif decide ((at2 + x58) ≤ y31) then
    (bif o37.isNone then
    bnd (mg20 fuel y8) fun r78 =>
    chk (nonempty (r78 : List Int)) <|
    some (y8, (some (r78 : List Int)), y42, at2 + x58)
    else
    (bif decide ((at2 + x58) < y39) then
    bnd (mg20 fuel y8) fun r181 =>
    chk (nonempty (r181 : List Int)) <|
    some (y8, (some (r181 : List Int)), y42, at2 + x58)
    else
    some (y8, o37, y38, y39)
    )
    )
    else
    some (y8, o37, y38, y39)
    )
    else
    mg81_l0 fuel (mg81 fuel) from1 at2 y16 y23 y28 y29 y30 y31 y42 fuel 0 o37 y38 y39 y8
    )

/- (foldhouse/van.Fleet).least -/
def mg64 (fuel : Nat) (f3 : Fleet) (stops17 : List Int) : Option (Tour × Bool) :=
  bnd (mg50 fuel f3 stops17) fun r37 =>
  (bif decide (f3.cap < r37) then
  some ((⟨[], 0, 0⟩ : Tour), false)
  else
  bnd (mg24 fuel f3 stops17) fun r50 =>
  bnd (mg81 fuel 0 r50 ([] : List Int) stops17 f3.stops f3.minutes f3.cap f3.start f3.back none 0 0 r50) fun r75 =>
  some ((⟨(r75.2.1.getD []), r75.2.2.1, r75.2.2.2⟩ : Tour), r75.2.1.isSome)
  )

/- foldhouse/van.members -/
def mg65_l0 (fuel : Nat) (set1 : Int) : Nat → Int → List Int → Option (List Int)
  | 0, _, _ => none
  | k_0 + 1, i84, l85 =>
    chk (decide (0 ≤ i84)) <|
    (bif decide (0 < (ishr set1 i84)) then
    chk (decide (0 ≤ i84)) <|
    (bif decide ((iand (ishr set1 i84) 1) = 1) then
    chk (lim (l85.length + 1)) <|
    chk (ok64 (i84 + 1)) <|
    mg65_l0 fuel set1 k_0 (i84 + 1) (l85 ++ [i84])
    else
    chk (ok64 (i84 + 1)) <|
    mg65_l0 fuel set1 k_0 (i84 + 1) l85
    )
    else
    some l85
    )
def mg65 (fuel : Nat) (set1 : Int) : Option (List Int) :=
  mg65_l0 fuel set1 fuel 0 ([] : List Int)

/- (foldhouse/van.Fleet).tours -/
def mg42_l0 (fuel : Nat) (f3 : Fleet) : Nat → Int → List Tour → Option (List Tour)
  | 0, _, _ => none
  | k_0 + 1, x250, l251 =>
    (bif decide (x250 < (((ishl 1 ((f3.stops.length : Nat) : Int)).toNat : Nat) : Int)) then
    (bif decide (0 < x250) then
    bnd (mg65 fuel x250) fun r322 =>
    bnd (mg64 fuel f3 r322) fun r341 =>
    getK l251 x250 fun x354 =>
    chk (ok64 (x250 + 1)) <|
    mg42_l0 fuel f3 k_0 (x250 + 1) (l251.set x250.toNat (⟨r341.1.stops, r341.1.leave, r341.1.fin⟩ : Tour))
    else
    chk (ok64 (x250 + 1)) <|
    mg42_l0 fuel f3 k_0 (x250 + 1) l251
    )
    else
    some l251
    )
def mg42 (fuel : Nat) (f3 : Fleet) : Option (List Tour) :=
  chk (decide (0 ≤ ((f3.stops.length : Nat) : Int))) <|
  chk (mk64 (ishl 1 ((f3.stops.length : Nat) : Int)) (ishl 1 ((f3.stops.length : Nat) : Int))) <|
  mg42_l0 fuel f3 fuel 0 (List.replicate (ishl 1 ((f3.stops.length : Nat) : Int)).toNat (⟨[], 0, 0⟩ : Tour) : List Tour)

/- (foldhouse/van.table(foldhouse/van.Tour)).of -/
def mg43 (fuel : Nat) (t5 : List Tour) (set6 : Int) : Option Tour :=
  getK t5 set6 fun x10 =>
  some x10

/- (foldhouse/van.table(foldhouse/van.plan)).of -/
def mg44 (fuel : Nat) (t5 : List Plan) (set6 : Int) : Option Plan :=
  getK t5 set6 fun x10 =>
  some x10

/- foldhouse/van.parts$1 -/
def mg59_l0 {σ : Type} (fuel : Nat) (y : σ → Int → Int → Option σ) (y3 : Int) : Nat → σ → Int → Option σ
  | 0, _, _ => none
  | k_0 + 1, s26, x29 =>
    bnd (y s26 (ior x29 (iand y3 (-y3))) (ixor (ixor y3 (iand y3 (-y3))) x29)) fun s38 =>
    (bif decide (x29 = 0) then
    some s38
    else
    chk (ok64 (x29 - 1)) <|
    mg59_l0 fuel y y3 k_0 s38 (iand (x29 - 1) (ixor y3 (iand y3 (-y3))))
    )
def mg59 {σ : Type} (fuel : Nat) (y : σ → Int → Int → Option σ) (s0 : σ) (y3 : Int) : Option σ :=
  chk (ok64 (-y3)) <|
  mg59_l0 fuel y y3 fuel s0 (ixor y3 (iand y3 (-y3)))

/- (foldhouse/van.table(foldhouse/van.Tour)).of -/
def mg43ro_0f (fuel : Nat) (t7 : List Tour) (set8 : Int) : Option Tour :=
  getK t7 set8 fun x12 =>
  some x12

/- (foldhouse/van.table(foldhouse/van.plan)).of -/
def mg44ro_0f (fuel : Nat) (t7 : List Plan) (set8 : Int) : Option Plan :=
  getK t7 set8 fun x12 =>
  some (⟨x12.ok, x12.tours, x12.takes⟩ : Plan)

/- (foldhouse/van.Fleet).plan -/
def mg19_r4598 (fuel : Nat) (r19 : (List Tour)) (y4576 : Int) (l6090 : List Plan) (x6104 : Int) (x6105 : Int) : Option (List Plan) :=
  bnd (mg43ro_0f fuel r19 x6104) fun r6111 =>
  bnd (mg44ro_0f fuel l6090 x6105) fun r6121 =>
  (bif decide (((r6111.stops.length : Nat) : Int) = 0) then
  some l6090
  else
  (bif !r6121.ok then
  some l6090
  else
  chk (ok64 (r6121.takes + r6111.fin)) <|
  chk (ok64 ((r6121.takes + r6111.fin) - r6111.leave)) <|
  chk (lim (1 + r6121.tours.length)) <|
  getK l6090 y4576 fun x6765 =>
  (bif !x6765.ok then
  getK l6090 y4576 fun x6781 =>
  some (l6090.set y4576.toNat (⟨true, ([(⟨r6111.stops, r6111.leave, r6111.fin⟩ : Tour)] ++ r6121.tours), (r6121.takes + r6111.fin) - r6111.leave⟩ : Plan))
  else
  getK l6090 y4576 fun x6811 =>
  bnd (mg37 fuel (⟨true, ([(⟨r6111.stops, r6111.leave, r6111.fin⟩ : Tour)] ++ r6121.tours), (r6121.takes + r6111.fin) - r6111.leave⟩ : Plan) (⟨x6811.ok, x6811.tours, x6811.takes⟩ : Plan)) fun r6833 =>
  (bif r6833 then
  getK l6090 y4576 fun x6850 =>
  some (l6090.set y4576.toNat (⟨true, ([(⟨r6111.stops, r6111.leave, r6111.fin⟩ : Tour)] ++ r6121.tours), (r6121.takes + r6111.fin) - r6111.leave⟩ : Plan))
  else
  some l6090
  )
  )
  )
  )
def mg19_l0 (fuel : Nat) (r19 : (List Tour)) : Nat → Int → List Plan → Option Plan
  | 0, _, _ => none
  | k_0 + 1, y4576, l4577 =>
    (bif decide (y4576 < ((l4577.length : Nat) : Int)) then
    bnd (mg59 fuel (fun s x4598_0 x4598_1 => mg19_r4598 fuel r19 y4576 s x4598_0 x4598_1) l4577 y4576) fun r6101 =>
    chk (ok64 (y4576 + 1)) <|
    mg19_l0 fuel r19 k_0 (y4576 + 1) r6101
    else
    chk (ok64 (((l4577.length : Nat) : Int) - 1)) <|
    getK l4577 (((l4577.length : Nat) : Int) - 1) fun x6927 =>
    some (⟨x6927.ok, x6927.tours, x6927.takes⟩ : Plan)
    )
def mg19 (fuel : Nat) (f3 : Fleet) : Option Plan :=
  bnd (mg42 fuel f3) fun r19 =>
  chk (mk64 ((r19.length : Nat) : Int) ((r19.length : Nat) : Int)) <|
  getK (List.replicate ((r19.length : Nat) : Int).toNat (⟨false, [], 0⟩ : Plan) : List Plan) 0 fun x48 =>
  mg19_l0 fuel r19 fuel 1 ((List.replicate ((r19.length : Nat) : Int).toNat (⟨false, [], 0⟩ : Plan) : List Plan).set (0 : Int).toNat (⟨true, x48.tours, x48.takes⟩ : Plan))

/- foldhouse/van.Plan -/
def mg8_l0 (fuel : Nat) (r26 : Plan) : Nat → Int → List Tour → Option ((List Tour) × Int × Int)
  | 0, _, _ => none
  | k_0 + 1, x626, l627 =>
    (bif decide (x626 < ((r26.tours.length : Nat) : Int)) then
    getK l627 x626 fun x698 =>
    bnd (mg20 fuel x698.stops) fun r712 =>
    getK l627 x626 fun x724 =>
    chk (ok64 (x626 + 1)) <|
    mg8_l0 fuel r26 k_0 (x626 + 1) (l627.set x626.toNat (⟨r712, x724.leave, x724.fin⟩ : Tour))
    else
    some (l627, r26.takes, 0)
    )
def mg8 (fuel : Nat) (f3 : Fleet) : Option ((List Tour) × Int × Int) :=
  bnd (mg18 fuel f3) fun r16 =>
  (bif decide (r16 ≠ 0) then
  some (([] : List Tour), 0, r16)
  else
  bnd (mg19 fuel f3) fun r26 =>
  (bif !r26.ok then
  some (([] : List Tour), 0, 4)
  else
  mg8_l0 fuel r26 fuel 0 r26.tours
  )
  )

/- foldhouse/foldhouselaw10.example -/
def mg25 (fuel : Nat)  : Option Fleet :=
  some (⟨[(⟨100, 70, 0, 1440, 2⟩ : Stop), (⟨100, 0, 0, 1440, 2⟩ : Stop)], [[0, 10, 20], [10, 0, 5], [20, 5, 0]], 200, 60, 1440⟩ : Fleet)

/- slices.IndexFunc(()foldhouse/van.Street,foldhouse/van.Street) -/
def mg87_l0 (fuel : Nat) (s5 : List Street) (q6 : Street → Option Bool) : Nat → Int → Option Int
  | 0, _ => none
  | k_0 + 1, x28 =>
    (bif decide (x28 < ((s5.length : Nat) : Int)) then
    getK s5 x28 fun x38 =>
    bnd (q6 x38) fun r47 =>
    (bif r47 then
    some x28
    else
    chk (ok64 (x28 + 1)) <|
    mg87_l0 fuel s5 q6 k_0 (x28 + 1)
    )
    else
    some (-1)
    )
def mg87 (fuel : Nat) (s5 : List Street) (q6 : Street → Option Bool) : Option Int :=
  mg87_l0 fuel s5 q6 fuel 0

/- slices.ContainsFunc(()foldhouse/van.Street,foldhouse/van.Street) -/
def mg70 (fuel : Nat) (s5 : List Street) (q6 : Street → Option Bool) : Option Bool :=
  bnd (mg87 fuel s5 q6) fun r11 =>
  some (decide (0 ≤ r11))

/- (foldhouse/van.Round).odd -/
def mg73_l1 (fuel : Nat) (r3 : Round) (p352 : List (Int × Int)) : Nat → Int → List Int → Option (List Int)
  | 0, _, _ => none
  | k_1 + 1, x491, l492 =>
    (bif decide (x491 < r3.corners) then
    chk (dv ((mget p352 x491).getD 0) 2) <|
    (bif decide ((((mget p352 x491).getD 0).tmod 2) = 1) then
    chk (lim (l492.length + 1)) <|
    chk (ok64 (x491 + 1)) <|
    mg73_l1 fuel r3 p352 k_1 (x491 + 1) (l492 ++ [x491])
    else
    chk (ok64 (x491 + 1)) <|
    mg73_l1 fuel r3 p352 k_1 (x491 + 1) l492
    )
    else
    some l492
    )
def mg73_l0 (fuel : Nat) (r3 : Round) : Nat → Int → List (Int × Int) → Option (List Int)
  | 0, _, _ => none
  | k_0 + 1, x351, p352 =>
    (bif decide (x351 < ((r3.streets.length : Nat) : Int)) then
    getK r3.streets x351 fun x366 =>
    chk (ok64 (((mget p352 x366.a).getD 0) + 1)) <|
    chk (ok64 (((mget (mset x366.a (((mget p352 x366.a).getD 0) + 1) p352) x366.b).getD 0) + 1)) <|
    chk (ok64 (x351 + 1)) <|
    mg73_l0 fuel r3 k_0 (x351 + 1) (mset x366.b (((mget (mset x366.a (((mget p352 x366.a).getD 0) + 1) p352) x366.b).getD 0) + 1) (mset x366.a (((mget p352 x366.a).getD 0) + 1) p352))
    else
    mg73_l1 fuel r3 p352 fuel 0 ([] : List Int)
    )
def mg73 (fuel : Nat) (r3 : Round) : Option (List Int) :=
  mg73_l0 fuel r3 fuel 0 ([] : List (Int × Int))

/- foldhouse/van.CheckRound$1 -/
def mg71 (fuel : Nat) (s3 : Street) (y6 : Int) (y11 : (List Street)) : Option Bool :=
  chk (ok64 (y6 - 1)) <|
  bnd (mg33 fuel s3.a 0 (y6 - 1)) fun r16 =>
  (bif !r16 then
  some true
  else
  chk (ok64 (y6 - 1)) <|
  bnd (mg33 fuel s3.b 0 (y6 - 1)) fun r24 =>
  (bif !r24 then
  some true
  else
  (bif decide (s3.a = s3.b) then
  some true
  else
  bnd (mg33 fuel s3.length 1 10000) fun r33 =>
  some (!r33)
  )
  )
  )

/- foldhouse/van.CheckRound$2 -/
def mg72 (fuel : Nat) (s3 : Street) (y6 : Int) : Option Bool :=
  chk (decide (0 ≤ s3.a)) <|
  some (decide ((iand (ishr y6 s3.a) 1) = 0))

/- foldhouse/van.CheckRound -/
def mg52_l1 (fuel : Nat) (r3 : Round) (x447 : Int) (o0 : Int → Int → Option Int) : Nat → Int → Int → Option Int
  | 0, _, _ => none
  | k_1 + 1, x567, y568 =>
    (bif decide (x567 < ((r3.streets.length : Nat) : Int)) then
    getK r3.streets x567 fun x581 =>
    chk (decide (0 ≤ x581.a)) <|
    (bif decide ((iand (ishr y568 x581.a) 1) = 1) then
    chk (decide (0 ≤ x581.a)) <|
    chk (decide (0 ≤ x581.b)) <|
    chk (ok64 (x567 + 1)) <|
    mg52_l1 fuel r3 x447 o0 k_1 (x567 + 1) (ior y568 (ior (ishl 1 x581.a) (ishl 1 x581.b)))
    else
    chk (decide (0 ≤ x581.b)) <|
    (bif decide ((iand (ishr y568 x581.b) 1) = 1) then
    chk (decide (0 ≤ x581.a)) <|
    chk (decide (0 ≤ x581.b)) <|
    chk (ok64 (x567 + 1)) <|
    mg52_l1 fuel r3 x447 o0 k_1 (x567 + 1) (ior y568 (ior (ishl 1 x581.a) (ishl 1 x581.b)))
    else
    chk (ok64 (x567 + 1)) <|
    mg52_l1 fuel r3 x447 o0 k_1 (x567 + 1) y568
    )
    )
    else
    chk (ok64 (x447 + 1)) <|
    o0 (x447 + 1) y568
    )
def mg52_l0 (fuel : Nat) (r3 : Round) : Nat → Int → Int → Option Int
  | 0, _, _ => none
  | k_0 + 1, x447, y448 =>
    (bif decide (x447 < r3.corners) then
    mg52_l1 fuel r3 x447 (mg52_l0 fuel r3 k_0) fuel 0 y448
    else
    bnd (mg70 fuel r3.streets (fun x0 => mg72 fuel x0 y448)) fun r636 =>
    (bif r636 then
    some 9
    else
    bnd (mg73 fuel r3) fun r643 =>
    (bif decide (10 < ((r643.length : Nat) : Int)) then
    some 8
    else
    some 0
    )
    )
    )
def mg52 (fuel : Nat) (r3 : Round) : Option Int :=
  bnd (mg33 fuel r3.corners 1 12) fun r12 =>
  (bif !r12 then
  some 2
  else
  (bif decide (40 < ((r3.streets.length : Nat) : Int)) then
  some 2
  else
  bnd (mg70 fuel r3.streets (fun x0 => mg71 fuel x0 r3.corners r3.streets)) fun r21 =>
  (bif r21 then
  some 110
  else
  (bif decide (0 < ((r3.streets.length : Nat) : Int)) then
  getK r3.streets 0 fun x29 =>
  chk (decide (0 ≤ x29.a)) <|
  mg52_l0 fuel r3 fuel 0 (ishl 1 x29.a)
  else
  bnd (mg73 fuel r3) fun r657 =>
  (bif decide (10 < ((r657.length : Nat) : Int)) then
  some 8
  else
  some 0
  )
  )
  )
  )
  )

/- (foldhouse/van.Round).begins$1 -/
def mg74 (fuel : Nat) (s3 : Street) (y6 : Int) : Option Bool :=
  (bif decide (s3.a = y6) then
  some true
  else
  some (decide (s3.b = y6))
  )

/- (foldhouse/van.Round).begins -/
def mg53 (fuel : Nat) (r3 : Round) (from9 : Int) : Option Bool :=
  chk (ok64 (r3.corners - 1)) <|
  bnd (mg33 fuel from9 0 (r3.corners - 1)) fun r17 =>
  (bif r17 then
  (bif decide (((r3.streets.length : Nat) : Int) = 0) then
  some true
  else
  bnd (mg70 fuel r3.streets (fun x0 => mg74 fuel x0 from9)) fun r25 =>
  some r25
  )
  else
  some false
  )

/- (foldhouse/van.Round).ways -/
def mg75_l2 (fuel : Nat) (x17393 : Int) (x17413 : Street) (o1 : Int → List WayR → Option (List WayR)) : Nat → Int → List WayR → Option (List WayR)
  | 0, _, _ => none
  | k_2 + 1, x18882, l18883 =>
    (bif decide (x18882 < 2) then
    getK [[x17413.a, x17413.b], [x17413.b, x17413.a]] x18882 fun x18906 =>
    getK x18906 0 fun y18910 =>
    getK x18906 1 fun y18914 =>
    getK l18883 y18910 fun x18966 =>
    getK l18883 y18914 fun x18979 =>
    (bif x18966.along.isSome then
    (bif x18979.along.isNone then
    bnd (mg20 fuel (x18966.along.getD [])) fun r19492 =>
    getK r19492 x17393 fun x19503 =>
    chk (ok64 (x19503 + 1)) <|
    getK r19492 x17393 fun x19512 =>
    chk (ok64 (x18966.length + x17413.length)) <|
    getK l18883 y18914 fun x19524 =>
    chk (nonempty ((r19492.set x17393.toNat (x19503 + 1)) : List Int)) <|
    chk (ok64 (x18882 + 1)) <|
    mg75_l2 fuel x17393 x17413 o1 k_2 (x18882 + 1) (l18883.set y18914.toNat (⟨x18966.length + x17413.length, (some ((r19492.set x17393.toNat (x19503 + 1)) : List Int))⟩ : WayR))
    else
    chk (ok64 (x18966.length + x17413.length)) <|
    (bif decide ((x18966.length + x17413.length) < x18979.length) then
    bnd (mg20 fuel (x18966.along.getD [])) fun r19558 =>
    getK r19558 x17393 fun x19569 =>
    chk (ok64 (x19569 + 1)) <|
    getK r19558 x17393 fun x19578 =>
    chk (ok64 (x18966.length + x17413.length)) <|
    getK l18883 y18914 fun x19590 =>
    chk (nonempty ((r19558.set x17393.toNat (x19569 + 1)) : List Int)) <|
    chk (ok64 (x18882 + 1)) <|
    mg75_l2 fuel x17393 x17413 o1 k_2 (x18882 + 1) (l18883.set y18914.toNat (⟨x18966.length + x17413.length, (some ((r19558.set x17393.toNat (x19569 + 1)) : List Int))⟩ : WayR))
    else
    chk (ok64 (x18882 + 1)) <|
    mg75_l2 fuel x17393 x17413 o1 k_2 (x18882 + 1) l18883
    )
    )
    else
    chk (ok64 (x18882 + 1)) <|
    mg75_l2 fuel x17393 x17413 o1 k_2 (x18882 + 1) l18883
    )
    else
    chk (ok64 (x17393 + 1)) <|
    o1 (x17393 + 1) l18883
    )
def mg75_l1 (fuel : Nat) (r3 : Round) (x12939 : Int) (o0 : Int → List WayR → Option (List WayR)) : Nat → Int → List WayR → Option (List WayR)
  | 0, _, _ => none
  | k_1 + 1, x17393, l17394 =>
    (bif decide (x17393 < ((r3.streets.length : Nat) : Int)) then
    getK r3.streets x17393 fun x17413 =>
    mg75_l2 fuel x17393 x17413 (mg75_l1 fuel r3 x12939 o0 k_1) fuel 0 l17394
    else
    chk (ok64 (x12939 + 1)) <|
    o0 (x12939 + 1) l17394
    )
def mg75_l0 (fuel : Nat) (r3 : Round) : Nat → Int → List WayR → Option (List WayR)
  | 0, _, _ => none
  | k_0 + 1, x12939, l12940 =>
    (bif decide (x12939 < r3.corners) then
    mg75_l1 fuel r3 x12939 (mg75_l0 fuel r3 k_0) fuel 0 l12940
    else
    some l12940
    )
def mg75 (fuel : Nat) (r3 : Round) (from9 : Int) : Option (List WayR) :=
  chk (mk64 r3.corners r3.corners) <|
  chk (mk64 ((r3.streets.length : Nat) : Int) ((r3.streets.length : Nat) : Int)) <|
  getK (List.replicate r3.corners.toNat (⟨0, none⟩ : WayR) : List WayR) from9 fun x25 =>
  chk (nonempty ((List.replicate ((r3.streets.length : Nat) : Int).toNat 0 : List Int) : List Int)) <|
  mg75_l0 fuel r3 fuel 0 ((List.replicate r3.corners.toNat (⟨0, none⟩ : WayR) : List WayR).set from9.toNat (⟨x25.length, (some ((List.replicate ((r3.streets.length : Nat) : Int).toNat 0 : List Int) : List Int))⟩ : WayR))

/- (foldhouse/van.table(int)).of -/
def mg76 (fuel : Nat) (t5 : List Int) (set6 : Int) : Option Int :=
  getK t5 set6 fun x7 =>
  some x7

/- (foldhouse/van.Round).twice -/
def mg54_l2 (fuel : Nat) (r12 : (List Int)) (l11079 : List (List WayR)) (set16460 : Int) (r16486 : (List Int)) (o1 : Int → List Int → List Int → Option ((List Int) × Int)) : Nat → Int → List Int → List Int → Option ((List Int) × Int)
  | 0, _, _, _ => none
  | k_2 + 1, x17315, l17316, l17323 =>
    (bif decide (x17315 < (((r16486.length - (1 : Int).toNat) : Nat) : Int)) then
    getK (r16486.drop (1 : Int).toNat) x17315 fun x17345 =>
    getK r16486 0 fun x17432 =>
    getK l11079 x17432 fun x17441 =>
    getK r12 x17345 fun x17453 =>
    getK r16486 0 fun x17461 =>
    chk (decide (0 ≤ x17461)) <|
    chk (decide (0 ≤ x17345)) <|
    getK x17441 x17453 fun x17472 =>
    bnd (mg76 fuel l17323 (ixor (ixor set16460 (ishl 1 x17461)) (ishl 1 x17345))) fun r17495 =>
    chk (ok64 (x17472.length + r17495)) <|
    getK l17323 set16460 fun x17698 =>
    (bif decide ((x17472.length + r17495) < x17698) then
    getK l17323 set16460 fun x17707 =>
    getK l17316 set16460 fun x17718 =>
    chk (ok64 (x17315 + 1)) <|
    mg54_l2 fuel r12 l11079 set16460 r16486 o1 k_2 (x17315 + 1) (l17316.set set16460.toNat x17345) (l17323.set set16460.toNat (x17472.length + r17495))
    else
    chk (ok64 (x17315 + 1)) <|
    mg54_l2 fuel r12 l11079 set16460 r16486 o1 k_2 (x17315 + 1) l17316 l17323
    )
    else
    chk (ok64 (set16460 + 1)) <|
    o1 (set16460 + 1) l17316 l17323
    )
def mg54_l4 (fuel : Nat) (set18640 : Int) (x18692 : Int) (x18712 : Int) (x18838 : WayR) (o3 : Int → List Int → Option ((List Int) × Int)) : Nat → Int → List Int → Option ((List Int) × Int)
  | 0, _, _ => none
  | k_4 + 1, x19000, l19001 =>
    (bif decide (x19000 < (((x18838.along.getD []).length : Nat) : Int)) then
    getK (x18838.along.getD []) x19000 fun x19024 =>
    getK l19001 x19000 fun x19033 =>
    chk (ok64 (x19033 + x19024)) <|
    chk (dv (x19033 + x19024) 2) <|
    getK l19001 x19000 fun x19043 =>
    chk (ok64 (x19000 + 1)) <|
    mg54_l4 fuel set18640 x18692 x18712 x18838 o3 k_4 (x19000 + 1) (l19001.set x19000.toNat ((x19033 + x19024).tmod 2))
    else
    chk (decide (0 ≤ x18712)) <|
    chk (decide (0 ≤ x18692)) <|
    o3 (ixor set18640 (ior (ishl 1 x18712) (ishl 1 x18692))) l19001
    )
def mg54_l3 (fuel : Nat) (r12 : (List Int)) (l11079 : List (List WayR)) (l16461 : List Int) (l16468 : List Int) : Nat → Int → List Int → Option ((List Int) × Int)
  | 0, _, _ => none
  | k_3 + 1, set18640, l18641 =>
    (bif decide (0 < set18640) then
    getK l16461 set18640 fun x18692 =>
    bnd (mg65 fuel set18640) fun r18700 =>
    getK r18700 0 fun x18712 =>
    getK l11079 x18712 fun x18816 =>
    getK r12 x18692 fun x18828 =>
    getK x18816 x18828 fun x18838 =>
    mg54_l4 fuel set18640 x18692 x18712 x18838 (mg54_l3 fuel r12 l11079 l16461 l16468 k_3) fuel 0 l18641
    else
    chk (ok64 (((l16468.length : Nat) : Int) - 1)) <|
    getK l16468 (((l16468.length : Nat) : Int) - 1) fun x19089 =>
    some (l18641, x19089)
    )
def mg54_l1 (fuel : Nat) (r3 : Round) (r12 : (List Int)) (l11079 : List (List WayR)) : Nat → Int → List Int → List Int → Option ((List Int) × Int)
  | 0, _, _, _ => none
  | k_1 + 1, set16460, l16461, l16468 =>
    (bif decide (set16460 < ((l16468.length : Nat) : Int)) then
    bnd (mg65 fuel set16460) fun r16486 =>
    getK l16468 set16460 fun x16497 =>
    chk (cutok 1 (r16486.length : Nat) r16486.length) <|
    mg54_l2 fuel r12 l11079 set16460 r16486 (mg54_l1 fuel r3 r12 l11079 k_1) fuel 0 l16461 (l16468.set set16460.toNat 1099511627776)
    else
    chk (mk64 ((r3.streets.length : Nat) : Int) ((r3.streets.length : Nat) : Int)) <|
    chk (ok64 (((l16468.length : Nat) : Int) - 1)) <|
    mg54_l3 fuel r12 l11079 l16461 l16468 fuel (((l16468.length : Nat) : Int) - 1) (List.replicate ((r3.streets.length : Nat) : Int).toNat 0 : List Int)
    )
def mg54_l0 (fuel : Nat) (r3 : Round) (r12 : (List Int)) : Nat → Int → List (List WayR) → Option ((List Int) × Int)
  | 0, _, _ => none
  | k_0 + 1, x11078, l11079 =>
    (bif decide (x11078 < ((r12.length : Nat) : Int)) then
    getK r12 x11078 fun x11097 =>
    bnd (mg75 fuel r3 x11097) fun r11105 =>
    chk (lim (l11079.length + 1)) <|
    chk (ok64 (x11078 + 1)) <|
    mg54_l0 fuel r3 r12 k_0 (x11078 + 1) (l11079 ++ [r11105])
    else
    chk (decide (0 ≤ ((r12.length : Nat) : Int))) <|
    chk (decide (0 ≤ ((r12.length : Nat) : Int))) <|
    chk (mk64 (ishl 1 ((r12.length : Nat) : Int)) (ishl 1 ((r12.length : Nat) : Int))) <|
    chk (mk64 (ishl 1 ((r12.length : Nat) : Int)) (ishl 1 ((r12.length : Nat) : Int))) <|
    mg54_l1 fuel r3 r12 l11079 fuel 1 (List.replicate (ishl 1 ((r12.length : Nat) : Int)).toNat 0 : List Int) (List.replicate (ishl 1 ((r12.length : Nat) : Int)).toNat 0 : List Int)
    )
def mg54 (fuel : Nat) (r3 : Round) : Option ((List Int) × Int) :=
  bnd (mg73 fuel r3) fun r12 =>
  mg54_l0 fuel r3 r12 fuel 0 ([] : List (List WayR))

/- slices.Reverse(()foldhouse/van.Step,foldhouse/van.Step) -/
def mg55_l0 (fuel : Nat)  : Nat → Int → Int → List Step → Option (List Step)
  | 0, _, _, _ => none
  | k_0 + 1, i214, j215, l216 =>
    (bif decide (i214 < j215) then
    getK l216 j215 fun x230 =>
    getK l216 i214 fun x238 =>
    getK l216 i214 fun x247 =>
    getK (l216.set i214.toNat x230) j215 fun x259 =>
    chk (ok64 (i214 + 1)) <|
    chk (ok64 (j215 - 1)) <|
    mg55_l0 fuel  k_0 (i214 + 1) (j215 - 1) ((l216.set i214.toNat x230).set j215.toNat x238)
    else
    some l216
    )
def mg55 (fuel : Nat) (s6 : List Step) : Option (List Step) :=
  chk (ok64 (((s6.length : Nat) : Int) - 1)) <|
  mg55_l0 fuel  fuel 0 (((s6.length : Nat) : Int) - 1) s6

/- foldhouse/van.Walk -/
def mg26_l2 (fuel : Nat) (r3 : Round) (l7430 : List Step) (l7437 : List Come) (l7444 : List Int) (l7451 : List Int) (x7470 : Int) (o1 : List Step → List Come → List Int → List Int → Option ((List Step) × Int × Int)) : Nat → Int → Option ((List Step) × Int × Int)
  | 0, _ => none
  | k_2 + 1, x7786 =>
    (bif decide (x7786 < ((r3.streets.length : Nat) : Int)) then
    getK r3.streets x7786 fun x7802 =>
    getK l7451 x7786 fun x7816 =>
    (bif decide (0 < x7816) then
    (bif decide (x7802.a = x7470) then
    getK l7451 x7786 fun x7826 =>
    chk (ok64 (x7826 - 1)) <|
    getK l7451 x7786 fun x7834 =>
    chk (ok64 (x7802.a + x7802.b)) <|
    chk (ok64 ((x7802.a + x7802.b) - x7470)) <|
    chk (lim (l7444.length + 1)) <|
    chk (lim (l7437.length + 1)) <|
    o1 l7430 (l7437 ++ [(⟨(⟨x7786, decide (x7802.b = x7470)⟩ : Step), true⟩ : Come)]) (l7444 ++ [(x7802.a + x7802.b) - x7470]) (l7451.set x7786.toNat (x7826 - 1))
    else
    (bif decide (x7802.b = x7470) then
    getK l7451 x7786 fun x7882 =>
    chk (ok64 (x7882 - 1)) <|
    getK l7451 x7786 fun x7890 =>
    chk (ok64 (x7802.a + x7802.b)) <|
    chk (ok64 ((x7802.a + x7802.b) - x7470)) <|
    chk (lim (l7444.length + 1)) <|
    chk (lim (l7437.length + 1)) <|
    o1 l7430 (l7437 ++ [(⟨(⟨x7786, decide (x7802.b = x7470)⟩ : Step), true⟩ : Come)]) (l7444 ++ [(x7802.a + x7802.b) - x7470]) (l7451.set x7786.toNat (x7882 - 1))
    else
    chk (ok64 (x7786 + 1)) <|
    mg26_l2 fuel r3 l7430 l7437 l7444 l7451 x7470 o1 k_2 (x7786 + 1)
    )
    )
    else
    chk (ok64 (x7786 + 1)) <|
    mg26_l2 fuel r3 l7430 l7437 l7444 l7451 x7470 o1 k_2 (x7786 + 1)
    )
    else
    chk (ok64 (((l7437.length : Nat) : Int) - 1)) <|
    getK l7437 (((l7437.length : Nat) : Int) - 1) fun x7942 =>
    (bif x7942.any then
    chk (lim (l7430.length + 1)) <|
    chk (ok64 (((l7444.length : Nat) : Int) - 1)) <|
    chk (ok64 (((l7437.length : Nat) : Int) - 1)) <|
    chk (upto (((l7444.length : Nat) : Int) - 1) l7444.length) <|
    chk (upto (((l7437.length : Nat) : Int) - 1) l7437.length) <|
    o1 (l7430 ++ [(⟨x7942.step.street, x7942.step.back⟩ : Step)]) (l7437.take (((l7437.length : Nat) : Int) - 1).toNat) (l7444.take (((l7444.length : Nat) : Int) - 1).toNat) l7451
    else
    chk (ok64 (((l7444.length : Nat) : Int) - 1)) <|
    chk (ok64 (((l7437.length : Nat) : Int) - 1)) <|
    chk (upto (((l7444.length : Nat) : Int) - 1) l7444.length) <|
    chk (upto (((l7437.length : Nat) : Int) - 1) l7437.length) <|
    o1 l7430 (l7437.take (((l7437.length : Nat) : Int) - 1).toNat) (l7444.take (((l7444.length : Nat) : Int) - 1).toNat) l7451
    )
    )
def mg26_l1 (fuel : Nat) (r3 : Round) (length5417 : Int) : Nat → List Step → List Come → List Int → List Int → Option ((List Step) × Int × Int)
  | 0, _, _, _, _ => none
  | k_1 + 1, l7430, l7437, l7444, l7451 =>
    (bif decide (0 < ((l7444.length : Nat) : Int)) then
    chk (ok64 (((l7444.length : Nat) : Int) - 1)) <|
    getK l7444 (((l7444.length : Nat) : Int) - 1) fun x7470 =>
    mg26_l2 fuel r3 l7430 l7437 l7444 l7451 x7470 (mg26_l1 fuel r3 length5417 k_1) fuel 0
    else
    bnd (mg55 fuel l7430) fun r8110 =>
    some (r8110, length5417, 0)
    )
def mg26_l0 (fuel : Nat) (r3 : Round) (from9 : Int) : Nat → Int → Int → List Int → Option ((List Step) × Int × Int)
  | 0, _, _, _ => none
  | k_0 + 1, length5417, x5418, l5419 =>
    (bif decide (x5418 < ((r3.streets.length : Nat) : Int)) then
    getK r3.streets x5418 fun x5438 =>
    getK l5419 x5418 fun x5452 =>
    chk (ok64 (x5452 + 1)) <|
    getK l5419 x5418 fun x5461 =>
    chk (ok64 (length5417 + x5438.length)) <|
    chk (ok64 (x5418 + 1)) <|
    mg26_l0 fuel r3 from9 k_0 (length5417 + x5438.length) (x5418 + 1) (l5419.set x5418.toNat (x5452 + 1))
    else
    mg26_l1 fuel r3 length5417 fuel ([] : List Step) [(⟨(⟨0, false⟩ : Step), false⟩ : Come)] [from9] l5419
    )
def mg26 (fuel : Nat) (r3 : Round) (from9 : Int) : Option ((List Step) × Int × Int) :=
  bnd (mg52 fuel r3) fun r13 =>
  (bif decide (r13 ≠ 0) then
  some (([] : List Step), 0, r13)
  else
  bnd (mg53 fuel r3 from9) fun r23 =>
  (bif !r23 then
  some (([] : List Step), 0, 1)
  else
  bnd (mg54 fuel r3) fun r33 =>
  mg26_l0 fuel r3 from9 fuel r33.2 0 r33.1
  )
  )

/- foldhouse/foldhouselaw10.block -/
def mg27 (fuel : Nat)  : Option Round :=
  some (⟨3, [(⟨0, 1, 5⟩ : Street), (⟨1, 2, 6⟩ : Street), (⟨2, 0, 7⟩ : Street), (⟨0, 1, 9⟩ : Street)]⟩ : Round)

/- slices.Index(()bool,bool) -/
def mg77_l0 (fuel : Nat) (s5 : List Bool) (v6 : Bool) : Nat → Int → Option Int
  | 0, _ => none
  | k_0 + 1, x20 =>
    (bif decide (x20 < ((s5.length : Nat) : Int)) then
    getK s5 x20 fun x30 =>
    (bif (v6 == x30) then
    some x20
    else
    chk (ok64 (x20 + 1)) <|
    mg77_l0 fuel s5 v6 k_0 (x20 + 1)
    )
    else
    some (-1)
    )
def mg77 (fuel : Nat) (s5 : List Bool) (v6 : Bool) : Option Int :=
  mg77_l0 fuel s5 v6 fuel 0

/- slices.Contains(()bool,bool) -/
def mg56 (fuel : Nat) (s5 : List Bool) (v6 : Bool) : Option Bool :=
  bnd (mg77 fuel s5 v6) fun r7 =>
  some (decide (0 ≤ r7))

/- foldhouse/van.Serves -/
def mg28_l0 (fuel : Nat) (r3 : Round) (from9 : Int) (walk14 : List Step) : Nat → Int → Int → Int → List Bool → Option (Int × Int)
  | 0, _, _, _, _ => none
  | k_0 + 1, at307, length308, x309, l310 =>
    (bif decide (x309 < ((walk14.length : Nat) : Int)) then
    getK walk14 x309 fun x330 =>
    chk (ok64 (((r3.streets.length : Nat) : Int) - 1)) <|
    bnd (mg33 fuel x330.street 0 (((r3.streets.length : Nat) : Int) - 1)) fun r345 =>
    (bif !r345 then
    some (0, 7)
    else
    getK r3.streets x330.street fun x352 =>
    (bif x330.back then
    (bif decide (x352.b ≠ at307) then
    some (0, 7)
    else
    chk (ok64 (length308 + x352.length)) <|
    getK l310 x330.street fun x392 =>
    chk (ok64 (x309 + 1)) <|
    mg28_l0 fuel r3 from9 walk14 k_0 x352.a (length308 + x352.length) (x309 + 1) (l310.set x330.street.toNat true)
    )
    else
    (bif decide (x352.a ≠ at307) then
    some (0, 7)
    else
    chk (ok64 (length308 + x352.length)) <|
    getK l310 x330.street fun x428 =>
    chk (ok64 (x309 + 1)) <|
    mg28_l0 fuel r3 from9 walk14 k_0 x352.b (length308 + x352.length) (x309 + 1) (l310.set x330.street.toNat true)
    )
    )
    )
    else
    (bif decide (at307 ≠ from9) then
    some (0, 7)
    else
    bnd (mg56 fuel l310 false) fun r451 =>
    (bif r451 then
    some (0, 7)
    else
    some (length308, 0)
    )
    )
    )
def mg28 (fuel : Nat) (r3 : Round) (from9 : Int) (walk14 : List Step) : Option (Int × Int) :=
  bnd (mg52 fuel r3) fun r18 =>
  (bif decide (r18 ≠ 0) then
  some (0, r18)
  else
  bnd (mg53 fuel r3 from9) fun r25 =>
  (bif !r25 then
  some (0, 1)
  else
  (bif decide (1000 < ((walk14.length : Nat) : Int)) then
  some (0, 2)
  else
  chk (mk64 ((r3.streets.length : Nat) : Int) ((r3.streets.length : Nat) : Int)) <|
  mg28_l0 fuel r3 from9 walk14 fuel from9 0 0 (List.replicate ((r3.streets.length : Nat) : Int).toNat false : List Bool)
  )
  )
  )

/- slices.Equal(()int,int) -/
def mg29_l0 (fuel : Nat) (s15 : List Int) (s210 : List Int) : Nat → Int → Option Bool
  | 0, _ => none
  | k_0 + 1, x56 =>
    (bif decide (x56 < ((s15.length : Nat) : Int)) then
    getK s15 x56 fun x88 =>
    getK s210 x56 fun x97 =>
    (bif decide (x88 ≠ x97) then
    some false
    else
    chk (ok64 (x56 + 1)) <|
    mg29_l0 fuel s15 s210 k_0 (x56 + 1)
    )
    else
    some true
    )
def mg29 (fuel : Nat) (s15 : List Int) (s210 : List Int) : Option Bool :=
  (bif decide (((s15.length : Nat) : Int) ≠ ((s210.length : Nat) : Int)) then
  some false
  else
  mg29_l0 fuel s15 s210 fuel 0
  )

/- foldhouse/foldhouselaw10.awake -/
def mg11 (fuel : Nat)  : Option Bool :=
  bnd (mg25 fuel ) fun r1 =>
  bnd (mg10 fuel (⟨r1.stops, r1.minutes, r1.cap, r1.start, r1.back⟩ : Fleet) [0, 1]) fun r49 =>
  bnd (mg25 fuel ) fun r76 =>
  bnd (mg8 fuel (⟨r76.stops, r76.minutes, r76.cap, r76.start, r76.back⟩ : Fleet)) fun r107 =>
  bnd (mg27 fuel ) fun r120 =>
  bnd (mg26 fuel (⟨r120.corners, r120.streets⟩ : Round) 2) fun r143 =>
  bnd (mg27 fuel ) fun r156 =>
  bnd (mg28 fuel (⟨r156.corners, r156.streets⟩ : Round) 2 r143.1) fun r195 =>
  (bif decide (r49.2.2 = 0) then
  (bif decide (r107.2.2 = 0) then
  (bif decide (r143.2.2 = 0) then
  (bif decide (r195.2 = 0) then
  (bif decide (r49.1.leave = 70) then
  (bif decide (r49.1.fin = 109) then
  bnd (mg29 fuel r49.2.1 [80, 87]) fun r243 =>
  (bif r243 then
  (bif decide (((r107.1.length : Nat) : Int) = 1) then
  (bif decide (r107.2.1 = 39) then
  (bif decide (r143.2.1 = 32) then
  some (decide (r195.1 = 32))
  else
  some false
  )
  else
  some false
  )
  else
  some false
  )
  else
  some false
  )
  else
  some false
  )
  else
  some false
  )
  else
  some false
  )
  else
  some false
  )
  else
  some false
  )
  else
  some false
  )

/- foldhouse/van.Slack -/
def mg12_l0 (fuel : Nat) (f3 : Fleet) (stops17 : List Int) (r21 : Tour × (List Int) × Int) : Nat → Int → Option (Int × Int)
  | 0, _ => none
  | k_0 + 1, n74 =>
    chk (ok64 (r21.1.leave + n74)) <|
    chk (ok64 ((r21.1.leave + n74) + 1)) <|
    bnd (mg23 fuel f3 stops17 ((r21.1.leave + n74) + 1)) fun r85 =>
    (bif !r85.2.2 then
    some (n74, 0)
    else
    chk (ok64 (n74 + 1)) <|
    mg12_l0 fuel f3 stops17 r21 k_0 (n74 + 1)
    )
def mg12 (fuel : Nat) (f3 : Fleet) (stops17 : List Int) : Option (Int × Int) :=
  bnd (mg10 fuel f3 stops17) fun r21 =>
  (bif decide (r21.2.2 ≠ 0) then
  some (0, r21.2.2)
  else
  mg12_l0 fuel f3 stops17 r21 fuel 0
  )

/- slices.Clone(()foldhouse/van.Stop,foldhouse/van.Stop) -/
def mg13 (fuel : Nat) (xs : List Stop) : Option (List Stop) :=
  chk (lim (0 + xs.length)) <|
  some (([] : List Stop) ++ xs)

/- foldhouse/foldhouselaw10.VanSlack -/
def mg4_l0 (fuel : Nat) (r11 : Fleet) (r35 : (List (List Int))) : Nat → Int → Option Bool
  | 0, _ => none
  | k_0 + 1, x453 =>
    (bif decide (x453 < ((r35.length : Nat) : Int)) then
    getK r35 x453 fun x463 =>
    bnd (mg10 fuel (⟨r11.stops, r11.minutes, r11.cap, r11.start, r11.back⟩ : Fleet) x463) fun r491 =>
    bnd (mg12 fuel (⟨r11.stops, r11.minutes, r11.cap, r11.start, r11.back⟩ : Fleet) x463) fun r537 =>
    (bif decide (r491.2.2 ≠ r537.2) then
    some false
    else
    (bif decide (r491.2.2 ≠ 0) then
    chk (ok64 (x453 + 1)) <|
    mg4_l0 fuel r11 r35 k_0 (x453 + 1)
    else
    (bif decide (r537.1 < 0) then
    some false
    else
    chk (ok64 (r491.1.leave + r537.1)) <|
    (bif decide (1440 < (r491.1.leave + r537.1)) then
    some false
    else
    bnd (mg13 fuel r11.stops) fun r573 =>
    getK x463 0 fun x641 =>
    chk (ok64 (r491.1.leave + r537.1)) <|
    getK r573 x641 fun x652 =>
    bnd (mg10 fuel (⟨(r573.set x641.toNat (⟨x652.load, r491.1.leave + r537.1, x652.opn, x652.close, x652.serve⟩ : Stop)), r11.minutes, r11.cap, r11.start, r11.back⟩ : Fleet) x463) fun r687 =>
    (bif decide (r687.2.2 ≠ 0) then
    some false
    else
    chk (ok64 (r491.1.leave + r537.1)) <|
    (bif decide (r687.1.leave ≠ (r491.1.leave + r537.1)) then
    some false
    else
    chk (ok64 (r491.1.leave + r537.1)) <|
    (bif decide ((r491.1.leave + r537.1) = 1440) then
    chk (ok64 (x453 + 1)) <|
    mg4_l0 fuel r11 r35 k_0 (x453 + 1)
    else
    getK x463 0 fun x786 =>
    getK (r573.set x641.toNat (⟨x652.load, r491.1.leave + r537.1, x652.opn, x652.close, x652.serve⟩ : Stop)) x786 fun x793 =>
    chk (ok64 (x793.ready + 1)) <|
    getK (r573.set x641.toNat (⟨x652.load, r491.1.leave + r537.1, x652.opn, x652.close, x652.serve⟩ : Stop)) x786 fun x802 =>
    bnd (mg10 fuel (⟨((r573.set x641.toNat (⟨x652.load, r491.1.leave + r537.1, x652.opn, x652.close, x652.serve⟩ : Stop)).set x786.toNat (⟨x802.load, x793.ready + 1, x802.opn, x802.close, x802.serve⟩ : Stop)), r11.minutes, r11.cap, r11.start, r11.back⟩ : Fleet) x463) fun r840 =>
    (bif decide (r840.2.2 ≠ 12) then
    some false
    else
    chk (ok64 (x453 + 1)) <|
    mg4_l0 fuel r11 r35 k_0 (x453 + 1)
    )
    )
    )
    )
    )
    )
    )
    )
    else
    bnd (mg11 fuel ) fun r873 =>
    some r873
    )
def mg4 (fuel : Nat) (l5 : List Int) (m10 : List Int) : Option Bool :=
  bnd (mg6 fuel l5 6) fun r11 =>
  bnd (mg9 fuel ((r11.stops.length : Nat) : Int) m10) fun r35 =>
  mg4_l0 fuel r11 r35 fuel 0

end Go.Proofs.Ytdhhimfcjoclfaa
