/- The exponential by its rounds and squares, in intervals; the half sum of powers is nearly 1 at least (numbers alone). -/
import Derived.Test.YtfbnehkbialkaaaGreatSine
namespace Go.Proofs.YtfbnehkbialkaaaGreat
set_option linter.unusedVariables false
set_option linter.unusedSimpArgs false

def rndE (t p k : Nat) : Nat := fadd .f64 4607182418800017408 (fdiv .f64 (fmul .f64 t p) k)
def hor12 (t : Nat) : Nat := rndE t (rndE t (rndE t (rndE t (rndE t (rndE t (rndE t (rndE t (rndE t (rndE t (rndE t (rndE t 4607182418800017408 (fofInt .f64 12)) (fofInt .f64 11)) (fofInt .f64 10)) (fofInt .f64 9)) (fofInt .f64 8)) (fofInt .f64 7)) (fofInt .f64 6)) (fofInt .f64 5)) (fofInt .f64 4)) (fofInt .f64 3)) (fofInt .f64 2)) (fofInt .f64 1)
def sqE (p : Nat) : Nat := fmul .f64 p p
def sq8 (p : Nat) : Nat := sqE (sqE (sqE (sqE (sqE (sqE (sqE (sqE p)))))))
def expoN (x : Nat) : Nat := sq8 (hor12 (fdiv .f64 x 4643211215818981376))

def rndEI (t p : Iv) (c : Rat) : Iv := addI .f64 (some (1, 1)) (divI .f64 (mulI .f64 t p) (some (c, c)))
def hor12I (t : Iv) : Iv := rndEI t (rndEI t (rndEI t (rndEI t (rndEI t (rndEI t (rndEI t (rndEI t (rndEI t (rndEI t (rndEI t (rndEI t (some (1, 1)) 12) 11) 10) 9) 8) 7) 6) 5) 4) 3) 2) 1
def sq8I (p : Iv) : Iv := sqI .f64 (sqI .f64 (sqI .f64 (sqI .f64 (sqI .f64 (sqI .f64 (sqI .f64 (sqI .f64 p)))))))
def expoI (i : Iv) : Iv := sq8I (hor12I (divI .f64 i (some (256, 256))))

theorem rndE_I {t p k : Nat} {i j : Iv} {c : Rat} (ht : I .f64 t i) (hp : I .f64 p j) (hk : I .f64 k (some (c, c))) : I .f64 (rndE t p k) (rndEI i j c) := I.add k_one (I.div (I.mul ht hp) hk)

theorem hor12_I {t : Nat} {i : Iv} (h : I .f64 t i) : I .f64 (hor12 t) (hor12I i) := by
  have c1 : I .f64 (fofInt .f64 1) (some (1, 1)) := I.at (by decide +kernel)
  have c2 : I .f64 (fofInt .f64 2) (some (2, 2)) := I.at (by decide +kernel)
  have c3 : I .f64 (fofInt .f64 3) (some (3, 3)) := I.at (by decide +kernel)
  have c4 : I .f64 (fofInt .f64 4) (some (4, 4)) := I.at (by decide +kernel)
  have c5 : I .f64 (fofInt .f64 5) (some (5, 5)) := I.at (by decide +kernel)
  have c6 : I .f64 (fofInt .f64 6) (some (6, 6)) := I.at (by decide +kernel)
  have c7 : I .f64 (fofInt .f64 7) (some (7, 7)) := I.at (by decide +kernel)
  have c8 : I .f64 (fofInt .f64 8) (some (8, 8)) := I.at (by decide +kernel)
  have c9 : I .f64 (fofInt .f64 9) (some (9, 9)) := I.at (by decide +kernel)
  have c10 : I .f64 (fofInt .f64 10) (some (10, 10)) := I.at (by decide +kernel)
  have c11 : I .f64 (fofInt .f64 11) (some (11, 11)) := I.at (by decide +kernel)
  have c12 : I .f64 (fofInt .f64 12) (some (12, 12)) := I.at (by decide +kernel)
  exact rndE_I h (rndE_I h (rndE_I h (rndE_I h (rndE_I h (rndE_I h (rndE_I h (rndE_I h (rndE_I h (rndE_I h (rndE_I h (rndE_I h k_one c12) c11) c10) c9) c8) c7) c6) c5) c4) c3) c2) c1

theorem sq8_I {p : Nat} {i : Iv} (h : I .f64 p i) : I .f64 (sq8 p) (sq8I i) := I.sq (I.sq (I.sq (I.sq (I.sq (I.sq (I.sq (I.sq h)))))))

theorem k_256 : I .f64 4643211215818981376 (some (256, 256)) := I.at (by decide +kernel)

theorem expo_I {x : Nat} {i : Iv} (h : I .f64 x i) : I .f64 (expoN x) (expoI i) := sq8_I (hor12_I (I.div h k_256))

/-- By the hundredths: a power, and the other one. -/
theorem hor_to {t : Nat} {i : Iv} (h : I .f64 t i) {a b : Rat} (hi : inI a b (hor12I i) = true) : I .f64 (hor12 t) (some (a, b)) := (hor12_I h).to hi

/-- All powers between -10 and 10. -/
theorem expo_all {x : Nat} (h : I .f64 x (some (-101 / 10, 101 / 10))) : I .f64 (expoN x) (some (-1 / 1000, 30000)) := by
  have t := (I.div h k_256).to (lo := -4 / 100) (hi := 4 / 100) (by decide +kernel)
  have p := (hor12_I t).to (lo := 9 / 10) (hi := 10409 / 10000) (by decide +kernel)
  have p0 := (I.sq p).to (lo := 809999 / 1000000) (hi := 1083473 / 1000000) (by decide +kernel)
  have p1 := (I.sq p0).to (lo := 328049 / 500000) (hi := 586957 / 500000) (by decide +kernel)
  have p2 := (I.sq p1).to (lo := 6726 / 15625) (hi := 55123 / 40000) (by decide +kernel)
  have p3 := (I.sq p2).to (lo := 185299 / 1000000) (hi := 1899091 / 1000000) (by decide +kernel)
  have p4 := (I.sq p3).to (lo := 6867 / 200000) (hi := 3606547 / 1000000) (by decide +kernel)
  have p5 := (I.sq p4).to (lo := 589 / 500000) (hi := 6503591 / 500000) (by decide +kernel)
  have p6 := (I.sq p5).to (lo := 1 / 1000000) (hi := 5287087 / 31250) (by decide +kernel)
  have p7 := (I.sq p6).to (lo := -1 / 1000) (hi := 30000) (by decide +kernel)
  exact p7

theorem expo_0 {x : Nat} (h : I .f64 x (some (-1, -9 / 10))) : I .f64 (expoN x) (some (3677651 / 10000000, 4066867 / 10000000)) := by
  have t := (I.div h k_256).to (lo := -4883 / 1250000) (hi := -7031 / 2000000) (by decide +kernel)
  have p := (hor12_I t).to (lo := 9961003 / 10000000) (hi := 1992983 / 2000000) (by decide +kernel)
  have p0 := (I.sq p).to (lo := 9922157 / 10000000) (hi := 1985991 / 2000000) (by decide +kernel)
  have p1 := (I.sq p0).to (lo := 4922459 / 5000000) (hi := 4930201 / 5000000) (by decide +kernel)
  have p2 := (I.sq p1).to (lo := 121153 / 125000) (hi := 4861377 / 5000000) (by decide +kernel)
  have p3 := (I.sq p2).to (lo := 187879 / 200000) (hi := 2363299 / 2500000) (by decide +kernel)
  have p4 := (I.sq p3).to (lo := 2206157 / 2500000) (hi := 8936293 / 10000000) (by decide +kernel)
  have p5 := (I.sq p4).to (lo := 1946851 / 2500000) (hi := 1597147 / 2000000) (by decide +kernel)
  have p6 := (I.sq p5).to (lo := 1212873 / 2000000) (hi := 3188599 / 5000000) (by decide +kernel)
  have p7 := (I.sq p6).to (lo := 3677651 / 10000000) (hi := 4066867 / 10000000) (by decide +kernel)
  exact p7

theorem expo_1 {x : Nat} (h : I .f64 x (some (-9 / 10, -4 / 5))) : I .f64 (expoN x) (some (4064469 / 10000000, 4494421 / 10000000)) := by
  have t := (I.div h k_256).to (lo := -17579 / 5000000) (hi := -31249 / 10000000) (by decide +kernel)
  have p := (hor12_I t).to (lo := 1992979 / 2000000) (hi := 9968807 / 10000000) (by decide +kernel)
  have p0 := (I.sq p).to (lo := 1241239 / 1250000) (hi := 9937713 / 10000000) (by decide +kernel)
  have p1 := (I.sq p0).to (lo := 4930157 / 5000000) (hi := 1975163 / 2000000) (by decide +kernel)
  have p2 := (I.sq p1).to (lo := 4861289 / 5000000) (hi := 4876587 / 5000000) (by decide +kernel)
  have p3 := (I.sq p2).to (lo := 9452851 / 10000000) (hi := 4756221 / 5000000) (by decide +kernel)
  have p4 := (I.sq p3).to (lo := 4467819 / 5000000) (hi := 9048657 / 10000000) (by decide +kernel)
  have p5 := (I.sq p4).to (lo := 7984561 / 10000000) (hi := 8187821 / 10000000) (by decide +kernel)
  have p6 := (I.sq p5).to (lo := 159383 / 250000) (hi := 6704043 / 10000000) (by decide +kernel)
  have p7 := (I.sq p6).to (lo := 4064469 / 10000000) (hi := 4494421 / 10000000) (by decide +kernel)
  exact p7

theorem expo_2 {x : Nat} (h : I .f64 x (some (-4 / 5, -7 / 10))) : I .f64 (expoN x) (some (4492111 / 10000000, 4967127 / 10000000)) := by
  have t := (I.div h k_256).to (lo := -31251 / 10000000) (hi := -13671 / 5000000) (by decide +kernel)
  have p := (hor12_I t).to (lo := 996879 / 1000000) (hi := 4986351 / 5000000) (by decide +kernel)
  have p0 := (I.sq p).to (lo := 2484419 / 2500000) (hi := 248637 / 250000) (by decide +kernel)
  have p1 := (I.sq p0).to (lo := 9875739 / 10000000) (hi := 9891259 / 10000000) (by decide +kernel)
  have p2 := (I.sq p1).to (lo := 9753021 / 10000000) (hi := 4891851 / 5000000) (by decide +kernel)
  have p3 := (I.sq p2).to (lo := 475607 / 500000) (hi := 2393021 / 2500000) (by decide +kernel)
  have p4 := (I.sq p3).to (lo := 9048079 / 10000000) (hi := 9162481 / 10000000) (by decide +kernel)
  have p5 := (I.sq p4).to (lo := 2046693 / 2500000) (hi := 8395107 / 10000000) (by decide +kernel)
  have p6 := (I.sq p5).to (lo := 3351161 / 5000000) (hi := 880973 / 1250000) (by decide +kernel)
  have p7 := (I.sq p6).to (lo := 4492111 / 10000000) (hi := 4967127 / 10000000) (by decide +kernel)
  exact p7

theorem expo_3 {x : Nat} (h : I .f64 x (some (-7 / 10, -3 / 5))) : I .f64 (expoN x) (some (992937 / 2000000, 109789 / 200000)) := by
  have t := (I.div h k_256).to (lo := -5469 / 2000000) (hi := -5859 / 2500000) (by decide +kernel)
  have p := (hor12_I t).to (lo := 4986343 / 5000000) (hi := 4988299 / 5000000) (by decide +kernel)
  have p0 := (I.sq p).to (lo := 1989089 / 2000000) (hi := 2488313 / 2500000) (by decide +kernel)
  have p1 := (I.sq p0).to (lo := 4945593 / 5000000) (hi := 2476681 / 2500000) (by decide +kernel)
  have p2 := (I.sq p1).to (lo := 1956711 / 2000000) (hi := 122679 / 125000) (by decide +kernel)
  have p3 := (I.sq p2).to (lo := 9571793 / 10000000) (hi := 9632089 / 10000000) (by decide +kernel)
  have p4 := (I.sq p3).to (lo := 9161921 / 10000000) (hi := 1855543 / 2000000) (by decide +kernel)
  have p5 := (I.sq p4).to (lo := 4197039 / 5000000) (hi := 8607601 / 10000000) (by decide +kernel)
  have p6 := (I.sq p5).to (lo := 7046053 / 10000000) (hi := 7409081 / 10000000) (by decide +kernel)
  have p7 := (I.sq p6).to (lo := 992937 / 2000000) (hi := 109789 / 200000) (by decide +kernel)
  exact p7

theorem expo_4 {x : Nat} (h : I .f64 x (some (-3 / 5, -1 / 2))) : I .f64 (expoN x) (some (171461 / 312500, 6066531 / 10000000)) := by
  have t := (I.div h k_256).to (lo := -23439 / 10000000) (hi := -1953 / 1000000) (by decide +kernel)
  have p := (hor12_I t).to (lo := 4988291 / 5000000) (hi := 4990247 / 5000000) (by decide +kernel)
  have p0 := (I.sq p).to (lo := 9953217 / 10000000) (hi := 2490257 / 2500000) (by decide +kernel)
  have p1 := (I.sq p0).to (lo := 9906651 / 10000000) (hi := 9922209 / 10000000) (by decide +kernel)
  have p2 := (I.sq p1).to (lo := 2453543 / 2500000) (hi := 393801 / 400000) (by decide +kernel)
  have p3 := (I.sq p2).to (lo := 2407949 / 2500000) (hi := 9692453 / 10000000) (by decide +kernel)
  have p4 := (I.sq p3).to (lo := 2319287 / 2500000) (hi := 4697183 / 5000000) (by decide +kernel)
  have p5 := (I.sq p4).to (lo := 4303273 / 5000000) (hi := 8825413 / 10000000) (by decide +kernel)
  have p6 := (I.sq p5).to (lo := 3703631 / 5000000) (hi := 7788793 / 10000000) (by decide +kernel)
  have p7 := (I.sq p6).to (lo := 171461 / 312500) (hi := 6066531 / 10000000) (by decide +kernel)
  exact p7

theorem expo_5 {x : Nat} (h : I .f64 x (some (-1 / 2, -2 / 5))) : I .f64 (expoN x) (some (3032033 / 5000000, 6704469 / 10000000)) := by
  have t := (I.div h k_256).to (lo := -19533 / 10000000) (hi := -1953 / 1250000) (by decide +kernel)
  have p := (hor12_I t).to (lo := 9980481 / 10000000) (hi := 9984393 / 10000000) (by decide +kernel)
  have p0 := (I.sq p).to (lo := 9960999 / 10000000) (hi := 2492203 / 2500000) (by decide +kernel)
  have p1 := (I.sq p0).to (lo := 9922149 / 10000000) (hi := 9937723 / 10000000) (by decide +kernel)
  have p2 := (I.sq p1).to (lo := 9844903 / 10000000) (hi := 1975167 / 2000000) (by decide +kernel)
  have p3 := (I.sq p2).to (lo := 969221 / 1000000) (hi := 9753213 / 10000000) (by decide +kernel)
  have p4 := (I.sq p3).to (lo := 2348473 / 2500000) (hi := 4756259 / 5000000) (by decide +kernel)
  have p5 := (I.sq p4).to (lo := 8824519 / 10000000) (hi := 9048801 / 10000000) (by decide +kernel)
  have p6 := (I.sq p5).to (lo := 1946803 / 2500000) (hi := 8188081 / 10000000) (by decide +kernel)
  have p7 := (I.sq p6).to (lo := 3032033 / 5000000) (hi := 6704469 / 10000000) (by decide +kernel)
  exact p7

theorem expo_6 {x : Nat} (h : I .f64 x (some (-2 / 5, -3 / 10))) : I .f64 (expoN x) (some (6702063 / 10000000, 3704779 / 5000000)) := by
  have t := (I.div h k_256).to (lo := -7813 / 5000000) (hi := -11717 / 10000000) (by decide +kernel)
  have p := (hor12_I t).to (lo := 4992191 / 5000000) (hi := 4994147 / 5000000) (by decide +kernel)
  have p0 := (I.sq p).to (lo := 9968787 / 10000000) (hi := 9976603 / 10000000) (by decide +kernel)
  have p1 := (I.sq p0).to (lo := 993767 / 1000000) (hi := 4976631 / 5000000) (by decide +kernel)
  have p2 := (I.sq p1).to (lo := 9875727 / 10000000) (hi := 1238343 / 1250000) (by decide +kernel)
  have p3 := (I.sq p2).to (lo := 9752997 / 10000000) (hi := 9814359 / 10000000) (by decide +kernel)
  have p4 := (I.sq p3).to (lo := 4756047 / 5000000) (hi := 4816083 / 5000000) (by decide +kernel)
  have p5 := (I.sq p4).to (lo := 1130999 / 1250000) (hi := 1159733 / 1250000) (by decide +kernel)
  have p6 := (I.sq p5).to (lo := 4093307 / 5000000) (hi := 4303939 / 5000000) (by decide +kernel)
  have p7 := (I.sq p6).to (lo := 6702063 / 10000000) (hi := 3704779 / 5000000) (by decide +kernel)
  exact p7

theorem expo_7 {x : Nat} (h : I .f64 x (some (-3 / 10, -1 / 5))) : I .f64 (expoN x) (some (11851 / 16000, 2047153 / 2500000)) := by
  have t := (I.div h k_256).to (lo := -293 / 250000) (hi := -7811 / 10000000) (by decide +kernel)
  have p := (hor12_I t).to (lo := 9988283 / 10000000) (hi := 1998439 / 2000000) (by decide +kernel)
  have p0 := (I.sq p).to (lo := 4988289 / 5000000) (hi := 4992199 / 5000000) (by decide +kernel)
  have p1 := (I.sq p0).to (lo := 9953209 / 10000000) (hi := 4984411 / 5000000) (by decide +kernel)
  have p2 := (I.sq p1).to (lo := 1981327 / 2000000) (hi := 9937743 / 10000000) (by decide +kernel)
  have p3 := (I.sq p2).to (lo := 490707 / 500000) (hi := 79007 / 80000) (by decide +kernel)
  have p4 := (I.sq p3).to (lo := 9631733 / 10000000) (hi := 2438323 / 2500000) (by decide +kernel)
  have p5 := (I.sq p4).to (lo := 9277027 / 10000000) (hi := 297271 / 312500) (by decide +kernel)
  have p6 := (I.sq p5).to (lo := 8606321 / 10000000) (hi := 4524547 / 5000000) (by decide +kernel)
  have p7 := (I.sq p6).to (lo := 11851 / 16000) (hi := 2047153 / 2500000) (by decide +kernel)
  exact p7

theorem expo_8 {x : Nat} (h : I .f64 x (some (-1 / 5, -1 / 10))) : I .f64 (expoN x) (some (8186081 / 10000000, 4524783 / 5000000)) := by
  have t := (I.div h k_256).to (lo := -3907 / 5000000) (hi := -781 / 2000000) (by decide +kernel)
  have p := (hor12_I t).to (lo := 4996093 / 5000000) (hi := 4998049 / 5000000) (by decide +kernel)
  have p0 := (I.sq p).to (lo := 9984377 / 10000000) (hi := 9992199 / 10000000) (by decide +kernel)
  have p1 := (I.sq p0).to (lo := 9968777 / 10000000) (hi := 4992203 / 5000000) (by decide +kernel)
  have p2 := (I.sq p1).to (lo := 198753 / 200000) (hi := 4984419 / 5000000) (by decide +kernel)
  have p3 := (I.sq p2).to (lo := 9875687 / 10000000) (hi := 397511 / 400000) (by decide +kernel)
  have p4 := (I.sq p3).to (lo := 4876459 / 5000000) (hi := 9875939 / 10000000) (by decide +kernel)
  have p5 := (I.sq p4).to (lo := 9511939 / 10000000) (hi := 9753419 / 10000000) (by decide +kernel)
  have p6 := (I.sq p5).to (lo := 9047697 / 10000000) (hi := 237823 / 250000) (by decide +kernel)
  have p7 := (I.sq p6).to (lo := 8186081 / 10000000) (hi := 4524783 / 5000000) (by decide +kernel)
  exact p7

theorem expo_9 {x : Nat} (h : I .f64 x (some (-1 / 10, 0))) : I .f64 (expoN x) (some (9047001 / 10000000, 5000639 / 5000000)) := by
  have t := (I.div h k_256).to (lo := -977 / 2500000) (hi := 1 / 10000000) (by decide +kernel)
  have p := (hor12_I t).to (lo := 999609 / 1000000) (hi := 10000003 / 10000000) (by decide +kernel)
  have p0 := (I.sq p).to (lo := 499609 / 500000) (hi := 1250001 / 1250000) (by decide +kernel)
  have p1 := (I.sq p0).to (lo := 1996873 / 2000000) (hi := 5000009 / 5000000) (by decide +kernel)
  have p2 := (I.sq p1).to (lo := 9968753 / 10000000) (hi := 5000019 / 5000000) (by decide +kernel)
  have p3 := (I.sq p2).to (lo := 4968801 / 5000000) (hi := 5000039 / 5000000) (by decide +kernel)
  have p4 := (I.sq p3).to (lo := 1234449 / 1250000) (hi := 5000079 / 5000000) (by decide +kernel)
  have p5 := (I.sq p4).to (lo := 975273 / 1000000) (hi := 5000159 / 5000000) (by decide +kernel)
  have p6 := (I.sq p5).to (lo := 9511573 / 10000000) (hi := 5000319 / 5000000) (by decide +kernel)
  have p7 := (I.sq p6).to (lo := 9047001 / 10000000) (hi := 5000639 / 5000000) (by decide +kernel)
  exact p7

theorem expo_10 {x : Nat} (h : I .f64 x (some (0, 1 / 10))) : I .f64 (expoN x) (some (9998977 / 10000000, 5526499 / 5000000)) := by
  have t := (I.div h k_256).to (lo := -1 / 10000000) (hi := 977 / 2500000) (by decide +kernel)
  have p := (hor12_I t).to (lo := 9999997 / 10000000) (hi := 1000391 / 1000000) (by decide +kernel)
  have p0 := (I.sq p).to (lo := 9999993 / 10000000) (hi := 10007823 / 10000000) (by decide +kernel)
  have p1 := (I.sq p0).to (lo := 1999997 / 2000000) (hi := 5007827 / 5000000) (by decide +kernel)
  have p2 := (I.sq p1).to (lo := 9999969 / 10000000) (hi := 5015667 / 5000000) (by decide +kernel)
  have p3 := (I.sq p2).to (lo := 9999937 / 10000000) (hi := 628923 / 625000) (by decide +kernel)
  have p4 := (I.sq p3).to (lo := 9999873 / 10000000) (hi := 10125931 / 10000000) (by decide +kernel)
  have p5 := (I.sq p4).to (lo := 1999949 / 2000000) (hi := 10253449 / 10000000) (by decide +kernel)
  have p6 := (I.sq p5).to (lo := 9999489 / 10000000) (hi := 10513323 / 10000000) (by decide +kernel)
  have p7 := (I.sq p6).to (lo := 9998977 / 10000000) (hi := 5526499 / 5000000) (by decide +kernel)
  exact p7

theorem expo_11 {x : Nat} (h : I .f64 x (some (1 / 10, 1 / 5))) : I .f64 (expoN x) (some (11050461 / 10000000, 12215649 / 10000000)) := by
  have t := (I.div h k_256).to (lo := 781 / 2000000) (hi := 3907 / 5000000) (by decide +kernel)
  have p := (hor12_I t).to (lo := 156311 / 156250) (hi := 10007819 / 10000000) (by decide +kernel)
  have p0 := (I.sq p).to (lo := 78186 / 78125) (hi := 5007823 / 5000000) (by decide +kernel)
  have p1 := (I.sq p0).to (lo := 10015621 / 10000000) (hi := 5015659 / 5000000) (by decide +kernel)
  have p2 := (I.sq p1).to (lo := 2006253 / 2000000) (hi := 628921 / 625000) (by decide +kernel)
  have p3 := (I.sq p2).to (lo := 5031313 / 5000000) (hi := 10125867 / 10000000) (by decide +kernel)
  have p4 := (I.sq p3).to (lo := 10125643 / 10000000) (hi := 256333 / 250000) (by decide +kernel)
  have p5 := (I.sq p4).to (lo := 10252863 / 10000000) (hi := 10513059 / 10000000) (by decide +kernel)
  have p6 := (I.sq p5).to (lo := 5256059 / 5000000) (hi := 5526221 / 5000000) (by decide +kernel)
  have p7 := (I.sq p6).to (lo := 11050461 / 10000000) (hi := 12215649 / 10000000) (by decide +kernel)
  exact p7

theorem expo_12 {x : Nat} (h : I .f64 x (some (1 / 5, 3 / 10))) : I .f64 (expoN x) (some (6106407 / 5000000, 3374973 / 2500000)) := by
  have t := (I.div h k_256).to (lo := 7811 / 10000000) (hi := 293 / 250000) (by decide +kernel)
  have p := (hor12_I t).to (lo := 10007813 / 10000000) (hi := 625733 / 625000) (by decide +kernel)
  have p0 := (I.sq p).to (lo := 10015631 / 10000000) (hi := 10023471 / 10000000) (by decide +kernel)
  have p1 := (I.sq p0).to (lo := 2006257 / 2000000) (hi := 10046999 / 10000000) (by decide +kernel)
  have p2 := (I.sq p1).to (lo := 5031333 / 5000000) (hi := 504711 / 500000) (by decide +kernel)
  have p3 := (I.sq p2).to (lo := 10125723 / 10000000) (hi := 10189329 / 10000000) (by decide +kernel)
  have p4 := (I.sq p3).to (lo := 410121 / 400000) (hi := 2595561 / 2500000) (by decide +kernel)
  have p5 := (I.sq p4).to (lo := 10512451 / 10000000) (hi := 10779101 / 10000000) (by decide +kernel)
  have p6 := (I.sq p5).to (lo := 11051161 / 10000000) (hi := 11618903 / 10000000) (by decide +kernel)
  have p7 := (I.sq p6).to (lo := 6106407 / 5000000) (hi := 3374973 / 2500000) (by decide +kernel)
  exact p7

theorem expo_13 {x : Nat} (h : I .f64 x (some (3 / 10, 2 / 5))) : I .f64 (expoN x) (some (13496827 / 10000000, 932497 / 625000)) := by
  have t := (I.div h k_256).to (lo := 11717 / 10000000) (hi := 7813 / 5000000) (by decide +kernel)
  have p := (hor12_I t).to (lo := 5005861 / 5000000) (hi := 250391 / 250000) (by decide +kernel)
  have p0 := (I.sq p).to (lo := 313233 / 312500) (hi := 5015653 / 5000000) (by decide +kernel)
  have p1 := (I.sq p0).to (lo := 5023483 / 5000000) (hi := 1257839 / 1250000) (by decide +kernel)
  have p2 := (I.sq p1).to (lo := 10094151 / 10000000) (hi := 10125819 / 10000000) (by decide +kernel)
  have p3 := (I.sq p2).to (lo := 10189187 / 10000000) (hi := 10253223 / 10000000) (by decide +kernel)
  have p4 := (I.sq p3).to (lo := 81109 / 78125) (hi := 525643 / 500000) (by decide +kernel)
  have p5 := (I.sq p4).to (lo := 10778491 / 10000000) (hi := 1381503 / 1250000) (by decide +kernel)
  have p6 := (I.sq p5).to (lo := 2323517 / 2000000) (hi := 488589 / 400000) (by decide +kernel)
  have p7 := (I.sq p6).to (lo := 13496827 / 10000000) (hi := 932497 / 625000) (by decide +kernel)
  exact p7

theorem expo_14 {x : Nat} (h : I .f64 x (some (2 / 5, 1 / 2))) : I .f64 (expoN x) (some (14916793 / 10000000, 16489461 / 10000000)) := by
  have t := (I.div h k_256).to (lo := 1953 / 1250000) (hi := 19533 / 10000000) (by decide +kernel)
  have p := (hor12_I t).to (lo := 2003127 / 2000000) (hi := 5009777 / 5000000) (by decide +kernel)
  have p0 := (I.sq p).to (lo := 10031293 / 10000000) (hi := 2509787 / 2500000) (by decide +kernel)
  have p1 := (I.sq p0).to (lo := 5031341 / 5000000) (hi := 10078451 / 10000000) (by decide +kernel)
  have p2 := (I.sq p1).to (lo := 2025151 / 2000000) (hi := 10157519 / 10000000) (by decide +kernel)
  have p3 := (I.sq p2).to (lo := 1025309 / 1000000) (hi := 10317521 / 10000000) (by decide +kernel)
  have p4 := (I.sq p3).to (lo := 1314073 / 1250000) (hi := 85161 / 80000) (by decide +kernel)
  have p5 := (I.sq p4).to (lo := 11051441 / 10000000) (hi := 1133187 / 1000000) (by decide +kernel)
  have p6 := (I.sq p5).to (lo := 12213433 / 10000000) (hi := 12841129 / 10000000) (by decide +kernel)
  have p7 := (I.sq p6).to (lo := 14916793 / 10000000) (hi := 16489461 / 10000000) (by decide +kernel)
  exact p7

theorem expo_15 {x : Nat} (h : I .f64 x (some (1 / 2, 3 / 5))) : I .f64 (expoN x) (some (16485691 / 10000000, 1822333 / 1000000)) := by
  have t := (I.div h k_256).to (lo := 1953 / 1000000) (hi := 23439 / 10000000) (by decide +kernel)
  have p := (hor12_I t).to (lo := 2504887 / 2500000) (hi := 2505867 / 2500000) (by decide +kernel)
  have p0 := (I.sq p).to (lo := 10039133 / 10000000) (hi := 10046993 / 10000000) (by decide +kernel)
  have p1 := (I.sq p0).to (lo := 5039209 / 5000000) (hi := 78861 / 78125) (by decide +kernel)
  have p2 := (I.sq p1).to (lo := 10157449 / 10000000) (hi := 2037861 / 2000000) (by decide +kernel)
  have p3 := (I.sq p2).to (lo := 161209 / 156250) (hi := 2076439 / 2000000) (by decide +kernel)
  have p4 := (I.sq p3).to (lo := 10644823 / 10000000) (hi := 10778999 / 10000000) (by decide +kernel)
  have p5 := (I.sq p4).to (lo := 1416403 / 1250000) (hi := 11618683 / 10000000) (by decide +kernel)
  have p6 := (I.sq p5).to (lo := 6419831 / 5000000) (hi := 13499381 / 10000000) (by decide +kernel)
  have p7 := (I.sq p6).to (lo := 16485691 / 10000000) (hi := 1822333 / 1000000) (by decide +kernel)
  exact p7

theorem expo_16 {x : Nat} (h : I .f64 x (some (3 / 5, 7 / 10))) : I .f64 (expoN x) (some (18219167 / 10000000, 10069777 / 5000000)) := by
  have t := (I.div h k_256).to (lo := 5859 / 2500000) (hi := 5469 / 2000000) (by decide +kernel)
  have p := (hor12_I t).to (lo := 5011731 / 5000000) (hi := 1253423 / 1250000) (by decide +kernel)
  have p0 := (I.sq p).to (lo := 5023489 / 5000000) (hi := 2513711 / 2500000) (by decide +kernel)
  have p1 := (I.sq p0).to (lo := 403767 / 400000) (hi := 1010999 / 1000000) (by decide +kernel)
  have p2 := (I.sq p1).to (lo := 2037847 / 2000000) (hi := 10221191 / 10000000) (by decide +kernel)
  have p3 := (I.sq p2).to (lo := 10382049 / 10000000) (hi := 2611819 / 2500000) (by decide +kernel)
  have p4 := (I.sq p3).to (lo := 10778693 / 10000000) (hi := 10914559 / 10000000) (by decide +kernel)
  have p5 := (I.sq p4).to (lo := 11618021 / 10000000) (hi := 11912761 / 10000000) (by decide +kernel)
  have p6 := (I.sq p5).to (lo := 168723 / 125000) (hi := 14191389 / 10000000) (by decide +kernel)
  have p7 := (I.sq p6).to (lo := 18219167 / 10000000) (hi := 10069777 / 5000000) (by decide +kernel)
  exact p7

theorem expo_17 {x : Nat} (h : I .f64 x (some (7 / 10, 4 / 5))) : I .f64 (expoN x) (some (10067519 / 5000000, 22257341 / 10000000)) := by
  have t := (I.div h k_256).to (lo := 13671 / 5000000) (hi := 31251 / 10000000) (by decide +kernel)
  have p := (hor12_I t).to (lo := 5013689 / 5000000) (hi := 10031301 / 10000000) (by decide +kernel)
  have p0 := (I.sq p).to (lo := 10054829 / 10000000) (hi := 10062701 / 10000000) (by decide +kernel)
  have p1 := (I.sq p0).to (lo := 10109957 / 10000000) (hi := 10125797 / 10000000) (by decide +kernel)
  have p2 := (I.sq p1).to (lo := 5110561 / 5000000) (hi := 5126589 / 5000000) (by decide +kernel)
  have p3 := (I.sq p2).to (lo := 2611783 / 2500000) (hi := 10512767 / 10000000) (by decide +kernel)
  have p4 := (I.sq p3).to (lo := 2182851 / 2000000) (hi := 2762957 / 2500000) (by decide +kernel)
  have p5 := (I.sq p4).to (lo := 2382419 / 2000000) (hi := 3053573 / 2500000) (by decide +kernel)
  have p6 := (I.sq p5).to (lo := 14189799 / 10000000) (hi := 7459447 / 5000000) (by decide +kernel)
  have p7 := (I.sq p6).to (lo := 10067519 / 5000000) (hi := 22257341 / 10000000) (by decide +kernel)
  exact p7

theorem expo_18 {x : Nat} (h : I .f64 x (some (4 / 5, 9 / 10))) : I .f64 (expoN x) (some (5563183 / 2500000, 491977 / 200000)) := by
  have t := (I.div h k_256).to (lo := 31249 / 10000000) (hi := 17579 / 5000000) (by decide +kernel)
  have p := (hor12_I t).to (lo := 156739 / 156250) (hi := 10035221 / 10000000) (by decide +kernel)
  have p0 := (I.sq p).to (lo := 314459 / 312500) (hi := 1258821 / 1250000) (by decide +kernel)
  have p1 := (I.sq p0).to (lo := 10125767 / 10000000) (hi := 2028327 / 2000000) (by decide +kernel)
  have p2 := (I.sq p1).to (lo := 5126557 / 5000000) (hi := 5142639 / 5000000) (by decide +kernel)
  have p3 := (I.sq p2).to (lo := 10512633 / 10000000) (hi := 1322337 / 1250000) (by decide +kernel)
  have p4 := (I.sq p3).to (lo := 1381443 / 1250000) (hi := 5595441 / 5000000) (by decide +kernel)
  have p5 := (I.sq p4).to (lo := 12213661 / 10000000) (hi := 2504717 / 2000000) (by decide +kernel)
  have p6 := (I.sq p5).to (lo := 298347 / 200000) (hi := 784201 / 500000) (by decide +kernel)
  have p7 := (I.sq p6).to (lo := 5563183 / 2500000) (hi := 491977 / 200000) (by decide +kernel)
  exact p7

theorem expo_19 {x : Nat} (h : I .f64 x (some (9 / 10, 1))) : I .f64 (expoN x) (some (12296649 / 5000000, 6796527 / 2500000)) := by
  have t := (I.div h k_256).to (lo := 7031 / 2000000) (hi := 4883 / 1250000) (by decide +kernel)
  have p := (hor12_I t).to (lo := 2007043 / 2000000) (hi := 5019571 / 5000000) (by decide +kernel)
  have p0 := (I.sq p).to (lo := 10070553 / 10000000) (hi := 10078439 / 10000000) (by decide +kernel)
  have p1 := (I.sq p0).to (lo := 5070801 / 5000000) (hi := 2031499 / 2000000) (by decide +kernel)
  have p2 := (I.sq p1).to (lo := 1285651 / 1250000) (hi := 322421 / 312500) (by decide +kernel)
  have p3 := (I.sq p2).to (lo := 10578549 / 10000000) (hi := 332657 / 312500) (by decide +kernel)
  have p4 := (I.sq p3).to (lo := 1398821 / 1250000) (hi := 2266331 / 2000000) (by decide +kernel)
  have p5 := (I.sq p4).to (lo := 19567 / 15625) (hi := 6420321 / 5000000) (by decide +kernel)
  have p6 := (I.sq p5).to (lo := 15682251 / 10000000) (hi := 1648821 / 1000000) (by decide +kernel)
  have p7 := (I.sq p6).to (lo := 12296649 / 5000000) (hi := 6796527 / 2500000) (by decide +kernel)
  exact p7

theorem expo_up {x : Nat} (h : I .f64 x (some (1, 101 / 10))) : I .f64 (expoN x) (some (3397501 / 1250000, 4881370607 / 200000)) := by
  have t := (I.div h k_256).to (lo := 39061 / 10000000) (hi := 3946 / 100000) (by decide +kernel)
  have p := (hor12_I t).to (lo := 313723 / 312500) (hi := 4161 / 4000) (by decide +kernel)
  have p0 := (I.sq p).to (lo := 1259803 / 1250000) (hi := 1082123 / 1000000) (by decide +kernel)
  have p1 := (I.sq p0).to (lo := 5078731 / 5000000) (hi := 1170993 / 1000000) (by decide +kernel)
  have p2 := (I.sq p1).to (lo := 5158701 / 5000000) (hi := 1371227 / 1000000) (by decide +kernel)
  have p3 := (I.sq p2).to (lo := 10644877 / 10000000) (hi := 940133 / 500000) (by decide +kernel)
  have p4 := (I.sq p3).to (lo := 11331339 / 10000000) (hi := 3535403 / 1000000) (by decide +kernel)
  have p5 := (I.sq p4).to (lo := 12839923 / 10000000) (hi := 12499077 / 1000000) (by decide +kernel)
  have p6 := (I.sq p5).to (lo := 16486361 / 10000000) (hi := 9764183 / 62500) (by decide +kernel)
  have p7 := (I.sq p6).to (lo := 3397501 / 1250000) (hi := 4881370607 / 200000) (by decide +kernel)
  exact p7

/-! ## Half sums and half differences -/

def pA : List Rat := [-1, -9 / 10, -4 / 5, -7 / 10, -3 / 5, -1 / 2, -2 / 5, -3 / 10, -1 / 5, -1 / 10, 0, 1 / 10, 1 / 5, 3 / 10, 2 / 5, 1 / 2, 3 / 5, 7 / 10, 4 / 5, 9 / 10, 1]
def pL : List Rat := [3677651 / 10000000, 4064469 / 10000000, 4492111 / 10000000, 992937 / 2000000, 171461 / 312500, 3032033 / 5000000, 6702063 / 10000000, 11851 / 16000, 8186081 / 10000000, 9047001 / 10000000, 9998977 / 10000000, 11050461 / 10000000, 6106407 / 5000000, 13496827 / 10000000, 14916793 / 10000000, 16485691 / 10000000, 18219167 / 10000000, 10067519 / 5000000, 5563183 / 2500000, 12296649 / 5000000]
theorem expo_piece (i : Fin 20) {x : Nat} (h1 : isNum .f64 x = true) (h2 : pA.getD i.val 0 ≤ R .f64 x) (h3 : R .f64 x ≤ pA.getD (i.val + 1) 0) : isNum .f64 (expoN x) = true ∧ pL.getD i.val 0 ≤ R .f64 (expoN x) := by
  match i, h2, h3 with
  | ⟨0, _⟩, h2, h3 => exact ⟨(expo_0 ⟨h1, h2, h3⟩).1, (expo_0 ⟨h1, h2, h3⟩).2.1⟩
  | ⟨1, _⟩, h2, h3 => exact ⟨(expo_1 ⟨h1, h2, h3⟩).1, (expo_1 ⟨h1, h2, h3⟩).2.1⟩
  | ⟨2, _⟩, h2, h3 => exact ⟨(expo_2 ⟨h1, h2, h3⟩).1, (expo_2 ⟨h1, h2, h3⟩).2.1⟩
  | ⟨3, _⟩, h2, h3 => exact ⟨(expo_3 ⟨h1, h2, h3⟩).1, (expo_3 ⟨h1, h2, h3⟩).2.1⟩
  | ⟨4, _⟩, h2, h3 => exact ⟨(expo_4 ⟨h1, h2, h3⟩).1, (expo_4 ⟨h1, h2, h3⟩).2.1⟩
  | ⟨5, _⟩, h2, h3 => exact ⟨(expo_5 ⟨h1, h2, h3⟩).1, (expo_5 ⟨h1, h2, h3⟩).2.1⟩
  | ⟨6, _⟩, h2, h3 => exact ⟨(expo_6 ⟨h1, h2, h3⟩).1, (expo_6 ⟨h1, h2, h3⟩).2.1⟩
  | ⟨7, _⟩, h2, h3 => exact ⟨(expo_7 ⟨h1, h2, h3⟩).1, (expo_7 ⟨h1, h2, h3⟩).2.1⟩
  | ⟨8, _⟩, h2, h3 => exact ⟨(expo_8 ⟨h1, h2, h3⟩).1, (expo_8 ⟨h1, h2, h3⟩).2.1⟩
  | ⟨9, _⟩, h2, h3 => exact ⟨(expo_9 ⟨h1, h2, h3⟩).1, (expo_9 ⟨h1, h2, h3⟩).2.1⟩
  | ⟨10, _⟩, h2, h3 => exact ⟨(expo_10 ⟨h1, h2, h3⟩).1, (expo_10 ⟨h1, h2, h3⟩).2.1⟩
  | ⟨11, _⟩, h2, h3 => exact ⟨(expo_11 ⟨h1, h2, h3⟩).1, (expo_11 ⟨h1, h2, h3⟩).2.1⟩
  | ⟨12, _⟩, h2, h3 => exact ⟨(expo_12 ⟨h1, h2, h3⟩).1, (expo_12 ⟨h1, h2, h3⟩).2.1⟩
  | ⟨13, _⟩, h2, h3 => exact ⟨(expo_13 ⟨h1, h2, h3⟩).1, (expo_13 ⟨h1, h2, h3⟩).2.1⟩
  | ⟨14, _⟩, h2, h3 => exact ⟨(expo_14 ⟨h1, h2, h3⟩).1, (expo_14 ⟨h1, h2, h3⟩).2.1⟩
  | ⟨15, _⟩, h2, h3 => exact ⟨(expo_15 ⟨h1, h2, h3⟩).1, (expo_15 ⟨h1, h2, h3⟩).2.1⟩
  | ⟨16, _⟩, h2, h3 => exact ⟨(expo_16 ⟨h1, h2, h3⟩).1, (expo_16 ⟨h1, h2, h3⟩).2.1⟩
  | ⟨17, _⟩, h2, h3 => exact ⟨(expo_17 ⟨h1, h2, h3⟩).1, (expo_17 ⟨h1, h2, h3⟩).2.1⟩
  | ⟨18, _⟩, h2, h3 => exact ⟨(expo_18 ⟨h1, h2, h3⟩).1, (expo_18 ⟨h1, h2, h3⟩).2.1⟩
  | ⟨19, _⟩, h2, h3 => exact ⟨(expo_19 ⟨h1, h2, h3⟩).1, (expo_19 ⟨h1, h2, h3⟩).2.1⟩
  | ⟨n + 20, hn⟩, _, _ => exact absurd hn (by omega)

theorem pieces : (∀ i : Fin 20, pA.getD (19 - i.val + 1) 0 = -pA.getD i.val 0 ∧ pA.getD (19 - i.val) 0 = -pA.getD (i.val + 1) 0 ∧ 19 / 10 ≤ pL.getD i.val 0 + pL.getD (19 - i.val) 0) := by decide +kernel

theorem piece_of {q : Rat} (h1 : -1 ≤ q) (h2 : q ≤ 1) : ∃ i : Fin 20, pA.getD i.val 0 ≤ q ∧ q ≤ pA.getD (i.val + 1) 0 := by
  have key : ∀ n : Nat, n ≤ 20 → q ≤ pA.getD n 0 → ∃ i : Fin 20, pA.getD i.val 0 ≤ q ∧ q ≤ pA.getD (i.val + 1) 0 := by
    intro n
    induction n with
    | zero =>
      intro _ h
      have e : pA.getD 0 0 = -1 := by decide +kernel
      have e2 : (-1 : Rat) ≤ pA.getD 1 0 := by decide +kernel
      rw [e] at h
      exact ⟨0, by show pA.getD 0 0 ≤ q; rw [e]; exact h1, by show q ≤ pA.getD 1 0; grind⟩
    | succ n ih =>
      intro hn h
      rcases (Rat.le_total : pA.getD n 0 ≤ q ∨ q ≤ pA.getD n 0) with g | g
      · exact ⟨⟨n, by omega⟩, g, h⟩
      · exact ih (by omega) g
  exact key 20 (by decide) (by have e : pA.getD 20 0 = 1 := by decide +kernel
                               rw [e]; exact h2)

/-- What the powers of a number and of its opposite are. -/
theorem both_powers {x : Nat} (h : I .f64 x (some (-101 / 10, 101 / 10))) : I .f64 (expoN x) (some (-1 / 1000, 30000)) ∧ I .f64 (expoN (fneg .f64 x)) (some (-1 / 1000, 30000)) ∧ 19 / 10 ≤ R .f64 (expoN x) + R .f64 (expoN (fneg .f64 x)) := by
  obtain ⟨n1, n2⟩ := R_neg h.1
  have hx := h.2
  have hm : I .f64 (fneg .f64 x) (some (-101 / 10, 101 / 10)) := ⟨n1, by rw [n2]; grind, by rw [n2]; grind⟩
  have a := expo_all h
  have b := expo_all hm
  refine ⟨a, b, ?_⟩
  have a2 := a.2
  have b2 := b.2
  rcases (Rat.le_total : (1 : Rat) ≤ R .f64 x ∨ R .f64 x ≤ 1) with g | g
  · have u := (expo_up ⟨h.1, g, hx.2⟩).2.1
    grind
  · rcases (Rat.le_total : (-1 : Rat) ≤ R .f64 x ∨ R .f64 x ≤ -1) with g2 | g2
    · obtain ⟨i, i1, i2⟩ := piece_of g2 g
      obtain ⟨p1, p2, p3⟩ := pieces i
      have u := (expo_piece i h.1 i1 i2).2
      have v := (expo_piece ⟨19 - i.val, by have := i.isLt; omega⟩ n1 (by show pA.getD (19 - i.val) 0 ≤ _; rw [p2, n2]; grind) (by show _ ≤ pA.getD (19 - i.val + 1) 0; rw [p1, n2]; grind)).2
      have v : pL.getD (19 - i.val) 0 ≤ R .f64 (expoN (fneg .f64 x)) := v
      grind
    · have u := (expo_up (x := fneg .f64 x) ⟨n1, by rw [n2]; grind, by rw [n2]; grind⟩).2.1
      grind

end Go.Proofs.YtfbnehkbialkaaaGreat
