/- Printed by compact.py: functions in the evaluator's form. -/
import Derived.Test.YtgkjbkkbjlhafaaGreatEvWd
import Derived.Test.YtgkjbkkbjlhafaaGreatProg
set_option maxRecDepth 100000
namespace Go.Ev.Fs
open Go Go.Proofs Go.Ev

def pl124 : Plans := []
def F124 : CFun := ⟨n19, .seq (.region <|
 m p3 q1 <|
 .done) <|
 .seq (.seq (.region <|
 m p4 t1 <|
 o p5 (.cmp .geq t4 q46) <|
 .done) <|
 .cond t5 (.seq (.region <|
 m p6 t1 <|
 o p7 (.ar .shr t6 q47) <|
 m p1 t7 <|
 .done) <|
 .region <|
 m p3 q5 <|
 .done) <|
 .skip) <|
 .seq (.seq (.region <|
 m p8 t1 <|
 o p9 (.cmp .geq t8 q48) <|
 .done) <|
 .cond t9 (.seq (.region <|
 m p10 t1 <|
 o p11 (.ar .shr t10 q49) <|
 m p1 t11 <|
 .done) <|
 .region <|
 m p12 t3 <|
 o p13 (.ar .add t12 q18) <|
 m p3 t13 <|
 .done) <|
 .skip) <|
 .seq (.region <|
 m p14 t3 <|
 m p15 t1 <|
 o p16 (.conv .u8 t15) <|
 o p17 (.indexStr q50 t16) <|
 o p18 (.conv .i64 t17) <|
 o p19 (.ar .add t14 t18) <|
 m p3 t19 <|
 .done) <|
 .ret, [.tmp p3]⟩
theorem c124 : compFn Tryz.prog pl124 Tryz.f124 = some F124 := by kernel_rfl

def pl125 : Plans := []
def F125 : CFun := ⟨n25, .seq (.region <|
 m p3 q1 <|
 .done) <|
 .seq (.seq (.region <|
 m p4 t1 <|
 o p5 (.cmp .geq t4 q51) <|
 .done) <|
 .cond t5 (.seq (.region <|
 m p6 t1 <|
 o p7 (.ar .shr t6 q52) <|
 m p1 t7 <|
 .done) <|
 .region <|
 m p3 q53 <|
 .done) <|
 .skip) <|
 .seq (.seq (.region <|
 m p8 t1 <|
 o p9 (.cmp .geq t8 q54) <|
 .done) <|
 .cond t9 (.seq (.region <|
 m p10 t1 <|
 o p11 (.ar .shr t10 q47) <|
 m p1 t11 <|
 .done) <|
 .region <|
 m p12 t3 <|
 o p13 (.ar .add t12 q5) <|
 m p3 t13 <|
 .done) <|
 .skip) <|
 .seq (.seq (.region <|
 m p14 t1 <|
 o p15 (.cmp .geq t14 q55) <|
 .done) <|
 .cond t15 (.seq (.region <|
 m p16 t1 <|
 o p17 (.ar .shr t16 q49) <|
 m p1 t17 <|
 .done) <|
 .region <|
 m p18 t3 <|
 o p19 (.ar .add t18 q18) <|
 m p3 t19 <|
 .done) <|
 .skip) <|
 .seq (.region <|
 m p20 t3 <|
 m p21 t1 <|
 o p22 (.conv .u8 t21) <|
 o p23 (.indexStr q50 t22) <|
 o p24 (.conv .i64 t23) <|
 o p25 (.ar .add t20 t24) <|
 m p3 t25 <|
 .done) <|
 .ret, [.tmp p3]⟩
theorem c125 : compFn Tryz.prog pl125 Tryz.f125 = some F125 := by kernel_rfl

def pl126 : Plans := []
def F126 : CFun := ⟨n24, .seq (.region <|
 m p3 q42 <|
 .done) <|
 .seq (.seq (.region <|
 o p6 (.build z24 [(n0, n1, q49), (n1, n1, q56)]) <|
 o p7 (.build z24 [(n0, n1, q57), (n1, n1, q58)]) <|
 o p8 (.build z24 [(n0, n1, q59), (n1, n1, q60)]) <|
 o p9 (.build z24 [(n0, n1, q43), (n1, n1, q61)]) <|
 o p10 (.build z25 [(n0, n2, t6), (n2, n2, t7), (n4, n2, t8), (n6, n2, t9)]) <|
 m p11 q1 <|
 .done) <|
 .block n0 <| .loop <| .seq (.region <|
 o p12 (.cmp .lss t11 q8) <|
 .done) <|
 .seq (.cond t12 (.skip) <|
 .exit n0) <|
 .seq (.block n1 <| .seq (.region <|
 o p13 (.indexN n4 n2 t10 t11) <|
 o p5 (.alloc z24) <|
 e (.storeN n2 t5 t13) <|
 .done) <|
 .region <|
 m p14 t1 <|
 m p15 t1 <|
 o p16 (.fieldA n0 t5) <|
 o p17 (.load1 t16) <|
 o p18 (.ar .shl t15 t17) <|
 o p19 (.ar .or t14 t18) <|
 o p20 (.fieldA n1 t5) <|
 o p21 (.load1 t20) <|
 o p22 (.ar .and t19 t21) <|
 m p1 t22 <|
 .done) <|
 .region <|
 o p23 (.ar .add t11 q3) <|
 m p11 t23 <|
 .done) <|
 .seq (.region <|
 m p24 t1 <|
 m p3 t24 <|
 .done) <|
 .ret, [.tmp p3]⟩
theorem c126 : compFn Tryz.prog pl126 Tryz.f126 = some F126 := by kernel_rfl

def pl127 : Plans := []
def F127 : CFun := ⟨n26, .seq (.region <|
 o p3 (.alloc z14) <|
 m p4 q0 <|
 .done) <|
 .seq (.seq (.region <|
 m p7 t1 <|
 a p8 n50 [t7] <|
 o p9 (.not t8) <|
 .done) <|
 .cond t9 (.seq (.region <|
 o p10 (.build z14 []) <|
 e (.storeN n4 t3 t10) <|
 m p4 q0 <|
 .done) <|
 .ret) <|
 .skip) <|
 .seq (.region <|
 m p12 t1 <|
 a p13 n149 [t12] <|
 m p11 t13 <|
 o p14 (.extract n0 t11) <|
 o p15 (.extract n1 t11) <|
 m p5 t14 <|
 m p6 t15 <|
 .done) <|
 .seq (.region <|
 m p16 t5 <|
 o p17 (.ar .mul t16 q5) <|
 m p18 t6 <|
 o p19 (.ar .mul t18 q5) <|
 m p20 t5 <|
 o p21 (.ar .add t20 q3) <|
 o p22 (.ar .mul t21 q5) <|
 m p23 t6 <|
 o p24 (.ar .add t23 q3) <|
 o p25 (.ar .mul t24 q5) <|
 o p26 (.build z14 [(n0, n1, t17), (n1, n1, t19), (n2, n1, t22), (n3, n1, t25)]) <|
 e (.storeN n4 t3 t26) <|
 m p4 q12 <|
 .done) <|
 .ret, [.cellN n4 p3, .tmp p4]⟩
theorem c127 : compFn Tryz.prog pl127 Tryz.f127 = some F127 := by kernel_rfl

def pl128 : Plans := [(1, [K [] [0] 5, K [] [0] 6, K [1] [6] 7, K [2] [7] 8, K [3] [8] 9, K [] [3] 10, K [4, 5] [9, 10] 11, K [0, 6, 6] [5, 11] 12, K (7 :: 7 :: (r 0 8 [])) [12] 4], [Q 0 1 [7, 8], Q 1 1 [2, 3, 4, 6, 7, 8], Q 2 1 [3, 4, 6, 7, 8], Q 3 1 [4, 6, 7, 8], Q 4 2 [6, 7, 8], Q 5 2 [6, 7, 8], Q 6 0 [], Q 7 0 [], Q 8 1 []], .node (Q 0 1 [7, 8]) <| .node (Q 1 1 [2, 3, 4, 6, 7, 8]) <| .node (Q 2 1 [3, 4, 6, 7, 8]) <| .node (Q 3 1 [4, 6, 7, 8]) <| .node (Q 4 2 [6, 7, 8]) <| .node (Q 5 2 [6, 7, 8]) <| .node (Q 6 0 []) <| .node (Q 7 0 []) <| .node (Q 8 1 []) <| .done)]
def F128 : CFun := ⟨n13, .seq (.region <|
 o p4 (.box t2) <|
 m p5 q7 <|
 .done) <|
 .seq (.region <|
 m p6 t1 <|
 m p7 t1 <|
 o p8 (.nilchk t7) <|
 o p9 (.fieldA n1 t8) <|
 o p10 (.load1 t9) <|
 o p11 (.loadN n4 t4) <|
 a p12 n150 [t10, t11] <|
 a p13 n64 [t6, t12] <|
 m p5 t13 <|
 .done) <|
 .ret, [.tmp p5]⟩
theorem c128 : compFn Tryz.prog pl128 Tryz.f128 = some F128 := by kernel_rfl

def pl129 : Plans := []
def F129 : CFun := ⟨n58, .seq (.region <|
 m p13 t3 <|
 m p14 t2 <|
 o p15 (.ar .sub t13 t14) <|
 m p11 t15 <|
 .done) <|
 .seq (.region <|
 m p16 t4 <|
 m p17 t3 <|
 o p18 (.ar .sub t16 t17) <|
 m p12 t18 <|
 .done) <|
 .seq (.block n0 <| .loop <| .seq (.seq (.region <|
 m p19 t11 <|
 m p20 t12 <|
 o p21 (.cmp .neq t19 t20) <|
 .done) <|
 .cond t21 (.skip) <|
 .exit n0) <|
 .block n1 <| .seq (.region <|
 m p22 t11 <|
 m p23 t12 <|
 o p24 (.cmp .gtr t22 t23) <|
 .done) <|
 .cond t24 (.seq (.region <|
 m p25 t1 <|
 m p26 t3 <|
 m p27 t11 <|
 o p28 (.ar .sub t26 t27) <|
 m p29 t3 <|
 m p30 t12 <|
 m p31 t5 <|
 a p32 n151 [t25, t28, t29, t30, t31] <|
 .done) <|
 .region <|
 m p33 t11 <|
 m p34 t12 <|
 o p35 (.ar .sub t33 t34) <|
 m p11 t35 <|
 .done) <|
 .seq (.region <|
 m p36 t1 <|
 m p37 t3 <|
 m p38 t11 <|
 o p39 (.ar .sub t37 t38) <|
 m p40 t3 <|
 m p41 t12 <|
 o p42 (.ar .add t40 t41) <|
 m p43 t11 <|
 o p44 (.ar .sub t42 t43) <|
 m p45 t11 <|
 m p46 t5 <|
 a p47 n151 [t36, t39, t44, t45, t46] <|
 .done) <|
 .region <|
 m p48 t12 <|
 m p49 t11 <|
 o p50 (.ar .sub t48 t49) <|
 m p12 t50 <|
 .done) <|
 .region <|
 m p51 t1 <|
 m p52 t3 <|
 m p53 t11 <|
 o p54 (.ar .sub t52 t53) <|
 m p55 t3 <|
 m p56 t11 <|
 m p57 t5 <|
 a p58 n151 [t51, t54, t55, t56, t57] <|
 .done, []⟩
theorem c129 : compFn Tryz.prog pl129 Tryz.f129 = some F129 := by kernel_rfl

def pl130 : Plans := []
def F130 : CFun := ⟨n9, .seq (.region <|
 m p5 q0 <|
 .done) <|
 .seq (.region <|
 m p6 t1 <|
 m p7 t2 <|
 a p8 n152 [t6, t7] <|
 o p9 (.cmp .geq t8 q1) <|
 m p5 t9 <|
 .done) <|
 .ret, [.tmp p5]⟩
theorem c130 : compFn Tryz.prog pl130 Tryz.f130 = some F130 := by kernel_rfl

def pl131 : Plans := []
def F131 : CFun := ⟨n6, .seq (.region <|
 o p2 (.box t1) <|
 m p3 q0 <|
 .done) <|
 .seq (.region <|
 o p4 (.loadN n2 t2) <|
 a p5 n46 [t4] <|
 o p6 (.not t5) <|
 m p3 t6 <|
 .done) <|
 .ret, [.tmp p3]⟩
theorem c131 : compFn Tryz.prog pl131 Tryz.f131 = some F131 := by kernel_rfl

def pl132 : Plans := []
def F132 : CFun := ⟨n15, .seq (.region <|
 o p2 (.box t1) <|
 m p3 q0 <|
 .done) <|
 .seq (.region <|
 o p4 (.fieldA n0 t2) <|
 o p5 (.load1 t4) <|
 o p6 (.fieldA n2 t2) <|
 o p7 (.load1 t6) <|
 o p8 (.cmp .geq t5 t7) <|
 m p9 t8 <|
 .step ⟨(some p10), (some (p9, false)), .op (.fieldA n1 t2)⟩ [] <|
 .step ⟨(some p11), (some (p9, false)), .op (.load1 t10)⟩ [] <|
 .step ⟨(some p12), (some (p9, false)), .op (.fieldA n3 t2)⟩ [] <|
 .step ⟨(some p13), (some (p9, false)), .op (.load1 t12)⟩ [] <|
 .step ⟨(some p14), (some (p9, false)), .op (.cmp .geq t11 t13)⟩ [] <|
 o p15 (.pick t9 q12 t14) <|
 m p3 t15 <|
 .done) <|
 .ret, [.tmp p3]⟩
theorem c132 : compFn Tryz.prog pl132 Tryz.f132 = some F132 := by kernel_rfl

def pl133 : Plans := []
def F133 : CFun := ⟨n19, .seq (.region <|
 m p5 q1 <|
 .done) <|
 .seq (.seq (.region <|
 m p7 t1 <|
 o p8 (.len t7) <|
 m p9 q1 <|
 .done) <|
 .block n0 <| .loop <| .seq (.region <|
 o p10 (.cmp .lss t9 t8) <|
 .done) <|
 .seq (.cond t10 (.skip) <|
 .exit n0) <|
 .seq (.block n1 <| .seq (.region <|
 m p11 t9 <|
 m p6 t11 <|
 .done) <|
 .seq (.region <|
 m p12 t2 <|
 m p13 t1 <|
 m p14 t6 <|
 o p15 (.idxS n1 t13 t14) <|
 o p16 (.load1 t15) <|
 .step ⟨(some p17), none, .callv t12 [t16]⟩ [] <|
 .done) <|
 .cond t17 (.seq (.region <|
 m p18 t6 <|
 m p5 t18 <|
 .done) <|
 .ret) <|
 .skip) <|
 .region <|
 o p19 (.ar .add t9 q3) <|
 m p9 t19 <|
 .done) <|
 .seq (.region <|
 m p5 q20 <|
 .done) <|
 .ret, [.tmp p5]⟩
theorem c133 : compFn Tryz.prog pl133 Tryz.f133 = some F133 := by kernel_rfl

def pl134 : Plans := []
def F134 : CFun := ⟨n8, .seq (.region <|
 m p3 q7 <|
 .done) <|
 .seq (.seq (.region <|
 m p4 t1 <|
 o p5 (.eqnil false n1 t4 q7) <|
 .done) <|
 .cond t5 (.seq (.region <|
 m p3 q7 <|
 .done) <|
 .ret) <|
 .skip) <|
 .seq (.region <|
 o p6 (.bslice z16 n1 n0 []) <|
 m p7 t1 <|
 o p8 (.append n8 n1 t6 t7) <|
 m p3 t8 <|
 .done) <|
 .ret, [.tmp p3]⟩
theorem c134 : compFn Tryz.prog pl134 Tryz.f134 = some F134 := by kernel_rfl

def pl135 : Plans := [(6, [K [] [0] 33, K [] [7] 34, K [] [0] 35, K [] [7] 36, K [3] [36] 37, K [] [0] 38, K [] [7] 39, K [6] [39] 40, K [5, 7] [38, 40] 41, K [8] [41] 42, K [] [0] 43, K [] [7] 44, K [10, 11] [43, 44] 45, K [12] [45] 46, K (0 :: 1 :: 0 :: 1 :: (r 5 5 [13])) [33, 34] 47, J (14 :: 9 :: 0 :: 1 :: (r 5 5 [13])) [47, 42], K (2 :: 4 :: (r 0 16 [])) [35, 37] 48, J (16 :: 13 :: 15 :: (r 0 16 [])) [48, 46]], [Q 0 1 [14, 15, 16, 17], Q 1 1 [14, 15, 16, 17], Q 2 1 [16, 17], Q 3 1 [4, 16, 17], Q 4 1 [16, 17], Q 5 1 [8, 9, 14, 15, 16, 17], Q 6 1 [7, 8, 9, 14, 15, 16, 17], Q 7 1 [8, 9, 14, 15, 16, 17], Q 8 1 [9, 14, 15, 16, 17], Q 9 2 [14, 15, 16, 17], Q 10 1 (r 12 6 []), Q 11 1 (r 12 6 []), Q 12 1 (r 13 5 []), Q 13 2 [14, 15, 16, 17], Q 14 1 [15, 16, 17], Q 15 0 [], Q 16 1 [17], Q 17 0 []], .node (Q 0 1 [14, 15, 16, 17]) <| .node (Q 1 1 [14, 15, 16, 17]) <| .node (Q 2 1 [16, 17]) <| .node (Q 3 1 [4, 16, 17]) <| .node (Q 4 1 [16, 17]) <| .node (Q 5 1 [8, 9, 14, 15, 16, 17]) <| .node (Q 6 1 [7, 8, 9, 14, 15, 16, 17]) <| .node (Q 7 1 [8, 9, 14, 15, 16, 17]) <| .node (Q 8 1 [9, 14, 15, 16, 17]) <| .node (Q 9 2 [14, 15, 16, 17]) <| .node (Q 10 1 (r 12 6 [])) <| .node (Q 11 1 (r 12 6 [])) <| .node (Q 12 1 (r 13 5 [])) <| .node (Q 13 2 [14, 15, 16, 17]) <| .node (Q 14 1 [15, 16, 17]) <| .node (Q 15 0 []) <| .node (Q 16 1 [17]) <| .node (Q 17 0 []) <| .done),
  (4, [K [] [7] 16, K [] [1] 17, K [0, 1] [16, 17] 18, K [2] [18] 19, K [3] [0, 19] 20, K [3] [7, 19] 21, K [4, 5, 3] [20, 21, 19] 22, K [6, 3] [22, 19] 23, K [3] [0, 19] 24, K [3] [7, 19] 25, K [9, 3] [25, 19] 26, K [8, 10, 3] [24, 26, 19] 27, K [11, 3] [27, 19] 28, K [7, 12, 3, 3] [23, 28, 19] 29, K [3, 13] [19, 29] 30], [Q 0 1 (r 2 13 []), Q 1 1 (r 2 13 []), Q 2 1 (r 3 12 []), Q 3 1 (r 4 11 []), Q 4 1 [6, 7, 13, 14], Q 5 1 [6, 7, 13, 14], Q 6 1 [7, 13, 14], Q 7 2 [13, 14], Q 8 1 [11, 12, 13, 14], Q 9 1 (r 10 5 []), Q 10 1 [11, 12, 13, 14], Q 11 1 [12, 13, 14], Q 12 2 [13, 14], Q 13 0 [], Q 14 1 []], .node (Q 0 1 (r 2 13 [])) <| .node (Q 1 1 (r 2 13 [])) <| .node (Q 2 1 (r 3 12 [])) <| .node (Q 3 1 (r 4 11 [])) <| .node (Q 4 1 [6, 7, 13, 14]) <| .node (Q 5 1 [6, 7, 13, 14]) <| .node (Q 6 1 [7, 13, 14]) <| .node (Q 7 2 [13, 14]) <| .node (Q 8 1 [11, 12, 13, 14]) <| .node (Q 9 1 (r 10 5 [])) <| .node (Q 10 1 [11, 12, 13, 14]) <| .node (Q 11 1 [12, 13, 14]) <| .node (Q 12 2 [13, 14]) <| .node (Q 13 0 []) <| .node (Q 14 1 []) <| .done)]
def F135 : CFun := ⟨n49, .seq (.region <|
 m p9 t2 <|
 o p10 (.ar .add t9 q3) <|
 m p7 t10 <|
 .done) <|
 .block n0 <| .loop <| .seq (.seq (.region <|
 m p11 t7 <|
 m p12 t3 <|
 o p13 (.cmp .lss t11 t12) <|
 .done) <|
 .cond t13 (.skip) <|
 .exit n0) <|
 .seq (.block n1 <| .seq (.region <|
 m p16 t7 <|
 m p8 t16 <|
 .done) <|
 .block n2 <| .loop <| .seq (.seq (.region <|
 m p17 t8 <|
 m p18 t2 <|
 o p19 (.cmp .gtr t17 t18) <|
 m p20 t19 <|
 .step ⟨(some p21), (some (p20, true)), .op (.move t1)⟩ [] <|
 .step ⟨(some p22), (some (p20, true)), .op (.move t8)⟩ [] <|
 .step ⟨(some p23), (some (p20, true)), .op (.idxS n1 t21 t22)⟩ [] <|
 .step ⟨(some p24), (some (p20, true)), .op (.load1 t23)⟩ [] <|
 .step ⟨(some p25), (some (p20, true)), .op (.move t1)⟩ [] <|
 .step ⟨(some p26), (some (p20, true)), .op (.move t8)⟩ [] <|
 .step ⟨(some p27), (some (p20, true)), .op (.ar .sub t26 q3)⟩ [] <|
 .step ⟨(some p28), (some (p20, true)), .op (.idxS n1 t25 t27)⟩ [] <|
 .step ⟨(some p29), (some (p20, true)), .op (.load1 t28)⟩ [] <|
 .step ⟨(some p30), (some (p20, true)), .call n141 [t24, t29]⟩ [] <|
 o p31 (.pick t20 t30 q0) <|
 .done) <|
 .cond t31 (.skip) <|
 .exit n2) <|
 .seq (.block n3 <| .region <|
 m p34 t1 <|
 m p35 t8 <|
 m p36 t1 <|
 m p37 t8 <|
 o p38 (.ar .sub t37 q3) <|
 m p39 t1 <|
 m p40 t8 <|
 o p41 (.ar .sub t40 q3) <|
 o p42 (.idxS n1 t39 t41) <|
 o p43 (.load1 t42) <|
 m p44 t1 <|
 m p45 t8 <|
 o p46 (.idxS n1 t44 t45) <|
 o p47 (.load1 t46) <|
 o p48 (.idxS n1 t34 t35) <|
 e (.store1 t48 t43) <|
 o p49 (.idxS n1 t36 t38) <|
 e (.store1 t49 t47) <|
 .done) <|
 .region <|
 m p32 t8 <|
 o p33 (.ar .sub t32 q3) <|
 m p8 t33 <|
 .done) <|
 .region <|
 m p14 t7 <|
 o p15 (.ar .add t14 q3) <|
 m p7 t15 <|
 .done, []⟩
theorem c135 : compFn Tryz.prog pl135 Tryz.f135 = some F135 := by kernel_rfl

def pl136 : Plans := [(10, [K [] [0] 33, K [] [6] 34, K [] [0] 35, K [] [6] 36, K [] [10] 37, K [3, 4] [36, 37] 38, K [] [0] 39, K [] [6] 40, K [] [10] 41, K [7, 8] [40, 41] 42, K [6, 9] [39, 42] 43, K [10] [43] 44, K [] [0] 45, K [] [6] 46, K [12, 13] [45, 46] 47, K [14] [47] 48, K (0 :: 1 :: 0 :: 1 :: (r 6 6 [15])) [33, 34] 49, J (16 :: 11 :: 0 :: 1 :: (r 6 6 [15])) [49, 44], K (2 :: 5 :: (r 0 18 [])) [35, 38] 50, J (18 :: 15 :: 17 :: (r 0 18 [])) [50, 48]], [Q 0 1 [16, 17, 18, 19], Q 1 1 [16, 17, 18, 19], Q 2 1 [18, 19], Q 3 1 [5, 18, 19], Q 4 1 [5, 18, 19], Q 5 1 [18, 19], Q 6 1 [10, 11, 16, 17, 18, 19], Q 7 1 [9, 10, 11, 16, 17, 18, 19], Q 8 1 [9, 10, 11, 16, 17, 18, 19], Q 9 1 [10, 11, 16, 17, 18, 19], Q 10 1 [11, 16, 17, 18, 19], Q 11 2 [16, 17, 18, 19], Q 12 1 (r 14 6 []), Q 13 1 (r 14 6 []), Q 14 1 (r 15 5 []), Q 15 2 [16, 17, 18, 19], Q 16 1 [17, 18, 19], Q 17 0 [], Q 18 1 [19], Q 19 0 []], .node (Q 0 1 [16, 17, 18, 19]) <| .node (Q 1 1 [16, 17, 18, 19]) <| .node (Q 2 1 [18, 19]) <| .node (Q 3 1 [5, 18, 19]) <| .node (Q 4 1 [5, 18, 19]) <| .node (Q 5 1 [18, 19]) <| .node (Q 6 1 [10, 11, 16, 17, 18, 19]) <| .node (Q 7 1 [9, 10, 11, 16, 17, 18, 19]) <| .node (Q 8 1 [9, 10, 11, 16, 17, 18, 19]) <| .node (Q 9 1 [10, 11, 16, 17, 18, 19]) <| .node (Q 10 1 [11, 16, 17, 18, 19]) <| .node (Q 11 2 [16, 17, 18, 19]) <| .node (Q 12 1 (r 14 6 [])) <| .node (Q 13 1 (r 14 6 [])) <| .node (Q 14 1 (r 15 5 [])) <| .node (Q 15 2 [16, 17, 18, 19]) <| .node (Q 16 1 [17, 18, 19]) <| .node (Q 17 0 []) <| .node (Q 18 1 [19]) <| .node (Q 19 0 []) <| .done)]
def F136 : CFun := ⟨n56, .seq (.region <|
 m p12 t2 <|
 m p7 t12 <|
 .done) <|
 .seq (.region <|
 m p8 q1 <|
 .done) <|
 .seq (.region <|
 m p13 t3 <|
 m p14 t2 <|
 o p15 (.ar .sub t13 t14) <|
 m p9 t15 <|
 .done) <|
 .seq (.seq (.region <|
 m p16 t9 <|
 o p17 (.ar .sub t16 q3) <|
 o p18 (.ar .quo t17 q2) <|
 m p10 t18 <|
 .done) <|
 .block n0 <| .loop <| .seq (.seq (.region <|
 m p19 t10 <|
 o p20 (.cmp .geq t19 q1) <|
 .done) <|
 .cond t20 (.skip) <|
 .exit n0) <|
 .seq (.block n1 <| .region <|
 m p23 t1 <|
 m p24 t10 <|
 m p25 t9 <|
 m p26 t7 <|
 a p27 n153 [t23, t24, t25, t26] <|
 .done) <|
 .region <|
 m p21 t10 <|
 o p22 (.ar .sub t21 q3) <|
 m p10 t22 <|
 .done) <|
 .seq (.region <|
 m p28 t9 <|
 o p29 (.ar .sub t28 q3) <|
 m p11 t29 <|
 .done) <|
 .block n2 <| .loop <| .seq (.seq (.region <|
 m p30 t11 <|
 o p31 (.cmp .geq t30 q1) <|
 .done) <|
 .cond t31 (.skip) <|
 .exit n2) <|
 .seq (.block n3 <| .seq (.region <|
 m p34 t1 <|
 m p35 t7 <|
 m p36 t1 <|
 m p37 t7 <|
 m p38 t11 <|
 o p39 (.ar .add t37 t38) <|
 m p40 t1 <|
 m p41 t7 <|
 m p42 t11 <|
 o p43 (.ar .add t41 t42) <|
 o p44 (.idxS n1 t40 t43) <|
 o p45 (.load1 t44) <|
 m p46 t1 <|
 m p47 t7 <|
 o p48 (.idxS n1 t46 t47) <|
 o p49 (.load1 t48) <|
 o p50 (.idxS n1 t34 t35) <|
 e (.store1 t50 t45) <|
 o p51 (.idxS n1 t36 t39) <|
 e (.store1 t51 t49) <|
 .done) <|
 .region <|
 m p52 t1 <|
 m p53 t8 <|
 m p54 t11 <|
 m p55 t7 <|
 a p56 n153 [t52, t53, t54, t55] <|
 .done) <|
 .region <|
 m p32 t11 <|
 o p33 (.ar .sub t32 q3) <|
 m p11 t33 <|
 .done, []⟩
theorem c136 : compFn Tryz.prog pl136 Tryz.f136 = some F136 := by kernel_rfl

def pl137 : Plans := [(10, [K [] [0] 47, K [] [9] 48, K [] [0] 49, K [] [1] 50, K [] [10] 51, K [3, 4] [50, 51] 52, K [] [0] 53, K [] [1] 54, K [] [10] 55, K [7, 8] [54, 55] 56, K [6, 9] [53, 56] 57, K [10] [57] 58, K [] [0] 59, K [] [9] 60, K [12, 13] [59, 60] 61, K [14] [61] 62, K (0 :: 1 :: 0 :: 1 :: (r 6 6 [15])) [47, 48] 63, J (16 :: 11 :: 0 :: 1 :: (r 6 6 [15])) [63, 58], K (2 :: 5 :: (r 0 18 [])) [49, 52] 64, J (18 :: 15 :: 17 :: (r 0 18 [])) [64, 62]], [Q 0 1 [16, 17, 18, 19], Q 1 1 [16, 17, 18, 19], Q 2 1 [18, 19], Q 3 1 [5, 18, 19], Q 4 1 [5, 18, 19], Q 5 1 [18, 19], Q 6 1 [10, 11, 16, 17, 18, 19], Q 7 1 [9, 10, 11, 16, 17, 18, 19], Q 8 1 [9, 10, 11, 16, 17, 18, 19], Q 9 1 [10, 11, 16, 17, 18, 19], Q 10 1 [11, 16, 17, 18, 19], Q 11 2 [16, 17, 18, 19], Q 12 1 (r 14 6 []), Q 13 1 (r 14 6 []), Q 14 1 (r 15 5 []), Q 15 2 [16, 17, 18, 19], Q 16 1 [17, 18, 19], Q 17 0 [], Q 18 1 [19], Q 19 0 []], .node (Q 0 1 [16, 17, 18, 19]) <| .node (Q 1 1 [16, 17, 18, 19]) <| .node (Q 2 1 [18, 19]) <| .node (Q 3 1 [5, 18, 19]) <| .node (Q 4 1 [5, 18, 19]) <| .node (Q 5 1 [18, 19]) <| .node (Q 6 1 [10, 11, 16, 17, 18, 19]) <| .node (Q 7 1 [9, 10, 11, 16, 17, 18, 19]) <| .node (Q 8 1 [9, 10, 11, 16, 17, 18, 19]) <| .node (Q 9 1 [10, 11, 16, 17, 18, 19]) <| .node (Q 10 1 [11, 16, 17, 18, 19]) <| .node (Q 11 2 [16, 17, 18, 19]) <| .node (Q 12 1 (r 14 6 [])) <| .node (Q 13 1 (r 14 6 [])) <| .node (Q 14 1 (r 15 5 [])) <| .node (Q 15 2 [16, 17, 18, 19]) <| .node (Q 16 1 [17, 18, 19]) <| .node (Q 17 0 []) <| .node (Q 18 1 [19]) <| .node (Q 19 0 []) <| .done)]
def F137 : CFun := ⟨n65, .seq (.region <|
 m p12 t3 <|
 m p13 t2 <|
 o p14 (.ar .sub t12 t13) <|
 m p7 t14 <|
 .done) <|
 .seq (.region <|
 m p15 t7 <|
 o p16 (.cmp .geq t15 q18) <|
 .done) <|
 .cond t16 (.seq (.region <|
 m p17 t7 <|
 o p18 (.conv .u64 t17) <|
 o p8 (.alloc z23) <|
 e (.store1 t8 t18) <|
 .done) <|
 .seq (.region <|
 m p19 t7 <|
 a p20 n145 [t19] <|
 m p9 t20 <|
 .done) <|
 .seq (.region <|
 m p21 t2 <|
 m p22 t7 <|
 o p23 (.ar .quo t22 q8) <|
 o p24 (.ar .mul t23 q2) <|
 o p25 (.ar .add t21 t24) <|
 o p26 (.ar .sub t25 q3) <|
 m p10 t26 <|
 .done) <|
 .block n0 <| .loop <| .seq (.seq (.region <|
 m p27 t10 <|
 m p28 t2 <|
 m p29 t7 <|
 o p30 (.ar .quo t29 q8) <|
 o p31 (.ar .mul t30 q2) <|
 o p32 (.ar .add t28 t31) <|
 o p33 (.ar .add t32 q3) <|
 o p34 (.cmp .leq t27 t33) <|
 .done) <|
 .cond t34 (.skip) <|
 .exit n0) <|
 .seq (.block n1 <| .seq (.region <|
 a p37 n146 [t8] <|
 m p38 t9 <|
 o p39 (.ar .sub t38 q43) <|
 o p40 (.ar .and t37 t39) <|
 o p41 (.conv .i64 t40) <|
 m p11 t41 <|
 .done) <|
 .seq (.seq (.region <|
 m p42 t11 <|
 m p43 t7 <|
 o p44 (.cmp .geq t42 t43) <|
 .done) <|
 .cond t44 (.region <|
 m p45 t11 <|
 m p46 t7 <|
 o p47 (.ar .sub t45 t46) <|
 m p11 t47 <|
 .done) <|
 .skip) <|
 .region <|
 m p48 t1 <|
 m p49 t10 <|
 m p50 t1 <|
 m p51 t2 <|
 m p52 t11 <|
 o p53 (.ar .add t51 t52) <|
 m p54 t1 <|
 m p55 t2 <|
 m p56 t11 <|
 o p57 (.ar .add t55 t56) <|
 o p58 (.idxS n1 t54 t57) <|
 o p59 (.load1 t58) <|
 m p60 t1 <|
 m p61 t10 <|
 o p62 (.idxS n1 t60 t61) <|
 o p63 (.load1 t62) <|
 o p64 (.idxS n1 t48 t49) <|
 e (.store1 t64 t59) <|
 o p65 (.idxS n1 t50 t53) <|
 e (.store1 t65 t63) <|
 .done) <|
 .region <|
 m p35 t10 <|
 o p36 (.ar .add t35 q3) <|
 m p10 t36 <|
 .done) <|
 .skip, []⟩
theorem c137 : compFn Tryz.prog pl137 Tryz.f137 = some F137 := by kernel_rfl

def pl138 : Plans := []
def F138 : CFun := ⟨n57, .seq (.region <|
 m p7 q1 <|
 m p8 q1 <|
 .done) <|
 .seq (.region <|
 m p14 t3 <|
 m p15 t2 <|
 o p16 (.ar .sub t14 t15) <|
 m p9 t16 <|
 .done) <|
 .seq (.region <|
 o p10 (.alloc z21) <|
 .done) <|
 .seq (.region <|
 m p17 t2 <|
 m p18 t9 <|
 o p19 (.ar .quo t18 q8) <|
 o p20 (.ar .mul t19 q3) <|
 o p21 (.ar .add t17 t20) <|
 m p11 t21 <|
 .done) <|
 .seq (.region <|
 m p22 t2 <|
 m p23 t9 <|
 o p24 (.ar .quo t23 q8) <|
 o p25 (.ar .mul t24 q2) <|
 o p26 (.ar .add t22 t25) <|
 m p12 t26 <|
 .done) <|
 .seq (.region <|
 m p27 t2 <|
 m p28 t9 <|
 o p29 (.ar .quo t28 q8) <|
 o p30 (.ar .mul t29 q6) <|
 o p31 (.ar .add t27 t30) <|
 m p13 t31 <|
 .done) <|
 .seq (.seq (.region <|
 m p32 t9 <|
 o p33 (.cmp .geq t32 q18) <|
 .done) <|
 .cond t33 (.seq (.seq (.region <|
 m p34 t9 <|
 o p35 (.cmp .geq t34 q45) <|
 .done) <|
 .cond t35 (.seq (.region <|
 m p36 t1 <|
 m p37 t11 <|
 a p38 n154 [t36, t37, t10] <|
 m p11 t38 <|
 .done) <|
 .seq (.region <|
 m p39 t1 <|
 m p40 t12 <|
 a p41 n154 [t39, t40, t10] <|
 m p12 t41 <|
 .done) <|
 .region <|
 m p42 t1 <|
 m p43 t13 <|
 a p44 n154 [t42, t43, t10] <|
 m p13 t44 <|
 .done) <|
 .skip) <|
 .region <|
 m p45 t1 <|
 m p46 t11 <|
 m p47 t12 <|
 m p48 t13 <|
 a p49 n155 [t45, t46, t47, t48, t10] <|
 m p12 t49 <|
 .done) <|
 .skip) <|
 .seq (.region <|
 o p50 (.load1 t10) <|
 .done) <|
 .block n0 <| .seq (.region <|
 o p53 (.cmp .eql t50 q1) <|
 m p52 t53 <|
 .done) <|
 .cond t52 (.seq (.region <|
 m p54 t12 <|
 m p7 t54 <|
 m p8 q3 <|
 .done) <|
 .ret) <|
 .seq (.region <|
 o p56 (.cmp .eql t50 q28) <|
 m p55 t56 <|
 .done) <|
 .cond t55 (.seq (.region <|
 m p57 t12 <|
 m p7 t57 <|
 m p8 q2 <|
 .done) <|
 .ret) <|
 .seq (.region <|
 m p51 t12 <|
 m p7 t51 <|
 m p8 q1 <|
 .done) <|
 .ret, [.tmp p7, .tmp p8]⟩
theorem c138 : compFn Tryz.prog pl138 Tryz.f138 = some F138 := by kernel_rfl

def pl139 : Plans := [(3, [K [] [0] 14, K [] [6] 15, K [] [0] 16, K [] [7] 17, K [] [0] 18, K [] [7] 19, K [4, 5] [18, 19] 20, K [6] [20] 21, K [] [0] 22, K [] [6] 23, K [8, 9] [22, 23] 24, K [10] [24] 25, K [0, 1, 0, 1, 4, 5, 6, 7, 11] [14, 15] 26, J [12, 7, 0, 1, 4, 5, 6, 7, 11] [26, 21], K (2 :: 3 :: (r 0 14 [])) [16, 17] 27, J (14 :: 11 :: 13 :: (r 0 14 [])) [27, 25]], [Q 0 1 [12, 13, 14, 15], Q 1 1 [12, 13, 14, 15], Q 2 1 [14, 15], Q 3 1 [14, 15], Q 4 1 [6, 7, 12, 13, 14, 15], Q 5 1 [6, 7, 12, 13, 14, 15], Q 6 1 [7, 12, 13, 14, 15], Q 7 2 [12, 13, 14, 15], Q 8 1 (r 10 6 []), Q 9 1 (r 10 6 []), Q 10 1 (r 11 5 []), Q 11 2 [12, 13, 14, 15], Q 12 1 [13, 14, 15], Q 13 0 [], Q 14 1 [15], Q 15 0 []], .node (Q 0 1 [12, 13, 14, 15]) <| .node (Q 1 1 [12, 13, 14, 15]) <| .node (Q 2 1 [14, 15]) <| .node (Q 3 1 [14, 15]) <| .node (Q 4 1 [6, 7, 12, 13, 14, 15]) <| .node (Q 5 1 [6, 7, 12, 13, 14, 15]) <| .node (Q 6 1 [7, 12, 13, 14, 15]) <| .node (Q 7 2 [12, 13, 14, 15]) <| .node (Q 8 1 (r 10 6 [])) <| .node (Q 9 1 (r 10 6 [])) <| .node (Q 10 1 (r 11 5 [])) <| .node (Q 11 2 [12, 13, 14, 15]) <| .node (Q 12 1 [13, 14, 15]) <| .node (Q 13 0 []) <| .node (Q 14 1 [15]) <| .node (Q 15 0 []) <| .done)]
def F139 : CFun := ⟨n32, .seq (.region <|
 m p9 t2 <|
 m p7 t9 <|
 .done) <|
 .seq (.region <|
 m p10 t3 <|
 o p11 (.ar .sub t10 q3) <|
 m p8 t11 <|
 .done) <|
 .block n0 <| .loop <| .seq (.seq (.region <|
 m p12 t7 <|
 m p13 t8 <|
 o p14 (.cmp .lss t12 t13) <|
 .done) <|
 .cond t14 (.skip) <|
 .exit n0) <|
 .block n1 <| .seq (.region <|
 m p15 t1 <|
 m p16 t7 <|
 m p17 t1 <|
 m p18 t8 <|
 m p19 t1 <|
 m p20 t8 <|
 o p21 (.idxS n1 t19 t20) <|
 o p22 (.load1 t21) <|
 m p23 t1 <|
 m p24 t7 <|
 o p25 (.idxS n1 t23 t24) <|
 o p26 (.load1 t25) <|
 o p27 (.idxS n1 t15 t16) <|
 e (.store1 t27 t22) <|
 o p28 (.idxS n1 t17 t18) <|
 e (.store1 t28 t26) <|
 .done) <|
 .seq (.region <|
 m p29 t7 <|
 o p30 (.ar .add t29 q3) <|
 m p7 t30 <|
 .done) <|
 .region <|
 m p31 t8 <|
 o p32 (.ar .sub t31 q3) <|
 m p8 t32 <|
 .done, []⟩
theorem c139 : compFn Tryz.prog pl139 Tryz.f139 = some F139 := by kernel_rfl

def pl140 : Plans := [(23, [K [] [0] 117, K [] [10] 118, K [] [0] 119, K [] [10] 120, K [3] [120] 121, K [] [0] 122, K [] [10] 123, K [6] [123] 124, K [5, 7] [122, 124] 125, K [8] [125] 126, K [] [0] 127, K [] [10] 128, K [10, 11] [127, 128] 129, K [12] [129] 130, K (0 :: 1 :: 0 :: 1 :: (r 5 5 [13])) [117, 118] 131, J (14 :: 9 :: 0 :: 1 :: (r 5 5 [13])) [131, 126], K (2 :: 4 :: (r 0 16 [])) [119, 121] 132, J (16 :: 13 :: 15 :: (r 0 16 [])) [132, 130]], [Q 0 1 [14, 15, 16, 17], Q 1 1 [14, 15, 16, 17], Q 2 1 [16, 17], Q 3 1 [4, 16, 17], Q 4 1 [16, 17], Q 5 1 [8, 9, 14, 15, 16, 17], Q 6 1 [7, 8, 9, 14, 15, 16, 17], Q 7 1 [8, 9, 14, 15, 16, 17], Q 8 1 [9, 14, 15, 16, 17], Q 9 2 [14, 15, 16, 17], Q 10 1 (r 12 6 []), Q 11 1 (r 12 6 []), Q 12 1 (r 13 5 []), Q 13 2 [14, 15, 16, 17], Q 14 1 [15, 16, 17], Q 15 0 [], Q 16 1 [17], Q 17 0 []], .node (Q 0 1 [14, 15, 16, 17]) <| .node (Q 1 1 [14, 15, 16, 17]) <| .node (Q 2 1 [16, 17]) <| .node (Q 3 1 [4, 16, 17]) <| .node (Q 4 1 [16, 17]) <| .node (Q 5 1 [8, 9, 14, 15, 16, 17]) <| .node (Q 6 1 [7, 8, 9, 14, 15, 16, 17]) <| .node (Q 7 1 [8, 9, 14, 15, 16, 17]) <| .node (Q 8 1 [9, 14, 15, 16, 17]) <| .node (Q 9 2 [14, 15, 16, 17]) <| .node (Q 10 1 (r 12 6 [])) <| .node (Q 11 1 (r 12 6 [])) <| .node (Q 12 1 (r 13 5 [])) <| .node (Q 13 2 [14, 15, 16, 17]) <| .node (Q 14 1 [15, 16, 17]) <| .node (Q 15 0 []) <| .node (Q 16 1 [17]) <| .node (Q 17 0 []) <| .done),
  (22, [K [] [0] 106, K [] [10] 107, K [0, 1] [106, 107] 108, K [2] [108] 109, K [] [0] 110, K [] [10] 111, K [5] [111] 112, K [4, 6] [110, 112] 113, K [7] [113] 114, K [3, 8] [109, 114] 115, K [9] [115] 116], [Q 0 1 [2, 3, 9, 10], Q 1 1 [2, 3, 9, 10], Q 2 1 [3, 9, 10], Q 3 2 [9, 10], Q 4 1 [7, 8, 9, 10], Q 5 1 (r 6 5 []), Q 6 1 [7, 8, 9, 10], Q 7 1 [8, 9, 10], Q 8 2 [9, 10], Q 9 0 [], Q 10 1 []], .node (Q 0 1 [2, 3, 9, 10]) <| .node (Q 1 1 [2, 3, 9, 10]) <| .node (Q 2 1 [3, 9, 10]) <| .node (Q 3 2 [9, 10]) <| .node (Q 4 1 [7, 8, 9, 10]) <| .node (Q 5 1 (r 6 5 [])) <| .node (Q 6 1 [7, 8, 9, 10]) <| .node (Q 7 1 [8, 9, 10]) <| .node (Q 8 2 [9, 10]) <| .node (Q 9 0 []) <| .node (Q 10 1 []) <| .done),
  (17, [K [] [0] 79, K [] [9] 80, K [] [0] 81, K [] [9] 82, K [3] [82] 83, K [] [0] 84, K [] [9] 85, K [6] [85] 86, K [5, 7] [84, 86] 87, K [8] [87] 88, K [] [0] 89, K [] [9] 90, K [10, 11] [89, 90] 91, K [12] [91] 92, K (0 :: 1 :: 0 :: 1 :: (r 5 5 [13])) [79, 80] 93, J (14 :: 9 :: 0 :: 1 :: (r 5 5 [13])) [93, 88], K (2 :: 4 :: (r 0 16 [])) [81, 83] 94, J (16 :: 13 :: 15 :: (r 0 16 [])) [94, 92]], [Q 0 1 [14, 15, 16, 17], Q 1 1 [14, 15, 16, 17], Q 2 1 [16, 17], Q 3 1 [4, 16, 17], Q 4 1 [16, 17], Q 5 1 [8, 9, 14, 15, 16, 17], Q 6 1 [7, 8, 9, 14, 15, 16, 17], Q 7 1 [8, 9, 14, 15, 16, 17], Q 8 1 [9, 14, 15, 16, 17], Q 9 2 [14, 15, 16, 17], Q 10 1 (r 12 6 []), Q 11 1 (r 12 6 []), Q 12 1 (r 13 5 []), Q 13 2 [14, 15, 16, 17], Q 14 1 [15, 16, 17], Q 15 0 [], Q 16 1 [17], Q 17 0 []], .node (Q 0 1 [14, 15, 16, 17]) <| .node (Q 1 1 [14, 15, 16, 17]) <| .node (Q 2 1 [16, 17]) <| .node (Q 3 1 [4, 16, 17]) <| .node (Q 4 1 [16, 17]) <| .node (Q 5 1 [8, 9, 14, 15, 16, 17]) <| .node (Q 6 1 [7, 8, 9, 14, 15, 16, 17]) <| .node (Q 7 1 [8, 9, 14, 15, 16, 17]) <| .node (Q 8 1 [9, 14, 15, 16, 17]) <| .node (Q 9 2 [14, 15, 16, 17]) <| .node (Q 10 1 (r 12 6 [])) <| .node (Q 11 1 (r 12 6 [])) <| .node (Q 12 1 (r 13 5 [])) <| .node (Q 13 2 [14, 15, 16, 17]) <| .node (Q 14 1 [15, 16, 17]) <| .node (Q 15 0 []) <| .node (Q 16 1 [17]) <| .node (Q 17 0 []) <| .done),
  (16, [K [] [0] 68, K [] [9] 69, K [0, 1] [68, 69] 70, K [2] [70] 71, K [] [0] 72, K [] [9] 73, K [5] [73] 74, K [4, 6] [72, 74] 75, K [7] [75] 76, K [3, 8] [71, 76] 77, K [9] [77] 78], [Q 0 1 [2, 3, 9, 10], Q 1 1 [2, 3, 9, 10], Q 2 1 [3, 9, 10], Q 3 2 [9, 10], Q 4 1 [7, 8, 9, 10], Q 5 1 (r 6 5 []), Q 6 1 [7, 8, 9, 10], Q 7 1 [8, 9, 10], Q 8 2 [9, 10], Q 9 0 [], Q 10 1 []], .node (Q 0 1 [2, 3, 9, 10]) <| .node (Q 1 1 [2, 3, 9, 10]) <| .node (Q 2 1 [3, 9, 10]) <| .node (Q 3 2 [9, 10]) <| .node (Q 4 1 [7, 8, 9, 10]) <| .node (Q 5 1 (r 6 5 [])) <| .node (Q 6 1 [7, 8, 9, 10]) <| .node (Q 7 1 [8, 9, 10]) <| .node (Q 8 2 [9, 10]) <| .node (Q 9 0 []) <| .node (Q 10 1 []) <| .done),
  (11, [K [] [0] 42, K [] [7] 43, K [] [0] 44, K [] [7] 45, K [3] [45] 46, K [] [0] 47, K [] [7] 48, K [6] [48] 49, K [5, 7] [47, 49] 50, K [8] [50] 51, K [] [0] 52, K [] [7] 53, K [10, 11] [52, 53] 54, K [12] [54] 55, K (0 :: 1 :: 0 :: 1 :: (r 5 5 [13])) [42, 43] 56, J (14 :: 9 :: 0 :: 1 :: (r 5 5 [13])) [56, 51], K (2 :: 4 :: (r 0 16 [])) [44, 46] 57, J (16 :: 13 :: 15 :: (r 0 16 [])) [57, 55]], [Q 0 1 [14, 15, 16, 17], Q 1 1 [14, 15, 16, 17], Q 2 1 [16, 17], Q 3 1 [4, 16, 17], Q 4 1 [16, 17], Q 5 1 [8, 9, 14, 15, 16, 17], Q 6 1 [7, 8, 9, 14, 15, 16, 17], Q 7 1 [8, 9, 14, 15, 16, 17], Q 8 1 [9, 14, 15, 16, 17], Q 9 2 [14, 15, 16, 17], Q 10 1 (r 12 6 []), Q 11 1 (r 12 6 []), Q 12 1 (r 13 5 []), Q 13 2 [14, 15, 16, 17], Q 14 1 [15, 16, 17], Q 15 0 [], Q 16 1 [17], Q 17 0 []], .node (Q 0 1 [14, 15, 16, 17]) <| .node (Q 1 1 [14, 15, 16, 17]) <| .node (Q 2 1 [16, 17]) <| .node (Q 3 1 [4, 16, 17]) <| .node (Q 4 1 [16, 17]) <| .node (Q 5 1 [8, 9, 14, 15, 16, 17]) <| .node (Q 6 1 [7, 8, 9, 14, 15, 16, 17]) <| .node (Q 7 1 [8, 9, 14, 15, 16, 17]) <| .node (Q 8 1 [9, 14, 15, 16, 17]) <| .node (Q 9 2 [14, 15, 16, 17]) <| .node (Q 10 1 (r 12 6 [])) <| .node (Q 11 1 (r 12 6 [])) <| .node (Q 12 1 (r 13 5 [])) <| .node (Q 13 2 [14, 15, 16, 17]) <| .node (Q 14 1 [15, 16, 17]) <| .node (Q 15 0 []) <| .node (Q 16 1 [17]) <| .node (Q 17 0 []) <| .done),
  (5, [K [] [7] 17, K [] [2] 18, K [0, 1] [17, 18] 19, K [2] [19] 20, K [3] [0, 20] 21, K [3] [7, 20] 22, K [4, 5, 3] [21, 22, 20] 23, K [6, 3] [23, 20] 24, K [3] [0, 20] 25, K [3] [7, 20] 26, K [9, 3] [26, 20] 27, K [8, 10, 3] [25, 27, 20] 28, K [11, 3] [28, 20] 29, K [7, 12, 3, 3] [24, 29, 20] 30, K [13, 3] [30, 20] 31, K [3, 14] [20, 31] 32], [Q 0 1 (r 2 14 []), Q 1 1 (r 2 14 []), Q 2 1 (r 3 13 []), Q 3 1 (r 4 12 []), Q 4 1 [6, 7, 13, 14, 15], Q 5 1 [6, 7, 13, 14, 15], Q 6 1 [7, 13, 14, 15], Q 7 2 [13, 14, 15], Q 8 1 (r 11 5 []), Q 9 1 (r 10 6 []), Q 10 1 (r 11 5 []), Q 11 1 [12, 13, 14, 15], Q 12 2 [13, 14, 15], Q 13 0 [], Q 14 1 [15], Q 15 1 []], .node (Q 0 1 (r 2 14 [])) <| .node (Q 1 1 (r 2 14 [])) <| .node (Q 2 1 (r 3 13 [])) <| .node (Q 3 1 (r 4 12 [])) <| .node (Q 4 1 [6, 7, 13, 14, 15]) <| .node (Q 5 1 [6, 7, 13, 14, 15]) <| .node (Q 6 1 [7, 13, 14, 15]) <| .node (Q 7 2 [13, 14, 15]) <| .node (Q 8 1 (r 11 5 [])) <| .node (Q 9 1 (r 10 6 [])) <| .node (Q 10 1 (r 11 5 [])) <| .node (Q 11 1 [12, 13, 14, 15]) <| .node (Q 12 2 [13, 14, 15]) <| .node (Q 13 0 []) <| .node (Q 14 1 [15]) <| .node (Q 15 1 []) <| .done)]
def F140 : CFun := ⟨n133, .seq (.region <|
 m p7 q0 <|
 .done) <|
 .seq (.region <|
 m p12 t2 <|
 o p13 (.ar .add t12 q3) <|
 m p8 t13 <|
 .done) <|
 .seq (.seq (.region <|
 m p9 q1 <|
 .done) <|
 .block n0 <| .loop <| .seq (.seq (.region <|
 m p14 t9 <|
 o p15 (.cmp .lss t14 q17) <|
 .done) <|
 .cond t15 (.skip) <|
 .exit n0) <|
 .seq (.block n1 <| .seq (.block n2 <| .loop <| .seq (.seq (.region <|
 m p18 t8 <|
 m p19 t3 <|
 o p20 (.cmp .lss t18 t19) <|
 m p21 t20 <|
 .step ⟨(some p22), (some (p21, true)), .op (.move t1)⟩ [] <|
 .step ⟨(some p23), (some (p21, true)), .op (.move t8)⟩ [] <|
 .step ⟨(some p24), (some (p21, true)), .op (.idxS n1 t22 t23)⟩ [] <|
 .step ⟨(some p25), (some (p21, true)), .op (.load1 t24)⟩ [] <|
 .step ⟨(some p26), (some (p21, true)), .op (.move t1)⟩ [] <|
 .step ⟨(some p27), (some (p21, true)), .op (.move t8)⟩ [] <|
 .step ⟨(some p28), (some (p21, true)), .op (.ar .sub t27 q3)⟩ [] <|
 .step ⟨(some p29), (some (p21, true)), .op (.idxS n1 t26 t28)⟩ [] <|
 .step ⟨(some p30), (some (p21, true)), .op (.load1 t29)⟩ [] <|
 .step ⟨(some p31), (some (p21, true)), .call n141 [t25, t30]⟩ [] <|
 .step ⟨(some p32), (some (p21, true)), .op (.not t31)⟩ [] <|
 o p33 (.pick t21 t32 q0) <|
 .done) <|
 .cond t33 (.skip) <|
 .exit n2) <|
 .block n3 <| .region <|
 m p34 t8 <|
 o p35 (.ar .add t34 q3) <|
 m p8 t35 <|
 .done) <|
 .seq (.seq (.region <|
 m p36 t8 <|
 m p37 t3 <|
 o p38 (.cmp .eql t36 t37) <|
 .done) <|
 .cond t38 (.seq (.region <|
 m p7 q12 <|
 .done) <|
 .ret) <|
 .skip) <|
 .seq (.seq (.region <|
 m p39 t3 <|
 m p40 t2 <|
 o p41 (.ar .sub t39 t40) <|
 o p42 (.cmp .lss t41 q45) <|
 .done) <|
 .cond t42 (.seq (.region <|
 m p7 q0 <|
 .done) <|
 .ret) <|
 .skip) <|
 .seq (.region <|
 m p43 t1 <|
 m p44 t8 <|
 m p45 t1 <|
 m p46 t8 <|
 o p47 (.ar .sub t46 q3) <|
 m p48 t1 <|
 m p49 t8 <|
 o p50 (.ar .sub t49 q3) <|
 o p51 (.idxS n1 t48 t50) <|
 o p52 (.load1 t51) <|
 m p53 t1 <|
 m p54 t8 <|
 o p55 (.idxS n1 t53 t54) <|
 o p56 (.load1 t55) <|
 o p57 (.idxS n1 t43 t44) <|
 e (.store1 t57 t52) <|
 o p58 (.idxS n1 t45 t47) <|
 e (.store1 t58 t56) <|
 .done) <|
 .seq (.seq (.region <|
 m p59 t8 <|
 m p60 t2 <|
 o p61 (.ar .sub t59 t60) <|
 o p62 (.cmp .geq t61 q2) <|
 .done) <|
 .cond t62 (.seq (.region <|
 m p63 t8 <|
 o p64 (.ar .sub t63 q3) <|
 m p10 t64 <|
 .done) <|
 .block n4 <| .loop <| .seq (.seq (.region <|
 m p65 t10 <|
 o p66 (.cmp .geq t65 q3) <|
 .done) <|
 .cond t66 (.skip) <|
 .exit n4) <|
 .seq (.block n5 <| .seq (.seq (.region <|
 m p69 t1 <|
 m p70 t10 <|
 o p71 (.idxS n1 t69 t70) <|
 o p72 (.load1 t71) <|
 m p73 t1 <|
 m p74 t10 <|
 o p75 (.ar .sub t74 q3) <|
 o p76 (.idxS n1 t73 t75) <|
 o p77 (.load1 t76) <|
 a p78 n141 [t72, t77] <|
 o p79 (.not t78) <|
 .done) <|
 .cond t79 (.exit n4) <|
 .skip) <|
 .region <|
 m p80 t1 <|
 m p81 t10 <|
 m p82 t1 <|
 m p83 t10 <|
 o p84 (.ar .sub t83 q3) <|
 m p85 t1 <|
 m p86 t10 <|
 o p87 (.ar .sub t86 q3) <|
 o p88 (.idxS n1 t85 t87) <|
 o p89 (.load1 t88) <|
 m p90 t1 <|
 m p91 t10 <|
 o p92 (.idxS n1 t90 t91) <|
 o p93 (.load1 t92) <|
 o p94 (.idxS n1 t80 t81) <|
 e (.store1 t94 t89) <|
 o p95 (.idxS n1 t82 t84) <|
 e (.store1 t95 t93) <|
 .done) <|
 .region <|
 m p67 t10 <|
 o p68 (.ar .sub t67 q3) <|
 m p10 t68 <|
 .done) <|
 .skip) <|
 .seq (.region <|
 m p96 t3 <|
 m p97 t8 <|
 o p98 (.ar .sub t96 t97) <|
 o p99 (.cmp .geq t98 q2) <|
 .done) <|
 .cond t99 (.seq (.region <|
 m p100 t8 <|
 o p101 (.ar .add t100 q3) <|
 m p11 t101 <|
 .done) <|
 .block n6 <| .loop <| .seq (.seq (.region <|
 m p102 t11 <|
 m p103 t3 <|
 o p104 (.cmp .lss t102 t103) <|
 .done) <|
 .cond t104 (.skip) <|
 .exit n6) <|
 .seq (.block n7 <| .seq (.seq (.region <|
 m p107 t1 <|
 m p108 t11 <|
 o p109 (.idxS n1 t107 t108) <|
 o p110 (.load1 t109) <|
 m p111 t1 <|
 m p112 t11 <|
 o p113 (.ar .sub t112 q3) <|
 o p114 (.idxS n1 t111 t113) <|
 o p115 (.load1 t114) <|
 a p116 n141 [t110, t115] <|
 o p117 (.not t116) <|
 .done) <|
 .cond t117 (.exit n6) <|
 .skip) <|
 .region <|
 m p118 t1 <|
 m p119 t11 <|
 m p120 t1 <|
 m p121 t11 <|
 o p122 (.ar .sub t121 q3) <|
 m p123 t1 <|
 m p124 t11 <|
 o p125 (.ar .sub t124 q3) <|
 o p126 (.idxS n1 t123 t125) <|
 o p127 (.load1 t126) <|
 m p128 t1 <|
 m p129 t11 <|
 o p130 (.idxS n1 t128 t129) <|
 o p131 (.load1 t130) <|
 o p132 (.idxS n1 t118 t119) <|
 e (.store1 t132 t127) <|
 o p133 (.idxS n1 t120 t122) <|
 e (.store1 t133 t131) <|
 .done) <|
 .region <|
 m p105 t11 <|
 o p106 (.ar .add t105 q3) <|
 m p11 t106 <|
 .done) <|
 .skip) <|
 .region <|
 m p16 t9 <|
 o p17 (.ar .add t16 q3) <|
 m p9 t17 <|
 .done) <|
 .seq (.region <|
 m p7 q0 <|
 .done) <|
 .ret, [.tmp p7]⟩
theorem c140 : compFn Tryz.prog pl140 Tryz.f140 = some F140 := by kernel_rfl

def pl141 : Plans := []
def F141 : CFun := ⟨n17, .seq (.region <|
 m p5 q0 <|
 .done) <|
 .seq (.region <|
 m p6 t1 <|
 a p7 n156 [t6] <|
 m p8 t7 <|
 .step ⟨(some p9), (some (p8, true)), .op (.move t2)⟩ [] <|
 .step ⟨(some p10), (some (p8, true)), .call n156 [t9]⟩ [] <|
 .step ⟨(some p11), (some (p8, true)), .op (.not t10)⟩ [] <|
 o p12 (.pick t8 t11 q0) <|
 m p13 t12 <|
 .step ⟨(some p14), (some (p13, false)), .op (.move t1)⟩ [] <|
 .step ⟨(some p15), (some (p13, false)), .op (.move t2)⟩ [] <|
 .step ⟨(some p16), (some (p13, false)), .op (.cmp .lss t14 t15)⟩ [] <|
 o p17 (.pick t13 q12 t16) <|
 m p5 t17 <|
 .done) <|
 .ret, [.tmp p5]⟩
theorem c141 : compFn Tryz.prog pl141 Tryz.f141 = some F141 := by kernel_rfl

def pl142 : Plans := [(8, [K [] [0] 65, K [] [9] 66, K [] [0] 67, K [] [10] 68, K [] [0] 69, K [] [10] 70, K [4, 5] [69, 70] 71, K [6] [71] 72, K [] [0] 73, K [] [9] 74, K [8, 9] [73, 74] 75, K [10] [75] 76, K [0, 1, 0, 1, 4, 5, 6, 7, 11] [65, 66] 77, J [12, 7, 0, 1, 4, 5, 6, 7, 11] [77, 72], K (2 :: 3 :: (r 0 14 [])) [67, 68] 78, J (14 :: 11 :: 13 :: (r 0 14 [])) [78, 76]], [Q 0 1 [12, 13, 14, 15], Q 1 1 [12, 13, 14, 15], Q 2 1 [14, 15], Q 3 1 [14, 15], Q 4 1 [6, 7, 12, 13, 14, 15], Q 5 1 [6, 7, 12, 13, 14, 15], Q 6 1 [7, 12, 13, 14, 15], Q 7 2 [12, 13, 14, 15], Q 8 1 (r 10 6 []), Q 9 1 (r 10 6 []), Q 10 1 (r 11 5 []), Q 11 2 [12, 13, 14, 15], Q 12 1 [13, 14, 15], Q 13 0 [], Q 14 1 [15], Q 15 0 []], .node (Q 0 1 [12, 13, 14, 15]) <| .node (Q 1 1 [12, 13, 14, 15]) <| .node (Q 2 1 [14, 15]) <| .node (Q 3 1 [14, 15]) <| .node (Q 4 1 [6, 7, 12, 13, 14, 15]) <| .node (Q 5 1 [6, 7, 12, 13, 14, 15]) <| .node (Q 6 1 [7, 12, 13, 14, 15]) <| .node (Q 7 2 [12, 13, 14, 15]) <| .node (Q 8 1 (r 10 6 [])) <| .node (Q 9 1 (r 10 6 [])) <| .node (Q 10 1 (r 11 5 [])) <| .node (Q 11 2 [12, 13, 14, 15]) <| .node (Q 12 1 [13, 14, 15]) <| .node (Q 13 0 []) <| .node (Q 14 1 [15]) <| .node (Q 15 0 []) <| .done),
  (5, [K [] [9] 46, K [] [10] 47, K [0, 1] [46, 47] 48, K [2] [48] 49, K [3] [0, 49] 50, K [3] [1, 49] 51, K [4, 5, 3] [50, 51, 49] 52, K [6, 3] [52, 49] 53, K [3] [0, 49] 54, K [3] [10, 49] 55, K [8, 9, 3] [54, 55, 49] 56, K [10, 3] [56, 49] 57, K [7, 11, 3, 3] [53, 57, 49] 58, K [3, 12] [49, 58] 59], [Q 0 1 (r 2 12 []), Q 1 1 (r 2 12 []), Q 2 1 (r 3 11 []), Q 3 1 (r 4 10 []), Q 4 1 [6, 7, 12, 13], Q 5 1 [6, 7, 12, 13], Q 6 1 [7, 12, 13], Q 7 2 [12, 13], Q 8 1 [10, 11, 12, 13], Q 9 1 [10, 11, 12, 13], Q 10 1 [11, 12, 13], Q 11 2 [12, 13], Q 12 0 [], Q 13 1 []], .node (Q 0 1 (r 2 12 [])) <| .node (Q 1 1 (r 2 12 [])) <| .node (Q 2 1 (r 3 11 [])) <| .node (Q 3 1 (r 4 10 [])) <| .node (Q 4 1 [6, 7, 12, 13]) <| .node (Q 5 1 [6, 7, 12, 13]) <| .node (Q 6 1 [7, 12, 13]) <| .node (Q 7 2 [12, 13]) <| .node (Q 8 1 [10, 11, 12, 13]) <| .node (Q 9 1 [10, 11, 12, 13]) <| .node (Q 10 1 [11, 12, 13]) <| .node (Q 11 2 [12, 13]) <| .node (Q 12 0 []) <| .node (Q 13 1 []) <| .done),
  (3, [K [] [9] 29, K [] [10] 30, K [0, 1] [29, 30] 31, K [2] [31] 32, K [3] [0, 32] 33, K [3] [1, 32] 34, K [4, 5, 3] [33, 34, 32] 35, K [6, 3] [35, 32] 36, K [3] [0, 32] 37, K [3] [9, 32] 38, K [8, 9, 3] [37, 38, 32] 39, K [10, 3] [39, 32] 40, K [7, 11, 3, 3] [36, 40, 32] 41, K [12, 3] [41, 32] 42, K [3, 13] [32, 42] 43], [Q 0 1 (r 2 13 []), Q 1 1 (r 2 13 []), Q 2 1 (r 3 12 []), Q 3 1 (r 4 11 []), Q 4 1 [6, 7, 12, 13, 14], Q 5 1 [6, 7, 12, 13, 14], Q 6 1 [7, 12, 13, 14], Q 7 2 [12, 13, 14], Q 8 1 (r 10 5 []), Q 9 1 (r 10 5 []), Q 10 1 [11, 12, 13, 14], Q 11 2 [12, 13, 14], Q 12 0 [], Q 13 1 [14], Q 14 1 []], .node (Q 0 1 (r 2 13 [])) <| .node (Q 1 1 (r 2 13 [])) <| .node (Q 2 1 (r 3 12 [])) <| .node (Q 3 1 (r 4 11 [])) <| .node (Q 4 1 [6, 7, 12, 13, 14]) <| .node (Q 5 1 [6, 7, 12, 13, 14]) <| .node (Q 6 1 [7, 12, 13, 14]) <| .node (Q 7 2 [12, 13, 14]) <| .node (Q 8 1 (r 10 5 [])) <| .node (Q 9 1 (r 10 5 [])) <| .node (Q 10 1 [11, 12, 13, 14]) <| .node (Q 11 2 [12, 13, 14]) <| .node (Q 12 0 []) <| .node (Q 13 1 [14]) <| .node (Q 14 1 []) <| .done),
  (1, [K [] [0] 11, K [] [1] 12, K [] [0] 13, K [] [3] 14, K [] [0] 15, K [] [3] 16, K [4, 5] [15, 16] 17, K [6] [17] 18, K [] [0] 19, K [] [1] 20, K [8, 9] [19, 20] 21, K [10] [21] 22, K [0, 1, 0, 1, 4, 5, 6, 7, 11] [11, 12] 23, J [12, 7, 0, 1, 4, 5, 6, 7, 11] [23, 18], K (2 :: 3 :: (r 0 14 [])) [13, 14] 24, J (14 :: 11 :: 13 :: (r 0 14 [])) [24, 22]], [Q 0 1 [12, 13, 14, 15], Q 1 1 [12, 13, 14, 15], Q 2 1 [14, 15], Q 3 1 [14, 15], Q 4 1 [6, 7, 12, 13, 14, 15], Q 5 1 [6, 7, 12, 13, 14, 15], Q 6 1 [7, 12, 13, 14, 15], Q 7 2 [12, 13, 14, 15], Q 8 1 (r 10 6 []), Q 9 1 (r 10 6 []), Q 10 1 (r 11 5 []), Q 11 2 [12, 13, 14, 15], Q 12 1 [13, 14, 15], Q 13 0 [], Q 14 1 [15], Q 15 0 []], .node (Q 0 1 [12, 13, 14, 15]) <| .node (Q 1 1 [12, 13, 14, 15]) <| .node (Q 2 1 [14, 15]) <| .node (Q 3 1 [14, 15]) <| .node (Q 4 1 [6, 7, 12, 13, 14, 15]) <| .node (Q 5 1 [6, 7, 12, 13, 14, 15]) <| .node (Q 6 1 [7, 12, 13, 14, 15]) <| .node (Q 7 2 [12, 13, 14, 15]) <| .node (Q 8 1 (r 10 6 [])) <| .node (Q 9 1 (r 10 6 [])) <| .node (Q 10 1 (r 11 5 [])) <| .node (Q 11 2 [12, 13, 14, 15]) <| .node (Q 12 1 [13, 14, 15]) <| .node (Q 13 0 []) <| .node (Q 14 1 [15]) <| .node (Q 15 0 []) <| .done)]
def F142 : CFun := ⟨n84, .seq (.region <|
 m p9 q1 <|
 .done) <|
 .seq (.region <|
 m p12 t1 <|
 m p13 t2 <|
 m p14 t1 <|
 m p15 t4 <|
 m p16 t1 <|
 m p17 t4 <|
 o p18 (.idxS n1 t16 t17) <|
 o p19 (.load1 t18) <|
 m p20 t1 <|
 m p21 t2 <|
 o p22 (.idxS n1 t20 t21) <|
 o p23 (.load1 t22) <|
 o p24 (.idxS n1 t12 t13) <|
 e (.store1 t24 t19) <|
 o p25 (.idxS n1 t14 t15) <|
 e (.store1 t25 t23) <|
 .done) <|
 .seq (.region <|
 m p26 t2 <|
 o p27 (.ar .add t26 q3) <|
 m p28 t3 <|
 o p29 (.ar .sub t28 q3) <|
 m p10 t27 <|
 m p11 t29 <|
 .done) <|
 .seq (.block n0 <| .loop <| .block n1 <| .seq (.block n2 <| .loop <| .seq (.seq (.region <|
 m p30 t10 <|
 m p31 t11 <|
 o p32 (.cmp .leq t30 t31) <|
 m p33 t32 <|
 .step ⟨(some p34), (some (p33, true)), .op (.move t1)⟩ [] <|
 .step ⟨(some p35), (some (p33, true)), .op (.move t2)⟩ [] <|
 .step ⟨(some p36), (some (p33, true)), .op (.idxS n1 t34 t35)⟩ [] <|
 .step ⟨(some p37), (some (p33, true)), .op (.load1 t36)⟩ [] <|
 .step ⟨(some p38), (some (p33, true)), .op (.move t1)⟩ [] <|
 .step ⟨(some p39), (some (p33, true)), .op (.move t10)⟩ [] <|
 .step ⟨(some p40), (some (p33, true)), .op (.idxS n1 t38 t39)⟩ [] <|
 .step ⟨(some p41), (some (p33, true)), .op (.load1 t40)⟩ [] <|
 .step ⟨(some p42), (some (p33, true)), .call n141 [t37, t41]⟩ [] <|
 .step ⟨(some p43), (some (p33, true)), .op (.not t42)⟩ [] <|
 o p44 (.pick t33 t43 q0) <|
 .done) <|
 .cond t44 (.skip) <|
 .exit n2) <|
 .block n3 <| .region <|
 m p45 t10 <|
 o p46 (.ar .add t45 q3) <|
 m p10 t46 <|
 .done) <|
 .seq (.block n4 <| .loop <| .seq (.seq (.region <|
 m p47 t10 <|
 m p48 t11 <|
 o p49 (.cmp .leq t47 t48) <|
 m p50 t49 <|
 .step ⟨(some p51), (some (p50, true)), .op (.move t1)⟩ [] <|
 .step ⟨(some p52), (some (p50, true)), .op (.move t2)⟩ [] <|
 .step ⟨(some p53), (some (p50, true)), .op (.idxS n1 t51 t52)⟩ [] <|
 .step ⟨(some p54), (some (p50, true)), .op (.load1 t53)⟩ [] <|
 .step ⟨(some p55), (some (p50, true)), .op (.move t1)⟩ [] <|
 .step ⟨(some p56), (some (p50, true)), .op (.move t11)⟩ [] <|
 .step ⟨(some p57), (some (p50, true)), .op (.idxS n1 t55 t56)⟩ [] <|
 .step ⟨(some p58), (some (p50, true)), .op (.load1 t57)⟩ [] <|
 .step ⟨(some p59), (some (p50, true)), .call n141 [t54, t58]⟩ [] <|
 o p60 (.pick t50 t59 q0) <|
 .done) <|
 .cond t60 (.skip) <|
 .exit n4) <|
 .block n5 <| .region <|
 m p61 t11 <|
 o p62 (.ar .sub t61 q3) <|
 m p11 t62 <|
 .done) <|
 .seq (.seq (.region <|
 m p63 t10 <|
 m p64 t11 <|
 o p65 (.cmp .gtr t63 t64) <|
 .done) <|
 .cond t65 (.exit n0) <|
 .skip) <|
 .seq (.region <|
 m p66 t1 <|
 m p67 t10 <|
 m p68 t1 <|
 m p69 t11 <|
 m p70 t1 <|
 m p71 t11 <|
 o p72 (.idxS n1 t70 t71) <|
 o p73 (.load1 t72) <|
 m p74 t1 <|
 m p75 t10 <|
 o p76 (.idxS n1 t74 t75) <|
 o p77 (.load1 t76) <|
 o p78 (.idxS n1 t66 t67) <|
 e (.store1 t78 t73) <|
 o p79 (.idxS n1 t68 t69) <|
 e (.store1 t79 t77) <|
 .done) <|
 .seq (.region <|
 m p80 t10 <|
 o p81 (.ar .add t80 q3) <|
 m p10 t81 <|
 .done) <|
 .region <|
 m p82 t11 <|
 o p83 (.ar .sub t82 q3) <|
 m p11 t83 <|
 .done) <|
 .seq (.region <|
 m p84 t10 <|
 m p9 t84 <|
 .done) <|
 .ret, [.tmp p9]⟩
theorem c142 : compFn Tryz.prog pl142 Tryz.f142 = some F142 := by kernel_rfl

def pl143 : Plans := [(21, [K [] [0] 153, K [] [11] 154, K [] [0] 155, K [] [1] 156, K [] [0] 157, K [] [1] 158, K [4, 5] [157, 158] 159, K [6] [159] 160, K [] [0] 161, K [] [11] 162, K [8, 9] [161, 162] 163, K [10] [163] 164, K [0, 1, 0, 1, 4, 5, 6, 7, 11] [153, 154] 165, J [12, 7, 0, 1, 4, 5, 6, 7, 11] [165, 160], K (2 :: 3 :: (r 0 14 [])) [155, 156] 166, J (14 :: 11 :: 13 :: (r 0 14 [])) [166, 164]], [Q 0 1 [12, 13, 14, 15], Q 1 1 [12, 13, 14, 15], Q 2 1 [14, 15], Q 3 1 [14, 15], Q 4 1 [6, 7, 12, 13, 14, 15], Q 5 1 [6, 7, 12, 13, 14, 15], Q 6 1 [7, 12, 13, 14, 15], Q 7 2 [12, 13, 14, 15], Q 8 1 (r 10 6 []), Q 9 1 (r 10 6 []), Q 10 1 (r 11 5 []), Q 11 2 [12, 13, 14, 15], Q 12 1 [13, 14, 15], Q 13 0 [], Q 14 1 [15], Q 15 0 []], .node (Q 0 1 [12, 13, 14, 15]) <| .node (Q 1 1 [12, 13, 14, 15]) <| .node (Q 2 1 [14, 15]) <| .node (Q 3 1 [14, 15]) <| .node (Q 4 1 [6, 7, 12, 13, 14, 15]) <| .node (Q 5 1 [6, 7, 12, 13, 14, 15]) <| .node (Q 6 1 [7, 12, 13, 14, 15]) <| .node (Q 7 2 [12, 13, 14, 15]) <| .node (Q 8 1 (r 10 6 [])) <| .node (Q 9 1 (r 10 6 [])) <| .node (Q 10 1 (r 11 5 [])) <| .node (Q 11 2 [12, 13, 14, 15]) <| .node (Q 12 1 [13, 14, 15]) <| .node (Q 13 0 []) <| .node (Q 14 1 [15]) <| .node (Q 15 0 []) <| .done),
  (18, [K [] [0] 135, K [] [10] 136, K [] [0] 137, K [] [11] 138, K [] [0] 139, K [] [11] 140, K [4, 5] [139, 140] 141, K [6] [141] 142, K [] [0] 143, K [] [10] 144, K [8, 9] [143, 144] 145, K [10] [145] 146, K [0, 1, 0, 1, 4, 5, 6, 7, 11] [135, 136] 147, J [12, 7, 0, 1, 4, 5, 6, 7, 11] [147, 142], K (2 :: 3 :: (r 0 14 [])) [137, 138] 148, J (14 :: 11 :: 13 :: (r 0 14 [])) [148, 146]], [Q 0 1 [12, 13, 14, 15], Q 1 1 [12, 13, 14, 15], Q 2 1 [14, 15], Q 3 1 [14, 15], Q 4 1 [6, 7, 12, 13, 14, 15], Q 5 1 [6, 7, 12, 13, 14, 15], Q 6 1 [7, 12, 13, 14, 15], Q 7 2 [12, 13, 14, 15], Q 8 1 (r 10 6 []), Q 9 1 (r 10 6 []), Q 10 1 (r 11 5 []), Q 11 2 [12, 13, 14, 15], Q 12 1 [13, 14, 15], Q 13 0 [], Q 14 1 [15], Q 15 0 []], .node (Q 0 1 [12, 13, 14, 15]) <| .node (Q 1 1 [12, 13, 14, 15]) <| .node (Q 2 1 [14, 15]) <| .node (Q 3 1 [14, 15]) <| .node (Q 4 1 [6, 7, 12, 13, 14, 15]) <| .node (Q 5 1 [6, 7, 12, 13, 14, 15]) <| .node (Q 6 1 [7, 12, 13, 14, 15]) <| .node (Q 7 2 [12, 13, 14, 15]) <| .node (Q 8 1 (r 10 6 [])) <| .node (Q 9 1 (r 10 6 [])) <| .node (Q 10 1 (r 11 5 [])) <| .node (Q 11 2 [12, 13, 14, 15]) <| .node (Q 12 1 [13, 14, 15]) <| .node (Q 13 0 []) <| .node (Q 14 1 [15]) <| .node (Q 15 0 []) <| .done),
  (15, [K [] [10] 115, K [] [11] 116, K [0, 1] [115, 116] 117, K [2] [117] 118, K [3] [0, 118] 119, K [3] [11, 118] 120, K [4, 5, 3] [119, 120, 118] 121, K [6, 3] [121, 118] 122, K [3] [0, 118] 123, K [3] [1, 118] 124, K [8, 9, 3] [123, 124, 118] 125, K [10, 3] [125, 118] 126, K [7, 11, 3, 3] [122, 126, 118] 127, K [12, 3] [127, 118] 128, K [3, 13] [118, 128] 129], [Q 0 1 (r 2 13 []), Q 1 1 (r 2 13 []), Q 2 1 (r 3 12 []), Q 3 1 (r 4 11 []), Q 4 1 [6, 7, 12, 13, 14], Q 5 1 [6, 7, 12, 13, 14], Q 6 1 [7, 12, 13, 14], Q 7 2 [12, 13, 14], Q 8 1 (r 10 5 []), Q 9 1 (r 10 5 []), Q 10 1 [11, 12, 13, 14], Q 11 2 [12, 13, 14], Q 12 0 [], Q 13 1 [14], Q 14 1 []], .node (Q 0 1 (r 2 13 [])) <| .node (Q 1 1 (r 2 13 [])) <| .node (Q 2 1 (r 3 12 [])) <| .node (Q 3 1 (r 4 11 [])) <| .node (Q 4 1 [6, 7, 12, 13, 14]) <| .node (Q 5 1 [6, 7, 12, 13, 14]) <| .node (Q 6 1 [7, 12, 13, 14]) <| .node (Q 7 2 [12, 13, 14]) <| .node (Q 8 1 (r 10 5 [])) <| .node (Q 9 1 (r 10 5 [])) <| .node (Q 10 1 [11, 12, 13, 14]) <| .node (Q 11 2 [12, 13, 14]) <| .node (Q 12 0 []) <| .node (Q 13 1 [14]) <| .node (Q 14 1 []) <| .done),
  (13, [K [] [10] 99, K [] [11] 100, K [0, 1] [99, 100] 101, K [2] [101] 102, K [3] [0, 102] 103, K [3] [10, 102] 104, K [4, 5, 3] [103, 104, 102] 105, K [6, 3] [105, 102] 106, K [3] [0, 102] 107, K [3] [1, 102] 108, K [8, 9, 3] [107, 108, 102] 109, K [10, 3] [109, 102] 110, K [7, 11, 3, 3] [106, 110, 102] 111, K [3, 12] [102, 111] 112], [Q 0 1 (r 2 12 []), Q 1 1 (r 2 12 []), Q 2 1 (r 3 11 []), Q 3 1 (r 4 10 []), Q 4 1 [6, 7, 12, 13], Q 5 1 [6, 7, 12, 13], Q 6 1 [7, 12, 13], Q 7 2 [12, 13], Q 8 1 [10, 11, 12, 13], Q 9 1 [10, 11, 12, 13], Q 10 1 [11, 12, 13], Q 11 2 [12, 13], Q 12 0 [], Q 13 1 []], .node (Q 0 1 (r 2 12 [])) <| .node (Q 1 1 (r 2 12 [])) <| .node (Q 2 1 (r 3 11 [])) <| .node (Q 3 1 (r 4 10 [])) <| .node (Q 4 1 [6, 7, 12, 13]) <| .node (Q 5 1 [6, 7, 12, 13]) <| .node (Q 6 1 [7, 12, 13]) <| .node (Q 7 2 [12, 13]) <| .node (Q 8 1 [10, 11, 12, 13]) <| .node (Q 9 1 [10, 11, 12, 13]) <| .node (Q 10 1 [11, 12, 13]) <| .node (Q 11 2 [12, 13]) <| .node (Q 12 0 []) <| .node (Q 13 1 []) <| .done),
  (10, [K [] [0] 81, K [] [10] 82, K [] [0] 83, K [] [11] 84, K [] [0] 85, K [] [11] 86, K [4, 5] [85, 86] 87, K [6] [87] 88, K [] [0] 89, K [] [10] 90, K [8, 9] [89, 90] 91, K [10] [91] 92, K [0, 1, 0, 1, 4, 5, 6, 7, 11] [81, 82] 93, J [12, 7, 0, 1, 4, 5, 6, 7, 11] [93, 88], K (2 :: 3 :: (r 0 14 [])) [83, 84] 94, J (14 :: 11 :: 13 :: (r 0 14 [])) [94, 92]], [Q 0 1 [12, 13, 14, 15], Q 1 1 [12, 13, 14, 15], Q 2 1 [14, 15], Q 3 1 [14, 15], Q 4 1 [6, 7, 12, 13, 14, 15], Q 5 1 [6, 7, 12, 13, 14, 15], Q 6 1 [7, 12, 13, 14, 15], Q 7 2 [12, 13, 14, 15], Q 8 1 (r 10 6 []), Q 9 1 (r 10 6 []), Q 10 1 (r 11 5 []), Q 11 2 [12, 13, 14, 15], Q 12 1 [13, 14, 15], Q 13 0 [], Q 14 1 [15], Q 15 0 []], .node (Q 0 1 [12, 13, 14, 15]) <| .node (Q 1 1 [12, 13, 14, 15]) <| .node (Q 2 1 [14, 15]) <| .node (Q 3 1 [14, 15]) <| .node (Q 4 1 [6, 7, 12, 13, 14, 15]) <| .node (Q 5 1 [6, 7, 12, 13, 14, 15]) <| .node (Q 6 1 [7, 12, 13, 14, 15]) <| .node (Q 7 2 [12, 13, 14, 15]) <| .node (Q 8 1 (r 10 6 [])) <| .node (Q 9 1 (r 10 6 [])) <| .node (Q 10 1 (r 11 5 [])) <| .node (Q 11 2 [12, 13, 14, 15]) <| .node (Q 12 1 [13, 14, 15]) <| .node (Q 13 0 []) <| .node (Q 14 1 [15]) <| .node (Q 15 0 []) <| .done),
  (8, [K [] [0] 66, K [] [11] 67, K [] [0] 68, K [] [1] 69, K [] [0] 70, K [] [1] 71, K [4, 5] [70, 71] 72, K [6] [72] 73, K [] [0] 74, K [] [11] 75, K [8, 9] [74, 75] 76, K [10] [76] 77, K [0, 1, 0, 1, 4, 5, 6, 7, 11] [66, 67] 78, J [12, 7, 0, 1, 4, 5, 6, 7, 11] [78, 73], K (2 :: 3 :: (r 0 14 [])) [68, 69] 79, J (14 :: 11 :: 13 :: (r 0 14 [])) [79, 77]], [Q 0 1 [12, 13, 14, 15], Q 1 1 [12, 13, 14, 15], Q 2 1 [14, 15], Q 3 1 [14, 15], Q 4 1 [6, 7, 12, 13, 14, 15], Q 5 1 [6, 7, 12, 13, 14, 15], Q 6 1 [7, 12, 13, 14, 15], Q 7 2 [12, 13, 14, 15], Q 8 1 (r 10 6 []), Q 9 1 (r 10 6 []), Q 10 1 (r 11 5 []), Q 11 2 [12, 13, 14, 15], Q 12 1 [13, 14, 15], Q 13 0 [], Q 14 1 [15], Q 15 0 []], .node (Q 0 1 [12, 13, 14, 15]) <| .node (Q 1 1 [12, 13, 14, 15]) <| .node (Q 2 1 [14, 15]) <| .node (Q 3 1 [14, 15]) <| .node (Q 4 1 [6, 7, 12, 13, 14, 15]) <| .node (Q 5 1 [6, 7, 12, 13, 14, 15]) <| .node (Q 6 1 [7, 12, 13, 14, 15]) <| .node (Q 7 2 [12, 13, 14, 15]) <| .node (Q 8 1 (r 10 6 [])) <| .node (Q 9 1 (r 10 6 [])) <| .node (Q 10 1 (r 11 5 [])) <| .node (Q 11 2 [12, 13, 14, 15]) <| .node (Q 12 1 [13, 14, 15]) <| .node (Q 13 0 []) <| .node (Q 14 1 [15]) <| .node (Q 15 0 []) <| .done),
  (5, [K [] [10] 46, K [] [11] 47, K [0, 1] [46, 47] 48, K [2] [48] 49, K [3] [0, 49] 50, K [3] [11, 49] 51, K [4, 5, 3] [50, 51, 49] 52, K [6, 3] [52, 49] 53, K [3] [0, 49] 54, K [3] [1, 49] 55, K [8, 9, 3] [54, 55, 49] 56, K [10, 3] [56, 49] 57, K [7, 11, 3, 3] [53, 57, 49] 58, K [12, 3] [58, 49] 59, K [3, 13] [49, 59] 60], [Q 0 1 (r 2 13 []), Q 1 1 (r 2 13 []), Q 2 1 (r 3 12 []), Q 3 1 (r 4 11 []), Q 4 1 [6, 7, 12, 13, 14], Q 5 1 [6, 7, 12, 13, 14], Q 6 1 [7, 12, 13, 14], Q 7 2 [12, 13, 14], Q 8 1 (r 10 5 []), Q 9 1 (r 10 5 []), Q 10 1 [11, 12, 13, 14], Q 11 2 [12, 13, 14], Q 12 0 [], Q 13 1 [14], Q 14 1 []], .node (Q 0 1 (r 2 13 [])) <| .node (Q 1 1 (r 2 13 [])) <| .node (Q 2 1 (r 3 12 [])) <| .node (Q 3 1 (r 4 11 [])) <| .node (Q 4 1 [6, 7, 12, 13, 14]) <| .node (Q 5 1 [6, 7, 12, 13, 14]) <| .node (Q 6 1 [7, 12, 13, 14]) <| .node (Q 7 2 [12, 13, 14]) <| .node (Q 8 1 (r 10 5 [])) <| .node (Q 9 1 (r 10 5 [])) <| .node (Q 10 1 [11, 12, 13, 14]) <| .node (Q 11 2 [12, 13, 14]) <| .node (Q 12 0 []) <| .node (Q 13 1 [14]) <| .node (Q 14 1 []) <| .done),
  (3, [K [] [10] 30, K [] [11] 31, K [0, 1] [30, 31] 32, K [2] [32] 33, K [3] [0, 33] 34, K [3] [10, 33] 35, K [4, 5, 3] [34, 35, 33] 36, K [6, 3] [36, 33] 37, K [3] [0, 33] 38, K [3] [1, 33] 39, K [8, 9, 3] [38, 39, 33] 40, K [10, 3] [40, 33] 41, K [7, 11, 3, 3] [37, 41, 33] 42, K [3, 12] [33, 42] 43], [Q 0 1 (r 2 12 []), Q 1 1 (r 2 12 []), Q 2 1 (r 3 11 []), Q 3 1 (r 4 10 []), Q 4 1 [6, 7, 12, 13], Q 5 1 [6, 7, 12, 13], Q 6 1 [7, 12, 13], Q 7 2 [12, 13], Q 8 1 [10, 11, 12, 13], Q 9 1 [10, 11, 12, 13], Q 10 1 [11, 12, 13], Q 11 2 [12, 13], Q 12 0 [], Q 13 1 []], .node (Q 0 1 (r 2 12 [])) <| .node (Q 1 1 (r 2 12 [])) <| .node (Q 2 1 (r 3 11 [])) <| .node (Q 3 1 (r 4 10 [])) <| .node (Q 4 1 [6, 7, 12, 13]) <| .node (Q 5 1 [6, 7, 12, 13]) <| .node (Q 6 1 [7, 12, 13]) <| .node (Q 7 2 [12, 13]) <| .node (Q 8 1 [10, 11, 12, 13]) <| .node (Q 9 1 [10, 11, 12, 13]) <| .node (Q 10 1 [11, 12, 13]) <| .node (Q 11 2 [12, 13]) <| .node (Q 12 0 []) <| .node (Q 13 1 []) <| .done),
  (1, [K [] [0] 12, K [] [1] 13, K [] [0] 14, K [] [3] 15, K [] [0] 16, K [] [3] 17, K [4, 5] [16, 17] 18, K [6] [18] 19, K [] [0] 20, K [] [1] 21, K [8, 9] [20, 21] 22, K [10] [22] 23, K [0, 1, 0, 1, 4, 5, 6, 7, 11] [12, 13] 24, J [12, 7, 0, 1, 4, 5, 6, 7, 11] [24, 19], K (2 :: 3 :: (r 0 14 [])) [14, 15] 25, J (14 :: 11 :: 13 :: (r 0 14 [])) [25, 23]], [Q 0 1 [12, 13, 14, 15], Q 1 1 [12, 13, 14, 15], Q 2 1 [14, 15], Q 3 1 [14, 15], Q 4 1 [6, 7, 12, 13, 14, 15], Q 5 1 [6, 7, 12, 13, 14, 15], Q 6 1 [7, 12, 13, 14, 15], Q 7 2 [12, 13, 14, 15], Q 8 1 (r 10 6 []), Q 9 1 (r 10 6 []), Q 10 1 (r 11 5 []), Q 11 2 [12, 13, 14, 15], Q 12 1 [13, 14, 15], Q 13 0 [], Q 14 1 [15], Q 15 0 []], .node (Q 0 1 [12, 13, 14, 15]) <| .node (Q 1 1 [12, 13, 14, 15]) <| .node (Q 2 1 [14, 15]) <| .node (Q 3 1 [14, 15]) <| .node (Q 4 1 [6, 7, 12, 13, 14, 15]) <| .node (Q 5 1 [6, 7, 12, 13, 14, 15]) <| .node (Q 6 1 [7, 12, 13, 14, 15]) <| .node (Q 7 2 [12, 13, 14, 15]) <| .node (Q 8 1 (r 10 6 [])) <| .node (Q 9 1 (r 10 6 [])) <| .node (Q 10 1 (r 11 5 [])) <| .node (Q 11 2 [12, 13, 14, 15]) <| .node (Q 12 1 [13, 14, 15]) <| .node (Q 13 0 []) <| .node (Q 14 1 [15]) <| .node (Q 15 0 []) <| .done)]
def F143 : CFun := ⟨n168, .seq (.region <|
 m p9 q1 <|
 m p10 q0 <|
 .done) <|
 .seq (.region <|
 m p13 t1 <|
 m p14 t2 <|
 m p15 t1 <|
 m p16 t4 <|
 m p17 t1 <|
 m p18 t4 <|
 o p19 (.idxS n1 t17 t18) <|
 o p20 (.load1 t19) <|
 m p21 t1 <|
 m p22 t2 <|
 o p23 (.idxS n1 t21 t22) <|
 o p24 (.load1 t23) <|
 o p25 (.idxS n1 t13 t14) <|
 e (.store1 t25 t20) <|
 o p26 (.idxS n1 t15 t16) <|
 e (.store1 t26 t24) <|
 .done) <|
 .seq (.region <|
 m p27 t2 <|
 o p28 (.ar .add t27 q3) <|
 m p29 t3 <|
 o p30 (.ar .sub t29 q3) <|
 m p11 t28 <|
 m p12 t30 <|
 .done) <|
 .seq (.block n0 <| .loop <| .seq (.seq (.region <|
 m p31 t11 <|
 m p32 t12 <|
 o p33 (.cmp .leq t31 t32) <|
 m p34 t33 <|
 .step ⟨(some p35), (some (p34, true)), .op (.move t1)⟩ [] <|
 .step ⟨(some p36), (some (p34, true)), .op (.move t11)⟩ [] <|
 .step ⟨(some p37), (some (p34, true)), .op (.idxS n1 t35 t36)⟩ [] <|
 .step ⟨(some p38), (some (p34, true)), .op (.load1 t37)⟩ [] <|
 .step ⟨(some p39), (some (p34, true)), .op (.move t1)⟩ [] <|
 .step ⟨(some p40), (some (p34, true)), .op (.move t2)⟩ [] <|
 .step ⟨(some p41), (some (p34, true)), .op (.idxS n1 t39 t40)⟩ [] <|
 .step ⟨(some p42), (some (p34, true)), .op (.load1 t41)⟩ [] <|
 .step ⟨(some p43), (some (p34, true)), .call n141 [t38, t42]⟩ [] <|
 o p44 (.pick t34 t43 q0) <|
 .done) <|
 .cond t44 (.skip) <|
 .exit n0) <|
 .block n1 <| .region <|
 m p45 t11 <|
 o p46 (.ar .add t45 q3) <|
 m p11 t46 <|
 .done) <|
 .seq (.block n2 <| .loop <| .seq (.seq (.region <|
 m p47 t11 <|
 m p48 t12 <|
 o p49 (.cmp .leq t47 t48) <|
 m p50 t49 <|
 .step ⟨(some p51), (some (p50, true)), .op (.move t1)⟩ [] <|
 .step ⟨(some p52), (some (p50, true)), .op (.move t12)⟩ [] <|
 .step ⟨(some p53), (some (p50, true)), .op (.idxS n1 t51 t52)⟩ [] <|
 .step ⟨(some p54), (some (p50, true)), .op (.load1 t53)⟩ [] <|
 .step ⟨(some p55), (some (p50, true)), .op (.move t1)⟩ [] <|
 .step ⟨(some p56), (some (p50, true)), .op (.move t2)⟩ [] <|
 .step ⟨(some p57), (some (p50, true)), .op (.idxS n1 t55 t56)⟩ [] <|
 .step ⟨(some p58), (some (p50, true)), .op (.load1 t57)⟩ [] <|
 .step ⟨(some p59), (some (p50, true)), .call n141 [t54, t58]⟩ [] <|
 .step ⟨(some p60), (some (p50, true)), .op (.not t59)⟩ [] <|
 o p61 (.pick t50 t60 q0) <|
 .done) <|
 .cond t61 (.skip) <|
 .exit n2) <|
 .block n3 <| .region <|
 m p62 t12 <|
 o p63 (.ar .sub t62 q3) <|
 m p12 t63 <|
 .done) <|
 .seq (.seq (.region <|
 m p64 t11 <|
 m p65 t12 <|
 o p66 (.cmp .gtr t64 t65) <|
 .done) <|
 .cond t66 (.seq (.region <|
 m p67 t1 <|
 m p68 t12 <|
 m p69 t1 <|
 m p70 t2 <|
 m p71 t1 <|
 m p72 t2 <|
 o p73 (.idxS n1 t71 t72) <|
 o p74 (.load1 t73) <|
 m p75 t1 <|
 m p76 t12 <|
 o p77 (.idxS n1 t75 t76) <|
 o p78 (.load1 t77) <|
 o p79 (.idxS n1 t67 t68) <|
 e (.store1 t79 t74) <|
 o p80 (.idxS n1 t69 t70) <|
 e (.store1 t80 t78) <|
 .done) <|
 .seq (.region <|
 m p81 t12 <|
 m p9 t81 <|
 m p10 q12 <|
 .done) <|
 .ret) <|
 .skip) <|
 .seq (.region <|
 m p82 t1 <|
 m p83 t11 <|
 m p84 t1 <|
 m p85 t12 <|
 m p86 t1 <|
 m p87 t12 <|
 o p88 (.idxS n1 t86 t87) <|
 o p89 (.load1 t88) <|
 m p90 t1 <|
 m p91 t11 <|
 o p92 (.idxS n1 t90 t91) <|
 o p93 (.load1 t92) <|
 o p94 (.idxS n1 t82 t83) <|
 e (.store1 t94 t89) <|
 o p95 (.idxS n1 t84 t85) <|
 e (.store1 t95 t93) <|
 .done) <|
 .seq (.region <|
 m p96 t11 <|
 o p97 (.ar .add t96 q3) <|
 m p11 t97 <|
 .done) <|
 .seq (.region <|
 m p98 t12 <|
 o p99 (.ar .sub t98 q3) <|
 m p12 t99 <|
 .done) <|
 .seq (.block n4 <| .loop <| .block n5 <| .seq (.block n6 <| .loop <| .seq (.seq (.region <|
 m p100 t11 <|
 m p101 t12 <|
 o p102 (.cmp .leq t100 t101) <|
 m p103 t102 <|
 .step ⟨(some p104), (some (p103, true)), .op (.move t1)⟩ [] <|
 .step ⟨(some p105), (some (p103, true)), .op (.move t11)⟩ [] <|
 .step ⟨(some p106), (some (p103, true)), .op (.idxS n1 t104 t105)⟩ [] <|
 .step ⟨(some p107), (some (p103, true)), .op (.load1 t106)⟩ [] <|
 .step ⟨(some p108), (some (p103, true)), .op (.move t1)⟩ [] <|
 .step ⟨(some p109), (some (p103, true)), .op (.move t2)⟩ [] <|
 .step ⟨(some p110), (some (p103, true)), .op (.idxS n1 t108 t109)⟩ [] <|
 .step ⟨(some p111), (some (p103, true)), .op (.load1 t110)⟩ [] <|
 .step ⟨(some p112), (some (p103, true)), .call n141 [t107, t111]⟩ [] <|
 o p113 (.pick t103 t112 q0) <|
 .done) <|
 .cond t113 (.skip) <|
 .exit n6) <|
 .block n7 <| .region <|
 m p114 t11 <|
 o p115 (.ar .add t114 q3) <|
 m p11 t115 <|
 .done) <|
 .seq (.block n8 <| .loop <| .seq (.seq (.region <|
 m p116 t11 <|
 m p117 t12 <|
 o p118 (.cmp .leq t116 t117) <|
 m p119 t118 <|
 .step ⟨(some p120), (some (p119, true)), .op (.move t1)⟩ [] <|
 .step ⟨(some p121), (some (p119, true)), .op (.move t12)⟩ [] <|
 .step ⟨(some p122), (some (p119, true)), .op (.idxS n1 t120 t121)⟩ [] <|
 .step ⟨(some p123), (some (p119, true)), .op (.load1 t122)⟩ [] <|
 .step ⟨(some p124), (some (p119, true)), .op (.move t1)⟩ [] <|
 .step ⟨(some p125), (some (p119, true)), .op (.move t2)⟩ [] <|
 .step ⟨(some p126), (some (p119, true)), .op (.idxS n1 t124 t125)⟩ [] <|
 .step ⟨(some p127), (some (p119, true)), .op (.load1 t126)⟩ [] <|
 .step ⟨(some p128), (some (p119, true)), .call n141 [t123, t127]⟩ [] <|
 .step ⟨(some p129), (some (p119, true)), .op (.not t128)⟩ [] <|
 o p130 (.pick t119 t129 q0) <|
 .done) <|
 .cond t130 (.skip) <|
 .exit n8) <|
 .block n9 <| .region <|
 m p131 t12 <|
 o p132 (.ar .sub t131 q3) <|
 m p12 t132 <|
 .done) <|
 .seq (.seq (.region <|
 m p133 t11 <|
 m p134 t12 <|
 o p135 (.cmp .gtr t133 t134) <|
 .done) <|
 .cond t135 (.exit n4) <|
 .skip) <|
 .seq (.region <|
 m p136 t1 <|
 m p137 t11 <|
 m p138 t1 <|
 m p139 t12 <|
 m p140 t1 <|
 m p141 t12 <|
 o p142 (.idxS n1 t140 t141) <|
 o p143 (.load1 t142) <|
 m p144 t1 <|
 m p145 t11 <|
 o p146 (.idxS n1 t144 t145) <|
 o p147 (.load1 t146) <|
 o p148 (.idxS n1 t136 t137) <|
 e (.store1 t148 t143) <|
 o p149 (.idxS n1 t138 t139) <|
 e (.store1 t149 t147) <|
 .done) <|
 .seq (.region <|
 m p150 t11 <|
 o p151 (.ar .add t150 q3) <|
 m p11 t151 <|
 .done) <|
 .region <|
 m p152 t12 <|
 o p153 (.ar .sub t152 q3) <|
 m p12 t153 <|
 .done) <|
 .seq (.region <|
 m p154 t1 <|
 m p155 t12 <|
 m p156 t1 <|
 m p157 t2 <|
 m p158 t1 <|
 m p159 t2 <|
 o p160 (.idxS n1 t158 t159) <|
 o p161 (.load1 t160) <|
 m p162 t1 <|
 m p163 t12 <|
 o p164 (.idxS n1 t162 t163) <|
 o p165 (.load1 t164) <|
 o p166 (.idxS n1 t154 t155) <|
 e (.store1 t166 t161) <|
 o p167 (.idxS n1 t156 t157) <|
 e (.store1 t167 t165) <|
 .done) <|
 .seq (.region <|
 m p168 t12 <|
 m p9 t168 <|
 m p10 q0 <|
 .done) <|
 .ret, [.tmp p9, .tmp p10]⟩
theorem c143 : compFn Tryz.prog pl143 Tryz.f143 = some F143 := by kernel_rfl

def pl144 : Plans := [(6, [K [] [0] 59, K [] [3] 60, K [] [10] 61, K [1, 2] [60, 61] 62, K [] [0] 63, K [] [3] 64, K [] [11] 65, K [5, 6] [64, 65] 66, K [] [0] 67, K [] [3] 68, K [] [11] 69, K [9, 10] [68, 69] 70, K [8, 11] [67, 70] 71, K [12] [71] 72, K [] [0] 73, K [] [3] 74, K [] [10] 75, K [15, 16] [74, 75] 76, K [14, 17] [73, 76] 77, K [18] [77] 78, K (0 :: 3 :: 0 :: 1 :: 2 :: 3 :: (r 8 6 [19])) [59, 62] 79, J (20 :: 13 :: 0 :: 1 :: 2 :: 3 :: (r 8 6 [19])) [79, 72], K (4 :: 7 :: (r 0 22 [])) [63, 66] 80, J (22 :: 19 :: 21 :: (r 0 22 [])) [80, 78]], [Q 0 1 [20, 21, 22, 23], Q 1 1 [3, 20, 21, 22, 23], Q 2 1 [3, 20, 21, 22, 23], Q 3 1 [20, 21, 22, 23], Q 4 1 [22, 23], Q 5 1 [7, 22, 23], Q 6 1 [7, 22, 23], Q 7 1 [22, 23], Q 8 1 [12, 13, 20, 21, 22, 23], Q 9 1 [11, 12, 13, 20, 21, 22, 23], Q 10 1 [11, 12, 13, 20, 21, 22, 23], Q 11 1 [12, 13, 20, 21, 22, 23], Q 12 1 [13, 20, 21, 22, 23], Q 13 2 [20, 21, 22, 23], Q 14 1 (r 18 6 []), Q 15 1 (r 17 7 []), Q 16 1 (r 17 7 []), Q 17 1 (r 18 6 []), Q 18 1 (r 19 5 []), Q 19 2 [20, 21, 22, 23], Q 20 1 [21, 22, 23], Q 21 0 [], Q 22 1 [23], Q 23 0 []], .node (Q 0 1 [20, 21, 22, 23]) <| .node (Q 1 1 [3, 20, 21, 22, 23]) <| .node (Q 2 1 [3, 20, 21, 22, 23]) <| .node (Q 3 1 [20, 21, 22, 23]) <| .node (Q 4 1 [22, 23]) <| .node (Q 5 1 [7, 22, 23]) <| .node (Q 6 1 [7, 22, 23]) <| .node (Q 7 1 [22, 23]) <| .node (Q 8 1 [12, 13, 20, 21, 22, 23]) <| .node (Q 9 1 [11, 12, 13, 20, 21, 22, 23]) <| .node (Q 10 1 [11, 12, 13, 20, 21, 22, 23]) <| .node (Q 11 1 [12, 13, 20, 21, 22, 23]) <| .node (Q 12 1 [13, 20, 21, 22, 23]) <| .node (Q 13 2 [20, 21, 22, 23]) <| .node (Q 14 1 (r 18 6 [])) <| .node (Q 15 1 (r 17 7 [])) <| .node (Q 16 1 (r 17 7 [])) <| .node (Q 17 1 (r 18 6 [])) <| .node (Q 18 1 (r 19 5 [])) <| .node (Q 19 2 [20, 21, 22, 23]) <| .node (Q 20 1 [21, 22, 23]) <| .node (Q 21 0 []) <| .node (Q 22 1 [23]) <| .node (Q 23 0 []) <| .done),
  (5, [K [] [4] 43, K [] [0] 44, K [] [3] 45, K [] [10] 46, K [2, 3] [45, 46] 47, K [1, 4] [44, 47] 48, K [5] [48] 49, K [] [0] 50, K [] [3] 51, K [] [11] 52, K [8, 9] [51, 52] 53, K [7, 10] [50, 53] 54, K [11] [54] 55, K [0, 6, 12] [43, 49, 55] 56, K [13] [56] 57, K [14] [57] 58], [Q 0 1 [13, 14, 15], Q 1 1 [5, 6, 13, 14, 15], Q 2 1 [4, 5, 6, 13, 14, 15], Q 3 1 [4, 5, 6, 13, 14, 15], Q 4 1 [5, 6, 13, 14, 15], Q 5 1 [6, 13, 14, 15], Q 6 2 [13, 14, 15], Q 7 1 (r 11 5 []), Q 8 1 (r 10 6 []), Q 9 1 (r 10 6 []), Q 10 1 (r 11 5 []), Q 11 1 [12, 13, 14, 15], Q 12 2 [13, 14, 15], Q 13 0 [], Q 14 1 [15], Q 15 1 []], .node (Q 0 1 [13, 14, 15]) <| .node (Q 1 1 [5, 6, 13, 14, 15]) <| .node (Q 2 1 [4, 5, 6, 13, 14, 15]) <| .node (Q 3 1 [4, 5, 6, 13, 14, 15]) <| .node (Q 4 1 [5, 6, 13, 14, 15]) <| .node (Q 5 1 [6, 13, 14, 15]) <| .node (Q 6 2 [13, 14, 15]) <| .node (Q 7 1 (r 11 5 [])) <| .node (Q 8 1 (r 10 6 [])) <| .node (Q 9 1 (r 10 6 [])) <| .node (Q 10 1 (r 11 5 [])) <| .node (Q 11 1 [12, 13, 14, 15]) <| .node (Q 12 2 [13, 14, 15]) <| .node (Q 13 0 []) <| .node (Q 14 1 [15]) <| .node (Q 15 1 []) <| .done),
  (3, [K [] [11] 19, K [0] [19] 20, K [] [2] 21, K [1, 2] [20, 21] 22, K [3] [22] 23, K [4] [4, 23] 24, K [4] [0, 23] 25, K [4] [3, 23] 26, K [4] [11, 23] 27, K [7, 8, 4] [26, 27, 23] 28, K [6, 9, 4] [25, 28, 23] 29, K [10, 4] [29, 23] 30, K [4] [0, 23] 31, K [4] [3, 23] 32, K [4] [11, 23] 33, K [13, 14, 4] [32, 33, 23] 34, K [15, 4] [34, 23] 35, K [12, 16, 4] [31, 35, 23] 36, K [17, 4] [36, 23] 37, K [5, 11, 18, 4, 4] [24, 30, 37, 23] 38, K [19, 4] [38, 23] 39, K [4, 20] [23, 39] 40], [Q 0 1 (1 :: (r 3 19 [])), Q 1 1 (r 3 19 []), Q 2 1 (r 3 19 []), Q 3 1 (r 4 18 []), Q 4 1 (r 5 17 []), Q 5 1 [19, 20, 21], Q 6 1 [10, 11, 19, 20, 21], Q 7 1 [9, 10, 11, 19, 20, 21], Q 8 1 [9, 10, 11, 19, 20, 21], Q 9 1 [10, 11, 19, 20, 21], Q 10 1 [11, 19, 20, 21], Q 11 2 [19, 20, 21], Q 12 1 (r 17 5 []), Q 13 1 (r 15 7 []), Q 14 1 (r 15 7 []), Q 15 1 (r 16 6 []), Q 16 1 (r 17 5 []), Q 17 1 [18, 19, 20, 21], Q 18 2 [19, 20, 21], Q 19 0 [], Q 20 1 [21], Q 21 1 []], .node (Q 0 1 (1 :: (r 3 19 []))) <| .node (Q 1 1 (r 3 19 [])) <| .node (Q 2 1 (r 3 19 [])) <| .node (Q 3 1 (r 4 18 [])) <| .node (Q 4 1 (r 5 17 [])) <| .node (Q 5 1 [19, 20, 21]) <| .node (Q 6 1 [10, 11, 19, 20, 21]) <| .node (Q 7 1 [9, 10, 11, 19, 20, 21]) <| .node (Q 8 1 [9, 10, 11, 19, 20, 21]) <| .node (Q 9 1 [10, 11, 19, 20, 21]) <| .node (Q 10 1 [11, 19, 20, 21]) <| .node (Q 11 2 [19, 20, 21]) <| .node (Q 12 1 (r 17 5 [])) <| .node (Q 13 1 (r 15 7 [])) <| .node (Q 14 1 (r 15 7 [])) <| .node (Q 15 1 (r 16 6 [])) <| .node (Q 16 1 (r 17 5 [])) <| .node (Q 17 1 [18, 19, 20, 21]) <| .node (Q 18 2 [19, 20, 21]) <| .node (Q 19 0 []) <| .node (Q 20 1 [21]) <| .node (Q 21 1 []) <| .done)]
def F144 : CFun := ⟨n82, .seq (.region <|
 m p13 t2 <|
 m p11 t13 <|
 .done) <|
 .block n0 <| .loop <| .block n1 <| .seq (.region <|
 m p14 t11 <|
 o p15 (.ar .mul q2 t14) <|
 o p16 (.ar .add t15 q3) <|
 m p12 t16 <|
 .done) <|
 .seq (.seq (.region <|
 m p17 t12 <|
 m p18 t3 <|
 o p19 (.cmp .geq t17 t18) <|
 .done) <|
 .cond t19 (.exit n0) <|
 .skip) <|
 .seq (.seq (.region <|
 m p20 t12 <|
 o p21 (.ar .add t20 q3) <|
 m p22 t3 <|
 o p23 (.cmp .lss t21 t22) <|
 m p24 t23 <|
 .step ⟨(some p25), (some (p24, true)), .op (.move t5)⟩ [] <|
 .step ⟨(some p26), (some (p24, true)), .op (.move t1)⟩ [] <|
 .step ⟨(some p27), (some (p24, true)), .op (.move t4)⟩ [] <|
 .step ⟨(some p28), (some (p24, true)), .op (.move t12)⟩ [] <|
 .step ⟨(some p29), (some (p24, true)), .op (.ar .add t27 t28)⟩ [] <|
 .step ⟨(some p30), (some (p24, true)), .op (.idxS n2 t26 t29)⟩ [] <|
 .step ⟨(some p31), (some (p24, true)), .op (.loadN n2 t30)⟩ [] <|
 .step ⟨(some p32), (some (p24, true)), .op (.move t1)⟩ [] <|
 .step ⟨(some p33), (some (p24, true)), .op (.move t4)⟩ [] <|
 .step ⟨(some p34), (some (p24, true)), .op (.move t12)⟩ [] <|
 .step ⟨(some p35), (some (p24, true)), .op (.ar .add t33 t34)⟩ [] <|
 .step ⟨(some p36), (some (p24, true)), .op (.ar .add t35 q3)⟩ [] <|
 .step ⟨(some p37), (some (p24, true)), .op (.idxS n2 t32 t36)⟩ [] <|
 .step ⟨(some p38), (some (p24, true)), .op (.loadN n2 t37)⟩ [] <|
 .step ⟨(some p39), (some (p24, true)), .callv t25 [t31, t38]⟩ [] <|
 .step ⟨(some p40), (some (p24, true)), .op (.cmp .lss t39 q1)⟩ [] <|
 o p41 (.pick t24 t40 q0) <|
 .done) <|
 .cond t41 (.region <|
 m p42 t12 <|
 o p43 (.ar .add t42 q3) <|
 m p12 t43 <|
 .done) <|
 .skip) <|
 .seq (.seq (.region <|
 m p44 t5 <|
 m p45 t1 <|
 m p46 t4 <|
 m p47 t11 <|
 o p48 (.ar .add t46 t47) <|
 o p49 (.idxS n2 t45 t48) <|
 o p50 (.loadN n2 t49) <|
 m p51 t1 <|
 m p52 t4 <|
 m p53 t12 <|
 o p54 (.ar .add t52 t53) <|
 o p55 (.idxS n2 t51 t54) <|
 o p56 (.loadN n2 t55) <|
 .step ⟨(some p57), none, .callv t44 [t50, t56]⟩ [] <|
 o p58 (.cmp .lss t57 q1) <|
 o p59 (.not t58) <|
 .done) <|
 .cond t59 (.ret) <|
 .skip) <|
 .seq (.region <|
 m p60 t1 <|
 m p61 t4 <|
 m p62 t11 <|
 o p63 (.ar .add t61 t62) <|
 m p64 t1 <|
 m p65 t4 <|
 m p66 t12 <|
 o p67 (.ar .add t65 t66) <|
 m p68 t1 <|
 m p69 t4 <|
 m p70 t12 <|
 o p71 (.ar .add t69 t70) <|
 o p72 (.idxS n2 t68 t71) <|
 o p73 (.loadN n2 t72) <|
 m p74 t1 <|
 m p75 t4 <|
 m p76 t11 <|
 o p77 (.ar .add t75 t76) <|
 o p78 (.idxS n2 t74 t77) <|
 o p79 (.loadN n2 t78) <|
 o p80 (.idxS n2 t60 t63) <|
 e (.storeN n2 t80 t73) <|
 o p81 (.idxS n2 t64 t67) <|
 e (.storeN n2 t81 t79) <|
 .done) <|
 .region <|
 m p82 t12 <|
 m p11 t82 <|
 .done, []⟩
theorem c144 : compFn Tryz.prog pl144 Tryz.f144 = some F144 := by kernel_rfl

def pl145 : Plans := []
def F145 : CFun := ⟨n7, .seq (.region <|
 m p3 q62 <|
 .done) <|
 .seq (.region <|
 m p4 t1 <|
 o p5 (.conv .u64 t4) <|
 a p6 n98 [t5] <|
 o p7 (.ar .shl q43 t6) <|
 m p3 t7 <|
 .done) <|
 .ret, [.tmp p3]⟩
theorem c145 : compFn Tryz.prog pl145 Tryz.f145 = some F145 := by kernel_rfl

def pl146 : Plans := [(3, [K [] [0] 21, K [0] [21] 22, K [1] [22] 23, K [] [0] 24, K [3] [24] 25, K [4] [25] 26, K [5] [26] 27, K [2, 6] [23, 27] 28, K (0 :: (r 0 8 [])) [21] 29, J (8 :: 7 :: (r 0 8 [])) [29, 28]], [Q 0 1 [1, 2, 7, 8, 9], Q 1 1 [2, 7, 8, 9], Q 2 2 [7, 8, 9], Q 3 1 (r 4 6 []), Q 4 1 (r 5 5 []), Q 5 2 [6, 7, 8, 9], Q 6 1 [7, 8, 9], Q 7 1 [8, 9], Q 8 1 [9], Q 9 0 []], .node (Q 0 1 [1, 2, 7, 8, 9]) <| .node (Q 1 1 [2, 7, 8, 9]) <| .node (Q 2 2 [7, 8, 9]) <| .node (Q 3 1 (r 4 6 [])) <| .node (Q 4 1 (r 5 5 [])) <| .node (Q 5 2 [6, 7, 8, 9]) <| .node (Q 6 1 [7, 8, 9]) <| .node (Q 7 1 [8, 9]) <| .node (Q 8 1 [9]) <| .node (Q 9 0 []) <| .done),
  (2, [K [] [0] 12, K [0] [12] 13, K [1] [13] 14, K [] [0] 15, K [3] [15] 16, K [4] [16] 17, K [5] [17] 18, K [2, 6] [14, 18] 19, K (0 :: (r 0 8 [])) [12] 20, J (8 :: 7 :: (r 0 8 [])) [20, 19]], [Q 0 1 [1, 2, 7, 8, 9], Q 1 1 [2, 7, 8, 9], Q 2 2 [7, 8, 9], Q 3 1 (r 4 6 []), Q 4 1 (r 5 5 []), Q 5 2 [6, 7, 8, 9], Q 6 1 [7, 8, 9], Q 7 1 [8, 9], Q 8 1 [9], Q 9 0 []], .node (Q 0 1 [1, 2, 7, 8, 9]) <| .node (Q 1 1 [2, 7, 8, 9]) <| .node (Q 2 2 [7, 8, 9]) <| .node (Q 3 1 (r 4 6 [])) <| .node (Q 4 1 (r 5 5 [])) <| .node (Q 5 2 [6, 7, 8, 9]) <| .node (Q 6 1 [7, 8, 9]) <| .node (Q 7 1 [8, 9]) <| .node (Q 8 1 [9]) <| .node (Q 9 0 []) <| .done),
  (1, [K [] [0] 3, K [0] [3] 4, K [1] [4] 5, K [] [0] 6, K [3] [6] 7, K [4] [7] 8, K [5] [8] 9, K [2, 6] [5, 9] 10, K (0 :: (r 0 8 [])) [3] 11, J (8 :: 7 :: (r 0 8 [])) [11, 10]], [Q 0 1 [1, 2, 7, 8, 9], Q 1 1 [2, 7, 8, 9], Q 2 2 [7, 8, 9], Q 3 1 (r 4 6 []), Q 4 1 (r 5 5 []), Q 5 2 [6, 7, 8, 9], Q 6 1 [7, 8, 9], Q 7 1 [8, 9], Q 8 1 [9], Q 9 0 []], .node (Q 0 1 [1, 2, 7, 8, 9]) <| .node (Q 1 1 [2, 7, 8, 9]) <| .node (Q 2 2 [7, 8, 9]) <| .node (Q 3 1 (r 4 6 [])) <| .node (Q 4 1 (r 5 5 [])) <| .node (Q 5 2 [6, 7, 8, 9]) <| .node (Q 6 1 [7, 8, 9]) <| .node (Q 7 1 [8, 9]) <| .node (Q 8 1 [9]) <| .node (Q 9 0 []) <| .done)]
def F146 : CFun := ⟨n33, .seq (.region <|
 m p3 q62 <|
 .done) <|
 .seq (.region <|
 m p4 t1 <|
 o p5 (.nilchk t4) <|
 o p6 (.load1 t5) <|
 m p7 t1 <|
 o p8 (.nilchk t7) <|
 o p9 (.load1 t8) <|
 o p10 (.ar .shl t9 q63) <|
 o p11 (.ar .xor t6 t10) <|
 o p12 (.nilchk t4) <|
 e (.store1 t12 t11) <|
 .done) <|
 .seq (.region <|
 m p13 t1 <|
 o p14 (.nilchk t13) <|
 o p15 (.load1 t14) <|
 m p16 t1 <|
 o p17 (.nilchk t16) <|
 o p18 (.load1 t17) <|
 o p19 (.ar .shr t18 q64) <|
 o p20 (.ar .xor t15 t19) <|
 o p21 (.nilchk t13) <|
 e (.store1 t21 t20) <|
 .done) <|
 .seq (.region <|
 m p22 t1 <|
 o p23 (.nilchk t22) <|
 o p24 (.load1 t23) <|
 m p25 t1 <|
 o p26 (.nilchk t25) <|
 o p27 (.load1 t26) <|
 o p28 (.ar .shl t27 q65) <|
 o p29 (.ar .xor t24 t28) <|
 o p30 (.nilchk t22) <|
 e (.store1 t30 t29) <|
 .done) <|
 .seq (.region <|
 m p31 t1 <|
 o p32 (.nilchk t31) <|
 o p33 (.load1 t32) <|
 m p3 t33 <|
 .done) <|
 .ret, [.tmp p3]⟩
theorem c146 : compFn Tryz.prog pl146 Tryz.f146 = some F146 := by kernel_rfl

def pl147 : Plans := []
def F147 : CFun := ⟨n18, .seq (.region <|
 m p9 q1 <|
 .done) <|
 .seq (.region <|
 m p10 t1 <|
 m p11 t2 <|
 o p12 (.ar .sub t11 q3) <|
 m p13 t2 <|
 m p14 t2 <|
 o p15 (.ar .add t14 q3) <|
 m p16 t3 <|
 m p17 t4 <|
 a p18 n148 [t10, t12, t13, t15, t16, t17] <|
 m p9 t18 <|
 .done) <|
 .ret, [.tmp p9]⟩
theorem c147 : compFn Tryz.prog pl147 Tryz.f147 = some F147 := by kernel_rfl

def pl148 : Plans := []
def F148 : CFun := ⟨n41, .seq (.region <|
 m p13 q1 <|
 .done) <|
 .seq (.region <|
 m p15 t1 <|
 m p16 t2 <|
 m p17 t3 <|
 m p18 t5 <|
 m p19 t6 <|
 a p20 n157 [t15, t16, t17, t18, t19] <|
 m p14 t20 <|
 o p21 (.extract n0 t14) <|
 o p22 (.extract n1 t14) <|
 m p2 t21 <|
 m p3 t22 <|
 .done) <|
 .seq (.region <|
 m p24 t1 <|
 m p25 t3 <|
 m p26 t4 <|
 m p27 t5 <|
 m p28 t6 <|
 a p29 n157 [t24, t25, t26, t27, t28] <|
 m p23 t29 <|
 o p30 (.extract n0 t23) <|
 o p31 (.extract n1 t23) <|
 m p3 t30 <|
 m p4 t31 <|
 .done) <|
 .seq (.region <|
 m p33 t1 <|
 m p34 t2 <|
 m p35 t3 <|
 m p36 t5 <|
 m p37 t6 <|
 a p38 n157 [t33, t34, t35, t36, t37] <|
 m p32 t38 <|
 o p39 (.extract n0 t32) <|
 o p40 (.extract n1 t32) <|
 m p2 t39 <|
 m p3 t40 <|
 .done) <|
 .seq (.region <|
 m p41 t3 <|
 m p13 t41 <|
 .done) <|
 .ret, [.tmp p13]⟩
theorem c148 : compFn Tryz.prog pl148 Tryz.f148 = some F148 := by kernel_rfl

def pl149 : Plans := []
def F149 : CFun := ⟨n16, .seq (.region <|
 m p3 q1 <|
 m p4 q1 <|
 .done) <|
 .seq (.region <|
 m p8 t1 <|
 o p9 (.conv .u32 t8) <|
 a p10 n158 [t9] <|
 m p7 t10 <|
 o p11 (.extract n0 t7) <|
 o p12 (.extract n1 t7) <|
 m p5 t11 <|
 m p6 t12 <|
 .done) <|
 .seq (.region <|
 m p13 t5 <|
 o p14 (.conv .i64 t13) <|
 m p15 t6 <|
 o p16 (.conv .i64 t15) <|
 m p3 t14 <|
 m p4 t16 <|
 .done) <|
 .ret, [.tmp p3, .tmp p4]⟩
theorem c149 : compFn Tryz.prog pl149 Tryz.f149 = some F149 := by kernel_rfl

def pl150 : Plans := [(1, [K [] [0] 6, K [] [0] 7, K [1] [7] 8, K [2] [8] 9, K [] [] 10, K [] [3] 11, K [0, 3, 4, 5, 4] [6, 9, 10, 11] 12, K (6 :: 6 :: (r 0 7 [])) [12] 5], [Q 0 1 [6, 7], Q 1 1 [2, 3, 6, 7], Q 2 1 [3, 6, 7], Q 3 1 [6, 7], Q 4 0 [], Q 5 2 [6, 7], Q 6 0 [], Q 7 1 []], .node (Q 0 1 [6, 7]) <| .node (Q 1 1 [2, 3, 6, 7]) <| .node (Q 2 1 [3, 6, 7]) <| .node (Q 3 1 [6, 7]) <| .node (Q 5 2 [6, 7]) <| .node (Q 4 0 []) <| .node (Q 6 0 []) <| .node (Q 7 1 []) <| .done)]
def F150 : CFun := ⟨n16, .seq (.region <|
 o p4 (.box t2) <|
 m p5 q7 <|
 .done) <|
 .seq (.region <|
 m p7 t1 <|
 m p8 t1 <|
 o p9 (.nilchk t8) <|
 o p10 (.fieldA n1 t9) <|
 o p12 (.loadN n4 t4) <|
 .step ⟨(some p11), none, .call n90 []⟩ [⟨(some p12), none, .op (.loadN n4 t4)⟩] <|
 a p13 n159 [t7, q7, t10, t11, t12] <|
 m p6 t13 <|
 .done) <|
 .seq (.region <|
 m p14 t6 <|
 a p15 n95 [t14] <|
 .done) <|
 .seq (.region <|
 m p16 t6 <|
 m p5 t16 <|
 .done) <|
 .ret, [.tmp p5]⟩
theorem c150 : compFn Tryz.prog pl150 Tryz.f150 = some F150 := by kernel_rfl

def pl151 : Plans := [(3, [K [] [0] 16, K [] [1] 17, K [] [10] 18, K [1, 2] [17, 18] 19, K [] [0] 20, K [] [2] 21, K [] [10] 22, K [5, 6] [21, 22] 23, K [] [0] 24, K [] [2] 25, K [] [10] 26, K [9, 10] [25, 26] 27, K [8, 11] [24, 27] 28, K [12] [28] 29, K [] [0] 30, K [] [1] 31, K [] [10] 32, K [15, 16] [31, 32] 33, K [14, 17] [30, 33] 34, K [18] [34] 35, K (0 :: 3 :: 0 :: 1 :: 2 :: 3 :: (r 8 6 [19])) [16, 19] 36, J (20 :: 13 :: 0 :: 1 :: 2 :: 3 :: (r 8 6 [19])) [36, 29], K (4 :: 7 :: (r 0 22 [])) [20, 23] 37, J (22 :: 19 :: 21 :: (r 0 22 [])) [37, 35]], [Q 0 1 [20, 21, 22, 23], Q 1 1 [3, 20, 21, 22, 23], Q 2 1 [3, 20, 21, 22, 23], Q 3 1 [20, 21, 22, 23], Q 4 1 [22, 23], Q 5 1 [7, 22, 23], Q 6 1 [7, 22, 23], Q 7 1 [22, 23], Q 8 1 [12, 13, 20, 21, 22, 23], Q 9 1 [11, 12, 13, 20, 21, 22, 23], Q 10 1 [11, 12, 13, 20, 21, 22, 23], Q 11 1 [12, 13, 20, 21, 22, 23], Q 12 1 [13, 20, 21, 22, 23], Q 13 2 [20, 21, 22, 23], Q 14 1 (r 18 6 []), Q 15 1 (r 17 7 []), Q 16 1 (r 17 7 []), Q 17 1 (r 18 6 []), Q 18 1 (r 19 5 []), Q 19 2 [20, 21, 22, 23], Q 20 1 [21, 22, 23], Q 21 0 [], Q 22 1 [23], Q 23 0 []], .node (Q 0 1 [20, 21, 22, 23]) <| .node (Q 1 1 [3, 20, 21, 22, 23]) <| .node (Q 2 1 [3, 20, 21, 22, 23]) <| .node (Q 3 1 [20, 21, 22, 23]) <| .node (Q 4 1 [22, 23]) <| .node (Q 5 1 [7, 22, 23]) <| .node (Q 6 1 [7, 22, 23]) <| .node (Q 7 1 [22, 23]) <| .node (Q 8 1 [12, 13, 20, 21, 22, 23]) <| .node (Q 9 1 [11, 12, 13, 20, 21, 22, 23]) <| .node (Q 10 1 [11, 12, 13, 20, 21, 22, 23]) <| .node (Q 11 1 [12, 13, 20, 21, 22, 23]) <| .node (Q 12 1 [13, 20, 21, 22, 23]) <| .node (Q 13 2 [20, 21, 22, 23]) <| .node (Q 14 1 (r 18 6 [])) <| .node (Q 15 1 (r 17 7 [])) <| .node (Q 16 1 (r 17 7 [])) <| .node (Q 17 1 (r 18 6 [])) <| .node (Q 18 1 (r 19 5 [])) <| .node (Q 19 2 [20, 21, 22, 23]) <| .node (Q 20 1 [21, 22, 23]) <| .node (Q 21 0 []) <| .node (Q 22 1 [23]) <| .node (Q 23 0 []) <| .done)]
def F151 : CFun := ⟨n38, .seq (.region <|
 m p11 q1 <|
 .done) <|
 .block n0 <| .loop <| .seq (.seq (.region <|
 m p12 t11 <|
 m p13 t4 <|
 o p14 (.cmp .lss t12 t13) <|
 .done) <|
 .cond t14 (.skip) <|
 .exit n0) <|
 .seq (.block n1 <| .region <|
 m p17 t1 <|
 m p18 t2 <|
 m p19 t11 <|
 o p20 (.ar .add t18 t19) <|
 m p21 t1 <|
 m p22 t3 <|
 m p23 t11 <|
 o p24 (.ar .add t22 t23) <|
 m p25 t1 <|
 m p26 t3 <|
 m p27 t11 <|
 o p28 (.ar .add t26 t27) <|
 o p29 (.idxS n6 t25 t28) <|
 o p30 (.loadN n6 t29) <|
 m p31 t1 <|
 m p32 t2 <|
 m p33 t11 <|
 o p34 (.ar .add t32 t33) <|
 o p35 (.idxS n6 t31 t34) <|
 o p36 (.loadN n6 t35) <|
 o p37 (.idxS n6 t17 t20) <|
 e (.storeN n6 t37 t30) <|
 o p38 (.idxS n6 t21 t24) <|
 e (.storeN n6 t38 t36) <|
 .done) <|
 .region <|
 m p15 t11 <|
 o p16 (.ar .add t15 q3) <|
 m p11 t16 <|
 .done, []⟩
theorem c151 : compFn Tryz.prog pl151 Tryz.f151 = some F151 := by kernel_rfl

def pl152 : Plans := []
def F152 : CFun := ⟨n19, .seq (.region <|
 m p5 q1 <|
 .done) <|
 .seq (.seq (.region <|
 m p7 t1 <|
 o p8 (.len t7) <|
 m p9 q1 <|
 .done) <|
 .block n0 <| .loop <| .seq (.region <|
 o p10 (.cmp .lss t9 t8) <|
 .done) <|
 .seq (.cond t10 (.skip) <|
 .exit n0) <|
 .seq (.block n1 <| .seq (.region <|
 m p11 t9 <|
 m p6 t11 <|
 .done) <|
 .seq (.region <|
 m p12 t2 <|
 m p13 t1 <|
 m p14 t6 <|
 o p15 (.idxS n2 t13 t14) <|
 o p16 (.loadN n2 t15) <|
 .step ⟨(some p17), none, .callv t12 [t16]⟩ [] <|
 .done) <|
 .cond t17 (.seq (.region <|
 m p18 t6 <|
 m p5 t18 <|
 .done) <|
 .ret) <|
 .skip) <|
 .region <|
 o p19 (.ar .add t9 q3) <|
 m p9 t19 <|
 .done) <|
 .seq (.region <|
 m p5 q20 <|
 .done) <|
 .ret, [.tmp p5]⟩
theorem c152 : compFn Tryz.prog pl152 Tryz.f152 = some F152 := by kernel_rfl

def pl153 : Plans := [(6, [K [] [0] 53, K [] [3] 54, K [] [8] 55, K [1, 2] [54, 55] 56, K [] [0] 57, K [] [3] 58, K [] [9] 59, K [5, 6] [58, 59] 60, K [] [0] 61, K [] [3] 62, K [] [9] 63, K [9, 10] [62, 63] 64, K [8, 11] [61, 64] 65, K [12] [65] 66, K [] [0] 67, K [] [3] 68, K [] [8] 69, K [15, 16] [68, 69] 70, K [14, 17] [67, 70] 71, K [18] [71] 72, K (0 :: 3 :: 0 :: 1 :: 2 :: 3 :: (r 8 6 [19])) [53, 56] 73, J (20 :: 13 :: 0 :: 1 :: 2 :: 3 :: (r 8 6 [19])) [73, 66], K (4 :: 7 :: (r 0 22 [])) [57, 60] 74, J (22 :: 19 :: 21 :: (r 0 22 [])) [74, 72]], [Q 0 1 [20, 21, 22, 23], Q 1 1 [3, 20, 21, 22, 23], Q 2 1 [3, 20, 21, 22, 23], Q 3 1 [20, 21, 22, 23], Q 4 1 [22, 23], Q 5 1 [7, 22, 23], Q 6 1 [7, 22, 23], Q 7 1 [22, 23], Q 8 1 [12, 13, 20, 21, 22, 23], Q 9 1 [11, 12, 13, 20, 21, 22, 23], Q 10 1 [11, 12, 13, 20, 21, 22, 23], Q 11 1 [12, 13, 20, 21, 22, 23], Q 12 1 [13, 20, 21, 22, 23], Q 13 2 [20, 21, 22, 23], Q 14 1 (r 18 6 []), Q 15 1 (r 17 7 []), Q 16 1 (r 17 7 []), Q 17 1 (r 18 6 []), Q 18 1 (r 19 5 []), Q 19 2 [20, 21, 22, 23], Q 20 1 [21, 22, 23], Q 21 0 [], Q 22 1 [23], Q 23 0 []], .node (Q 0 1 [20, 21, 22, 23]) <| .node (Q 1 1 [3, 20, 21, 22, 23]) <| .node (Q 2 1 [3, 20, 21, 22, 23]) <| .node (Q 3 1 [20, 21, 22, 23]) <| .node (Q 4 1 [22, 23]) <| .node (Q 5 1 [7, 22, 23]) <| .node (Q 6 1 [7, 22, 23]) <| .node (Q 7 1 [22, 23]) <| .node (Q 8 1 [12, 13, 20, 21, 22, 23]) <| .node (Q 9 1 [11, 12, 13, 20, 21, 22, 23]) <| .node (Q 10 1 [11, 12, 13, 20, 21, 22, 23]) <| .node (Q 11 1 [12, 13, 20, 21, 22, 23]) <| .node (Q 12 1 [13, 20, 21, 22, 23]) <| .node (Q 13 2 [20, 21, 22, 23]) <| .node (Q 14 1 (r 18 6 [])) <| .node (Q 15 1 (r 17 7 [])) <| .node (Q 16 1 (r 17 7 [])) <| .node (Q 17 1 (r 18 6 [])) <| .node (Q 18 1 (r 19 5 [])) <| .node (Q 19 2 [20, 21, 22, 23]) <| .node (Q 20 1 [21, 22, 23]) <| .node (Q 21 0 []) <| .node (Q 22 1 [23]) <| .node (Q 23 0 []) <| .done),
  (5, [K [] [0] 39, K [] [3] 40, K [] [8] 41, K [1, 2] [40, 41] 42, K [0, 3] [39, 42] 43, K [4] [43] 44, K [] [0] 45, K [] [3] 46, K [] [9] 47, K [7, 8] [46, 47] 48, K [6, 9] [45, 48] 49, K [10] [49] 50, K [5, 11] [44, 50] 51, K [12] [51] 52], [Q 0 1 [4, 5, 12, 13], Q 1 1 [3, 4, 5, 12, 13], Q 2 1 [3, 4, 5, 12, 13], Q 3 1 [4, 5, 12, 13], Q 4 1 [5, 12, 13], Q 5 2 [12, 13], Q 6 1 [10, 11, 12, 13], Q 7 1 (r 9 5 []), Q 8 1 (r 9 5 []), Q 9 1 [10, 11, 12, 13], Q 10 1 [11, 12, 13], Q 11 2 [12, 13], Q 12 0 [], Q 13 1 []], .node (Q 0 1 [4, 5, 12, 13]) <| .node (Q 1 1 [3, 4, 5, 12, 13]) <| .node (Q 2 1 [3, 4, 5, 12, 13]) <| .node (Q 3 1 [4, 5, 12, 13]) <| .node (Q 4 1 [5, 12, 13]) <| .node (Q 5 2 [12, 13]) <| .node (Q 6 1 [10, 11, 12, 13]) <| .node (Q 7 1 (r 9 5 [])) <| .node (Q 8 1 (r 9 5 [])) <| .node (Q 9 1 [10, 11, 12, 13]) <| .node (Q 10 1 [11, 12, 13]) <| .node (Q 11 2 [12, 13]) <| .node (Q 12 0 []) <| .node (Q 13 1 []) <| .done),
  (3, [K [] [9] 17, K [0] [17] 18, K [] [2] 19, K [1, 2] [18, 19] 20, K [3] [20] 21, K [4] [0, 21] 22, K [4] [3, 21] 23, K [4] [9, 21] 24, K [6, 7, 4] [23, 24, 21] 25, K [5, 8, 4] [22, 25, 21] 26, K [9, 4] [26, 21] 27, K [4] [0, 21] 28, K [4] [3, 21] 29, K [4] [9, 21] 30, K [12, 13, 4] [29, 30, 21] 31, K [14, 4] [31, 21] 32, K [11, 15, 4] [28, 32, 21] 33, K [16, 4] [33, 21] 34, K [10, 17, 4, 4] [27, 34, 21] 35, K [4, 18] [21, 35] 36], [Q 0 1 (1 :: (r 3 17 [])), Q 1 1 (r 3 17 []), Q 2 1 (r 3 17 []), Q 3 1 (r 4 16 []), Q 4 1 (r 5 15 []), Q 5 1 [9, 10, 18, 19], Q 6 1 [8, 9, 10, 18, 19], Q 7 1 [8, 9, 10, 18, 19], Q 8 1 [9, 10, 18, 19], Q 9 1 [10, 18, 19], Q 10 2 [18, 19], Q 11 1 [16, 17, 18, 19], Q 12 1 (r 14 6 []), Q 13 1 (r 14 6 []), Q 14 1 (r 15 5 []), Q 15 1 [16, 17, 18, 19], Q 16 1 [17, 18, 19], Q 17 2 [18, 19], Q 18 0 [], Q 19 1 []], .node (Q 0 1 (1 :: (r 3 17 []))) <| .node (Q 1 1 (r 3 17 [])) <| .node (Q 2 1 (r 3 17 [])) <| .node (Q 3 1 (r 4 16 [])) <| .node (Q 4 1 (r 5 15 [])) <| .node (Q 5 1 [9, 10, 18, 19]) <| .node (Q 6 1 [8, 9, 10, 18, 19]) <| .node (Q 7 1 [8, 9, 10, 18, 19]) <| .node (Q 8 1 [9, 10, 18, 19]) <| .node (Q 9 1 [10, 18, 19]) <| .node (Q 10 2 [18, 19]) <| .node (Q 11 1 [16, 17, 18, 19]) <| .node (Q 12 1 (r 14 6 [])) <| .node (Q 13 1 (r 14 6 [])) <| .node (Q 14 1 (r 15 5 [])) <| .node (Q 15 1 [16, 17, 18, 19]) <| .node (Q 16 1 [17, 18, 19]) <| .node (Q 17 2 [18, 19]) <| .node (Q 18 0 []) <| .node (Q 19 1 []) <| .done)]
def F153 : CFun := ⟨n76, .seq (.region <|
 m p11 t2 <|
 m p9 t11 <|
 .done) <|
 .block n0 <| .loop <| .block n1 <| .seq (.region <|
 m p12 t9 <|
 o p13 (.ar .mul q2 t12) <|
 o p14 (.ar .add t13 q3) <|
 m p10 t14 <|
 .done) <|
 .seq (.seq (.region <|
 m p15 t10 <|
 m p16 t3 <|
 o p17 (.cmp .geq t15 t16) <|
 .done) <|
 .cond t17 (.exit n0) <|
 .skip) <|
 .seq (.seq (.region <|
 m p18 t10 <|
 o p19 (.ar .add t18 q3) <|
 m p20 t3 <|
 o p21 (.cmp .lss t19 t20) <|
 m p22 t21 <|
 .step ⟨(some p23), (some (p22, true)), .op (.move t1)⟩ [] <|
 .step ⟨(some p24), (some (p22, true)), .op (.move t4)⟩ [] <|
 .step ⟨(some p25), (some (p22, true)), .op (.move t10)⟩ [] <|
 .step ⟨(some p26), (some (p22, true)), .op (.ar .add t24 t25)⟩ [] <|
 .step ⟨(some p27), (some (p22, true)), .op (.idxS n1 t23 t26)⟩ [] <|
 .step ⟨(some p28), (some (p22, true)), .op (.load1 t27)⟩ [] <|
 .step ⟨(some p29), (some (p22, true)), .op (.move t1)⟩ [] <|
 .step ⟨(some p30), (some (p22, true)), .op (.move t4)⟩ [] <|
 .step ⟨(some p31), (some (p22, true)), .op (.move t10)⟩ [] <|
 .step ⟨(some p32), (some (p22, true)), .op (.ar .add t30 t31)⟩ [] <|
 .step ⟨(some p33), (some (p22, true)), .op (.ar .add t32 q3)⟩ [] <|
 .step ⟨(some p34), (some (p22, true)), .op (.idxS n1 t29 t33)⟩ [] <|
 .step ⟨(some p35), (some (p22, true)), .op (.load1 t34)⟩ [] <|
 .step ⟨(some p36), (some (p22, true)), .call n141 [t28, t35]⟩ [] <|
 o p37 (.pick t22 t36 q0) <|
 .done) <|
 .cond t37 (.region <|
 m p38 t10 <|
 o p39 (.ar .add t38 q3) <|
 m p10 t39 <|
 .done) <|
 .skip) <|
 .seq (.seq (.region <|
 m p40 t1 <|
 m p41 t4 <|
 m p42 t9 <|
 o p43 (.ar .add t41 t42) <|
 o p44 (.idxS n1 t40 t43) <|
 o p45 (.load1 t44) <|
 m p46 t1 <|
 m p47 t4 <|
 m p48 t10 <|
 o p49 (.ar .add t47 t48) <|
 o p50 (.idxS n1 t46 t49) <|
 o p51 (.load1 t50) <|
 a p52 n141 [t45, t51] <|
 o p53 (.not t52) <|
 .done) <|
 .cond t53 (.ret) <|
 .skip) <|
 .seq (.region <|
 m p54 t1 <|
 m p55 t4 <|
 m p56 t9 <|
 o p57 (.ar .add t55 t56) <|
 m p58 t1 <|
 m p59 t4 <|
 m p60 t10 <|
 o p61 (.ar .add t59 t60) <|
 m p62 t1 <|
 m p63 t4 <|
 m p64 t10 <|
 o p65 (.ar .add t63 t64) <|
 o p66 (.idxS n1 t62 t65) <|
 o p67 (.load1 t66) <|
 m p68 t1 <|
 m p69 t4 <|
 m p70 t9 <|
 o p71 (.ar .add t69 t70) <|
 o p72 (.idxS n1 t68 t71) <|
 o p73 (.load1 t72) <|
 o p74 (.idxS n1 t54 t57) <|
 e (.store1 t74 t67) <|
 o p75 (.idxS n1 t58 t61) <|
 e (.store1 t75 t73) <|
 .done) <|
 .region <|
 m p76 t10 <|
 m p9 t76 <|
 .done, []⟩
theorem c153 : compFn Tryz.prog pl153 Tryz.f153 = some F153 := by kernel_rfl

def pl154 : Plans := []
def F154 : CFun := ⟨n15, .seq (.region <|
 m p7 q1 <|
 .done) <|
 .seq (.region <|
 m p8 t1 <|
 m p9 t2 <|
 o p10 (.ar .sub t9 q3) <|
 m p11 t2 <|
 m p12 t2 <|
 o p13 (.ar .add t12 q3) <|
 m p14 t3 <|
 a p15 n155 [t8, t10, t11, t13, t14] <|
 m p7 t15 <|
 .done) <|
 .ret, [.tmp p7]⟩
theorem c154 : compFn Tryz.prog pl154 Tryz.f154 = some F154 := by kernel_rfl

def pl155 : Plans := []
def F155 : CFun := ⟨n36, .seq (.region <|
 m p11 q1 <|
 .done) <|
 .seq (.region <|
 m p13 t1 <|
 m p14 t2 <|
 m p15 t3 <|
 m p16 t5 <|
 a p17 n160 [t13, t14, t15, t16] <|
 m p12 t17 <|
 o p18 (.extract n0 t12) <|
 o p19 (.extract n1 t12) <|
 m p2 t18 <|
 m p3 t19 <|
 .done) <|
 .seq (.region <|
 m p21 t1 <|
 m p22 t3 <|
 m p23 t4 <|
 m p24 t5 <|
 a p25 n160 [t21, t22, t23, t24] <|
 m p20 t25 <|
 o p26 (.extract n0 t20) <|
 o p27 (.extract n1 t20) <|
 m p3 t26 <|
 m p4 t27 <|
 .done) <|
 .seq (.region <|
 m p29 t1 <|
 m p30 t2 <|
 m p31 t3 <|
 m p32 t5 <|
 a p33 n160 [t29, t30, t31, t32] <|
 m p28 t33 <|
 o p34 (.extract n0 t28) <|
 o p35 (.extract n1 t28) <|
 m p2 t34 <|
 m p3 t35 <|
 .done) <|
 .seq (.region <|
 m p36 t3 <|
 m p11 t36 <|
 .done) <|
 .ret, [.tmp p11]⟩
theorem c155 : compFn Tryz.prog pl155 Tryz.f155 = some F155 := by kernel_rfl

def pl156 : Plans := []
def F156 : CFun := ⟨n6, .seq (.region <|
 m p3 q0 <|
 .done) <|
 .seq (.region <|
 m p4 t1 <|
 m p5 t1 <|
 o p6 (.cmp .neq t4 t5) <|
 m p3 t6 <|
 .done) <|
 .ret, [.tmp p3]⟩
theorem c156 : compFn Tryz.prog pl156 Tryz.f156 = some F156 := by kernel_rfl

def pl157 : Plans := [(1, [K [] [4] 12, K [] [0] 13, K [] [2] 14, K [1, 2] [13, 14] 15, K [3] [15] 16, K [] [0] 17, K [] [1] 18, K [5, 6] [17, 18] 19, K [7] [19] 20, K [0, 4, 8] [12, 16, 20] 21, K [9] [21] 22], [Q 0 1 [9, 10], Q 1 1 [3, 4, 9, 10], Q 2 1 [3, 4, 9, 10], Q 3 1 [4, 9, 10], Q 4 2 [9, 10], Q 5 1 [7, 8, 9, 10], Q 6 1 [7, 8, 9, 10], Q 7 1 [8, 9, 10], Q 8 2 [9, 10], Q 9 0 [], Q 10 1 []], .node (Q 0 1 [9, 10]) <| .node (Q 1 1 [3, 4, 9, 10]) <| .node (Q 2 1 [3, 4, 9, 10]) <| .node (Q 3 1 [4, 9, 10]) <| .node (Q 4 2 [9, 10]) <| .node (Q 5 1 [7, 8, 9, 10]) <| .node (Q 6 1 [7, 8, 9, 10]) <| .node (Q 7 1 [8, 9, 10]) <| .node (Q 8 2 [9, 10]) <| .node (Q 9 0 []) <| .node (Q 10 1 []) <| .done)]
def F157 : CFun := ⟨n32, .seq (.region <|
 m p11 q1 <|
 m p12 q1 <|
 .done) <|
 .seq (.seq (.region <|
 m p13 t5 <|
 m p14 t1 <|
 m p15 t3 <|
 o p16 (.idxS n2 t14 t15) <|
 o p17 (.loadN n2 t16) <|
 m p18 t1 <|
 m p19 t2 <|
 o p20 (.idxS n2 t18 t19) <|
 o p21 (.loadN n2 t20) <|
 .step ⟨(some p22), none, .callv t13 [t17, t21]⟩ [] <|
 o p23 (.cmp .lss t22 q1) <|
 .done) <|
 .cond t23 (.seq (.region <|
 m p24 t4 <|
 o p25 (.nilchk t24) <|
 o p26 (.load1 t25) <|
 o p27 (.ar .add t26 q3) <|
 o p28 (.nilchk t24) <|
 e (.store1 t28 t27) <|
 .done) <|
 .seq (.region <|
 m p29 t3 <|
 m p30 t2 <|
 m p11 t29 <|
 m p12 t30 <|
 .done) <|
 .ret) <|
 .skip) <|
 .seq (.region <|
 m p31 t2 <|
 m p32 t3 <|
 m p11 t31 <|
 m p12 t32 <|
 .done) <|
 .ret, [.tmp p11, .tmp p12]⟩
theorem c157 : compFn Tryz.prog pl157 Tryz.f157 = some F157 := by kernel_rfl

def pl158 : Plans := []
def F158 : CFun := ⟨n11, .seq (.region <|
 m p3 q66 <|
 m p4 q66 <|
 .done) <|
 .seq (.region <|
 m p5 t1 <|
 a p6 n161 [t5] <|
 o p7 (.conv .u16 t6) <|
 m p8 t1 <|
 o p9 (.ar .shr t8 q43) <|
 a p10 n161 [t9] <|
 o p11 (.conv .u16 t10) <|
 m p3 t7 <|
 m p4 t11 <|
 .done) <|
 .ret, [.tmp p3, .tmp p4]⟩
theorem c158 : compFn Tryz.prog pl158 Tryz.f158 = some F158 := by kernel_rfl

def pl159 : Plans := [(12, [K [] [0] 59, K [] [1] 60, K [] [2] 61, K [2] [61] 62, K [3] [62] 63, K [4] [63] 64, K [] [13] 65, K [5] [64] 66, K [7, 6] [66, 65] 67, K [] [8] 68, K [] [13] 69, K [9, 10] [68, 69] 70, K [] [9] 71, K [0, 1, 8, 11, 12, 11] [59, 60, 67, 70, 71] 72, K (13 :: 13 :: (r 0 14 [])) [72] 1], [Q 0 1 [13, 14], Q 1 1 [13, 14], Q 2 1 [3, 4, 5, 7, 8, 13, 14], Q 3 1 [4, 5, 7, 8, 13, 14], Q 4 1 [5, 7, 8, 13, 14], Q 5 2 [7, 8, 13, 14], Q 6 1 [8, 13, 14], Q 7 1 [8, 13, 14], Q 8 1 [13, 14], Q 9 2 [11, 13, 14], Q 10 1 [11, 13, 14], Q 11 0 [], Q 12 2 [13, 14], Q 13 0 [], Q 14 1 []], .node (Q 0 1 [13, 14]) <| .node (Q 1 1 [13, 14]) <| .node (Q 2 1 [3, 4, 5, 7, 8, 13, 14]) <| .node (Q 3 1 [4, 5, 7, 8, 13, 14]) <| .node (Q 4 1 [5, 7, 8, 13, 14]) <| .node (Q 5 2 [7, 8, 13, 14]) <| .node (Q 6 1 [8, 13, 14]) <| .node (Q 7 1 [8, 13, 14]) <| .node (Q 8 1 [13, 14]) <| .node (Q 9 2 [11, 13, 14]) <| .node (Q 10 1 [11, 13, 14]) <| .node (Q 12 2 [13, 14]) <| .node (Q 11 0 []) <| .node (Q 13 0 []) <| .node (Q 14 1 []) <| .done),
  (6, [K [] [9] 35, K [] [0] 36, K [1] [36] 37, K [2] [37] 38, K [3] [38] 39, K [] [12] 40, K [4, 5] [39, 40] 41, K [0, 6] [35, 41] 42], [Q 0 2 [7], Q 1 1 [2, 3, 4, 6, 7], Q 2 1 [3, 4, 6, 7], Q 3 1 [4, 6, 7], Q 4 2 [6, 7], Q 5 1 [6, 7], Q 6 2 [7], Q 7 0 []], .node (Q 0 2 [7]) <| .node (Q 1 1 [2, 3, 4, 6, 7]) <| .node (Q 2 1 [3, 4, 6, 7]) <| .node (Q 3 1 [4, 6, 7]) <| .node (Q 4 2 [6, 7]) <| .node (Q 5 1 [6, 7]) <| .node (Q 6 2 [7]) <| .node (Q 7 0 []) <| .done)]
def F159 : CFun := ⟨n74, .seq (.region <|
 o p9 (.box t4) <|
 o p10 (.box t5) <|
 m p11 q7 <|
 .done) <|
 .seq (.seq (.region <|
 m p15 t3 <|
 o p16 (.nilchk t15) <|
 o p17 (.fieldA n0 t16) <|
 o p18 (.load1 t17) <|
 o p19 (.cmp .eql t18 q1) <|
 m p20 t19 <|
 .step ⟨(some p21), (some (p20, false)), .op (.loadN n4 t9)⟩ [] <|
 .step ⟨(some p22), (some (p20, false)), .op (.loadN n4 t10)⟩ [] <|
 .step ⟨(some p23), (some (p20, false)), .call n88 [t21, t22]⟩ [] <|
 .step ⟨(some p24), (some (p20, false)), .call n132 [t23]⟩ [] <|
 o p25 (.pick t20 q12 t24) <|
 .done) <|
 .cond t25 (.seq (.region <|
 m p26 t2 <|
 m p11 t26 <|
 .done) <|
 .ret) <|
 .skip) <|
 .seq (.seq (.region <|
 m p27 t3 <|
 o p28 (.nilchk t27) <|
 o p29 (.fieldA n1 t28) <|
 o p30 (.load1 t29) <|
 o p31 (.len t30) <|
 m p32 q1 <|
 .done) <|
 .block n0 <| .loop <| .seq (.region <|
 o p33 (.cmp .lss t32 t31) <|
 .done) <|
 .seq (.cond t33 (.skip) <|
 .exit n0) <|
 .seq (.block n1 <| .seq (.region <|
 o p34 (.idxS n1 t30 t32) <|
 o p35 (.load1 t34) <|
 m p13 t35 <|
 .done) <|
 .seq (.region <|
 o p36 (.loadN n4 t10) <|
 m p37 t1 <|
 o p38 (.nilchk t37) <|
 o p39 (.fieldA n0 t38) <|
 o p40 (.load1 t39) <|
 m p41 t13 <|
 o p42 (.lookup false v1 false t40 t41) <|
 a p43 n113 [t36, t42] <|
 .done) <|
 .cond t43 (.region <|
 m p44 t2 <|
 m p45 t13 <|
 o p46 (.bslice z21 n1 n1 [(n0, n1, t45)]) <|
 o p47 (.append n8 n1 t44 t46) <|
 m p2 t47 <|
 .done) <|
 .skip) <|
 .region <|
 o p48 (.ar .add t32 q3) <|
 m p32 t48 <|
 .done) <|
 .seq (.seq (.region <|
 m p14 q1 <|
 .done) <|
 .block n2 <| .loop <| .seq (.seq (.region <|
 m p49 t3 <|
 o p50 (.nilchk t49) <|
 o p51 (.fieldA n2 t50) <|
 o p52 (.load1 t51) <|
 o p53 (.eqnil true n0 t52 q13) <|
 m p54 t53 <|
 .step ⟨(some p55), (some (p54, true)), .op (.move t14)⟩ [] <|
 .step ⟨(some p56), (some (p54, true)), .op (.cmp .lss t55 q8)⟩ [] <|
 o p57 (.pick t54 t56 q0) <|
 .done) <|
 .cond t57 (.skip) <|
 .exit n2) <|
 .seq (.block n3 <| .region <|
 m p60 t1 <|
 m p61 t2 <|
 m p62 t3 <|
 o p63 (.nilchk t62) <|
 o p64 (.fieldA n2 t63) <|
 o p65 (.load1 t64) <|
 m p66 t14 <|
 o p67 (.nilchk t65) <|
 o p68 (.idxA n4 n3 t67 t66) <|
 o p69 (.loadN n4 t9) <|
 m p70 t14 <|
 o p72 (.loadN n4 t10) <|
 .step ⟨(some p71), none, .call n111 [t69, t70]⟩ [⟨(some p65), none, .op (.load1 t64)⟩, ⟨(some p72), none, .op (.loadN n4 t10)⟩] <|
 a p73 n159 [t60, t61, t68, t71, t72] <|
 m p2 t73 <|
 .done) <|
 .region <|
 m p58 t14 <|
 o p59 (.ar .add t58 q3) <|
 m p14 t59 <|
 .done) <|
 .seq (.region <|
 m p74 t2 <|
 m p11 t74 <|
 .done) <|
 .ret, [.tmp p11]⟩
theorem c159 : compFn Tryz.prog pl159 Tryz.f159 = some F159 := by kernel_rfl

def pl160 : Plans := [(1, [K [] [0] 10, K [] [2] 11, K [0, 1] [10, 11] 12, K [2] [12] 13, K [] [0] 14, K [] [1] 15, K [4, 5] [14, 15] 16, K [6] [16] 17, K [3, 7] [13, 17] 18], [Q 0 1 [2, 3, 8], Q 1 1 [2, 3, 8], Q 2 1 [3, 8], Q 3 2 [8], Q 4 1 [6, 7, 8], Q 5 1 [6, 7, 8], Q 6 1 [7, 8], Q 7 2 [8], Q 8 0 []], .node (Q 0 1 [2, 3, 8]) <| .node (Q 1 1 [2, 3, 8]) <| .node (Q 2 1 [3, 8]) <| .node (Q 3 2 [8]) <| .node (Q 4 1 [6, 7, 8]) <| .node (Q 5 1 [6, 7, 8]) <| .node (Q 6 1 [7, 8]) <| .node (Q 7 2 [8]) <| .node (Q 8 0 []) <| .done)]
def F160 : CFun := ⟨n28, .seq (.region <|
 m p9 q1 <|
 m p10 q1 <|
 .done) <|
 .seq (.seq (.region <|
 m p11 t1 <|
 m p12 t3 <|
 o p13 (.idxS n1 t11 t12) <|
 o p14 (.load1 t13) <|
 m p15 t1 <|
 m p16 t2 <|
 o p17 (.idxS n1 t15 t16) <|
 o p18 (.load1 t17) <|
 a p19 n141 [t14, t18] <|
 .done) <|
 .cond t19 (.seq (.region <|
 m p20 t4 <|
 o p21 (.nilchk t20) <|
 o p22 (.load1 t21) <|
 o p23 (.ar .add t22 q3) <|
 o p24 (.nilchk t20) <|
 e (.store1 t24 t23) <|
 .done) <|
 .seq (.region <|
 m p25 t3 <|
 m p26 t2 <|
 m p9 t25 <|
 m p10 t26 <|
 .done) <|
 .ret) <|
 .skip) <|
 .seq (.region <|
 m p27 t2 <|
 m p28 t3 <|
 m p9 t27 <|
 m p10 t28 <|
 .done) <|
 .ret, [.tmp p9, .tmp p10]⟩
theorem c160 : compFn Tryz.prog pl160 Tryz.f160 = some F160 := by kernel_rfl

def pl161 : Plans := []
def F161 : CFun := ⟨n26, .seq (.region <|
 m p3 q42 <|
 .done) <|
 .seq (.region <|
 m p6 t1 <|
 o p7 (.ar .and t6 q61) <|
 m p1 t7 <|
 .done) <|
 .seq (.seq (.region <|
 o p8 (.build z24 [(n0, n1, q43), (n1, n1, q60)]) <|
 o p9 (.build z24 [(n0, n1, q59), (n1, n1, q58)]) <|
 o p10 (.build z24 [(n0, n1, q57), (n1, n1, q56)]) <|
 o p11 (.build z24 [(n0, n1, q49), (n1, n1, q67)]) <|
 o p12 (.build z25 [(n0, n2, t8), (n2, n2, t9), (n4, n2, t10), (n6, n2, t11)]) <|
 m p13 q1 <|
 .done) <|
 .block n0 <| .loop <| .seq (.region <|
 o p14 (.cmp .lss t13 q8) <|
 .done) <|
 .seq (.cond t14 (.skip) <|
 .exit n0) <|
 .seq (.block n1 <| .seq (.region <|
 o p15 (.indexN n4 n2 t12 t13) <|
 o p5 (.alloc z24) <|
 e (.storeN n2 t5 t15) <|
 .done) <|
 .region <|
 m p16 t1 <|
 m p17 t1 <|
 o p18 (.fieldA n0 t5) <|
 o p19 (.load1 t18) <|
 o p20 (.ar .shr t17 t19) <|
 o p21 (.ar .or t16 t20) <|
 o p22 (.fieldA n1 t5) <|
 o p23 (.load1 t22) <|
 o p24 (.ar .and t21 t23) <|
 m p1 t24 <|
 .done) <|
 .region <|
 o p25 (.ar .add t13 q3) <|
 m p13 t25 <|
 .done) <|
 .seq (.region <|
 m p26 t1 <|
 m p3 t26 <|
 .done) <|
 .ret, [.tmp p3]⟩
theorem c161 : compFn Tryz.prog pl161 Tryz.f161 = some F161 := by kernel_rfl

end Go.Ev.Fs
