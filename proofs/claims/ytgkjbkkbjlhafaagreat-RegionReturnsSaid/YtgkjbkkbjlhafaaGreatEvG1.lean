/- Printed by compact.py: functions in the evaluator's form. -/
import Derived.Test.YtgkjbkkbjlhafaaGreatEvWd
import Derived.Test.YtgkjbkkbjlhafaaGreatProg
set_option maxRecDepth 100000
namespace Go.Ev.Fs
open Go Go.Proofs Go.Ev

def pl34 : Plans := [(10, [K [] [7] 46, K [] [0] 47, K [1] [47] 48, K [2] [48] 49, K [3] [49] 50, K [4] [50] 51, K [] [9] 52, K [] [10] 53, K [7] [53] 54, K [] [10] 55, K [9] [55] 56, K [] [0] 57, K [11] [57] 58, K [12] [58] 59, K [13] [59] 60, K [14] [60] 61, K [] [2] 62, K [] [11] 63, K [] [8] 64, K [] [10] 65, K [19] [65] 66, K [16, 17, 18, 20] [62, 63, 64, 66] 67, K [5, 6, 8, 10, 15, 21] [51, 52, 54, 56, 61, 67] 68, K [22] [68] 69, K [0, 23, 21] [46, 69] 70, K (24 :: 24 :: (r 0 25 [])) [70] 7], [Q 0 1 [24, 25], Q 1 1 [2, 3, 4, 5, 22, 23, 24, 25], Q 2 1 [3, 4, 5, 22, 23, 24, 25], Q 3 1 [4, 5, 22, 23, 24, 25], Q 4 1 [5, 22, 23, 24, 25], Q 5 2 [22, 23, 24, 25], Q 6 1 [22, 23, 24, 25], Q 7 1 [8, 22, 23, 24, 25], Q 8 2 [22, 23, 24, 25], Q 9 1 [10, 22, 23, 24, 25], Q 10 2 [22, 23, 24, 25], Q 11 1 [12, 13, 14, 15, 22, 23, 24, 25], Q 12 1 [13, 14, 15, 22, 23, 24, 25], Q 13 1 [14, 15, 22, 23, 24, 25], Q 14 1 [15, 22, 23, 24, 25], Q 15 2 [22, 23, 24, 25], Q 16 1 (r 21 5 []), Q 17 2 (r 21 5 []), Q 18 1 (r 21 5 []), Q 19 1 (r 20 6 []), Q 20 2 (r 21 5 []), Q 21 0 [], Q 22 1 [23, 24, 25], Q 23 0 [], Q 24 0 [], Q 25 1 []], .node (Q 0 1 [24, 25]) <| .node (Q 1 1 [2, 3, 4, 5, 22, 23, 24, 25]) <| .node (Q 2 1 [3, 4, 5, 22, 23, 24, 25]) <| .node (Q 3 1 [4, 5, 22, 23, 24, 25]) <| .node (Q 4 1 [5, 22, 23, 24, 25]) <| .node (Q 5 2 [22, 23, 24, 25]) <| .node (Q 6 1 [22, 23, 24, 25]) <| .node (Q 7 1 [8, 22, 23, 24, 25]) <| .node (Q 8 2 [22, 23, 24, 25]) <| .node (Q 9 1 [10, 22, 23, 24, 25]) <| .node (Q 10 2 [22, 23, 24, 25]) <| .node (Q 11 1 [12, 13, 14, 15, 22, 23, 24, 25]) <| .node (Q 12 1 [13, 14, 15, 22, 23, 24, 25]) <| .node (Q 13 1 [14, 15, 22, 23, 24, 25]) <| .node (Q 14 1 [15, 22, 23, 24, 25]) <| .node (Q 15 2 [22, 23, 24, 25]) <| .node (Q 16 1 (r 21 5 [])) <| .node (Q 17 2 (r 21 5 [])) <| .node (Q 18 1 (r 21 5 [])) <| .node (Q 19 1 (r 20 6 [])) <| .node (Q 20 2 (r 21 5 [])) <| .node (Q 21 0 []) <| .node (Q 22 1 [23, 24, 25]) <| .node (Q 23 0 []) <| .node (Q 24 0 []) <| .node (Q 25 1 []) <| .done),
  (8, [K [] [9] 29, K [0] [4, 29] 30, K [1] [30] 31, K [2] [31] 32, K [3] [32] 33, K [4] [9, 33] 34, K [5, 4] [4, 34, 33] 35, K [6, 4] [35, 33] 36, K [7, 4] [36, 33] 37, K [4] [10, 33] 38, K [9, 4] [38, 33] 39, K [8, 10, 4] [37, 39, 33] 40, K [4, 11] [33, 40] 41], [Q 0 1 (r 1 12 []), Q 1 1 (r 2 11 []), Q 2 1 (r 3 10 []), Q 3 2 (r 4 9 []), Q 4 1 (r 5 8 []), Q 5 1 [6, 7, 8, 11, 12], Q 6 1 [7, 8, 11, 12], Q 7 1 [8, 11, 12], Q 8 2 [11, 12], Q 9 1 [10, 11, 12], Q 10 2 [11, 12], Q 11 1 [12], Q 12 1 []], .node (Q 0 1 (r 1 12 [])) <| .node (Q 1 1 (r 2 11 [])) <| .node (Q 2 1 (r 3 10 [])) <| .node (Q 3 2 (r 4 9 [])) <| .node (Q 4 1 (r 5 8 [])) <| .node (Q 5 1 [6, 7, 8, 11, 12]) <| .node (Q 6 1 [7, 8, 11, 12]) <| .node (Q 7 1 [8, 11, 12]) <| .node (Q 8 2 [11, 12]) <| .node (Q 9 1 [10, 11, 12]) <| .node (Q 10 2 [11, 12]) <| .node (Q 11 1 [12]) <| .node (Q 12 1 []) <| .done)]
def F34 : CFun := ⟨n73, .seq (.region <|
 o p5 (.box t2) <|
 m p7 q7 <|
 .done) <|
 .seq (.region <|
 m p8 q7 <|
 .done) <|
 .seq (.region <|
 m p13 t1 <|
 o p14 (.nilchk t13) <|
 o p15 (.fieldA n45 t14) <|
 o p16 (.load1 t15) <|
 a p17 n35 [t16] <|
 m p9 t17 <|
 .done) <|
 .seq (.seq (.region <|
 m p18 t1 <|
 o p19 (.nilchk t18) <|
 o p20 (.fieldA n47 t19) <|
 o p21 (.load1 t20) <|
 a p22 n29 [t21] <|
 m p23 q1 <|
 .done) <|
 .block n0 <| .loop <| .seq (.region <|
 o p24 (.cmp .lss t23 q8) <|
 .done) <|
 .seq (.cond t24 (.skip) <|
 .exit n0) <|
 .seq (.block n1 <| .seq (.region <|
 m p25 t23 <|
 o p26 (.indexN n4 n7 t22 t23) <|
 o p11 (.alloc z13) <|
 m p10 t25 <|
 e (.storeN n7 t11 t26) <|
 .done) <|
 .seq (.seq (.region <|
 o p27 (.fieldA n0 t11) <|
 o p28 (.load1 t27) <|
 o p29 (.not t28) <|
 .done) <|
 .cond t29 (.exit n1) <|
 .skip) <|
 .seq (.region <|
 o p12 (.alloc z14) <|
 .done) <|
 .seq (.seq (.region <|
 m p30 t10 <|
 o p31 (.idxA n4 n7 t5 t30) <|
 o p32 (.fieldA n0 t31) <|
 o p33 (.load1 t32) <|
 m p34 t33 <|
 .step ⟨(some p35), (some (p34, true)), .op (.move t10)⟩ [] <|
 .step ⟨(some p36), (some (p34, true)), .op (.idxA n4 n7 t5 t35)⟩ [] <|
 .step ⟨(some p37), (some (p34, true)), .op (.fieldA n1 t36)⟩ [] <|
 .step ⟨(some p38), (some (p34, true)), .op (.load1 t37)⟩ [] <|
 .step ⟨(some p39), (some (p34, true)), .op (.fieldA n1 t11)⟩ [] <|
 .step ⟨(some p40), (some (p34, true)), .op (.load1 t39)⟩ [] <|
 .step ⟨(some p41), (some (p34, true)), .op (.cmp .eql t38 t40)⟩ [] <|
 o p42 (.pick t34 t41 q0) <|
 .done) <|
 .cond t42 (.region <|
 m p43 t10 <|
 o p44 (.idxA n4 n7 t5 t43) <|
 o p45 (.fieldA n3 t44) <|
 o p46 (.loadN n4 t45) <|
 e (.storeN n4 t12 t46) <|
 .done) <|
 .skip) <|
 .region <|
 m p47 t8 <|
 m p48 t1 <|
 o p49 (.nilchk t48) <|
 o p50 (.fieldA n0 t49) <|
 o p51 (.fieldA n0 t50) <|
 o p52 (.load1 t51) <|
 m p53 t10 <|
 o p54 (.fieldA n1 t11) <|
 o p55 (.load1 t54) <|
 o p56 (.fieldA n2 t11) <|
 o p57 (.load1 t56) <|
 m p58 t1 <|
 o p59 (.nilchk t58) <|
 o p60 (.fieldA n0 t59) <|
 o p61 (.fieldA n2 t60) <|
 o p62 (.load1 t61) <|
 m p63 t3 <|
 o p64 (.loadN n4 t12) <|
 m p65 t9 <|
 o p66 (.fieldA n3 t11) <|
 o p67 (.loadN n4 t66) <|
 .step ⟨(some p68), none, .call n63 [t63, t64, t65, t67]⟩ [⟨(some p52), none, .op (.load1 t51)⟩, ⟨(some p55), none, .op (.load1 t54)⟩, ⟨(some p57), none, .op (.load1 t56)⟩, ⟨(some p62), none, .op (.load1 t61)⟩] <|
 o p69 (.build z15 [(n0, n1, t52), (n1, n1, t53), (n2, n1, t55), (n3, n1, t57), (n4, n1, t62), (n5, n1, t68)]) <|
 o p70 (.bslice z15 n6 n1 [(n0, n6, t69)]) <|
 o p71 (.append n64 n6 t47 t70) <|
 m p8 t71 <|
 .done) <|
 .region <|
 o p72 (.ar .add t23 q3) <|
 m p23 t72 <|
 .done) <|
 .seq (.region <|
 m p73 t8 <|
 m p7 t73 <|
 .done) <|
 .ret, [.tmp p7]⟩
theorem c34 : compFn Tryz.prog pl34 Tryz.f34 = some F34 := by kernel_rfl

def pl35 : Plans := []
def F35 : CFun := ⟨n11, .seq (.region <|
 m p3 q7 <|
 .done) <|
 .seq (.region <|
 m p4 t1 <|
 m p5 t1 <|
 o p6 (.nilchk t5) <|
 o p7 (.fieldA n0 t6) <|
 o p8 (.load1 t7) <|
 a p9 n66 [t8] <|
 a p10 n65 [t9] <|
 a p11 n64 [t4, t10] <|
 m p3 t11 <|
 .done) <|
 .ret, [.tmp p3]⟩
theorem c35 : compFn Tryz.prog pl35 Tryz.f35 = some F35 := by kernel_rfl

def pl36 : Plans := [(1, [K [] [1] 3, K [0] [3] 4, K [1] [4] 5, K [] [1] 6, K [3] [6] 7, K [4, 2] [7] 8, K [] [1] 9, K [6] [9] 10, K [7, 5] [10] 11, K [] [1] 12, K [9] [12] 13, K [10, 8] [13] 14, K (r 0 5 [6, 7, 9, 10]) [1] 15, J (12 :: 2 :: 11 :: (r 0 5 [6, 7, 9, 10])) [15, 5], K (r 0 8 [9, 10, 12, 13]) [1] 16, J (14 :: 5 :: 13 :: (r 0 8 [9, 10, 12, 13])) [16, 8], K (r 0 11 [12, 13, 14, 15]) [1] 17, J (16 :: 8 :: 15 :: (r 0 11 [12, 13, 14, 15])) [17, 11], K (r 0 18 []) [1] 18, J (18 :: 11 :: 17 :: (r 0 18 [])) [18, 14]], [Q 0 1 (1 :: 2 :: 5 :: 8 :: (r 11 9 [])), Q 1 2 (2 :: 5 :: 8 :: (r 11 9 [])), Q 2 0 [], Q 3 1 (4 :: 5 :: 8 :: (r 11 9 [])), Q 4 2 (5 :: 8 :: (r 11 9 [])), Q 5 0 [], Q 6 1 (7 :: 8 :: (r 11 9 [])), Q 7 2 (8 :: (r 11 9 [])), Q 8 0 [], Q 9 1 (r 10 10 []), Q 10 2 (r 11 9 []), Q 11 0 [], Q 12 1 (r 13 7 []), Q 13 0 [], Q 14 1 (r 15 5 []), Q 15 0 [], Q 16 1 [17, 18, 19], Q 17 0 [], Q 18 1 [19], Q 19 0 []], .node (Q 0 1 (1 :: 2 :: 5 :: 8 :: (r 11 9 []))) <| .node (Q 1 2 (2 :: 5 :: 8 :: (r 11 9 []))) <| .node (Q 3 1 (4 :: 5 :: 8 :: (r 11 9 []))) <| .node (Q 4 2 (5 :: 8 :: (r 11 9 []))) <| .node (Q 6 1 (7 :: 8 :: (r 11 9 []))) <| .node (Q 7 2 (8 :: (r 11 9 []))) <| .node (Q 9 1 (r 10 10 [])) <| .node (Q 10 2 (r 11 9 [])) <| .node (Q 2 0 []) <| .node (Q 12 1 (r 13 7 [])) <| .node (Q 5 0 []) <| .node (Q 8 0 []) <| .node (Q 11 0 []) <| .node (Q 13 0 []) <| .node (Q 14 1 (r 15 5 [])) <| .node (Q 15 0 []) <| .node (Q 16 1 [17, 18, 19]) <| .node (Q 17 0 []) <| .node (Q 18 1 [19]) <| .node (Q 19 0 []) <| .done)]
def F36 : CFun := ⟨n20, .seq (.region <|
 o p2 (.box t1) <|
 o p3 (.alloc z3) <|
 .done) <|
 .seq (.region <|
 o p4 (.fieldA n2 t2) <|
 o p5 (.load1 t4) <|
 o p7 (.fieldA n3 t2) <|
 o p8 (.load1 t7) <|
 o p10 (.fieldA n4 t2) <|
 o p11 (.load1 t10) <|
 o p13 (.fieldA n5 t2) <|
 o p14 (.load1 t13) <|
 .step ⟨(some p6), none, .call n62 [t5]⟩ [⟨(some p8), none, .op (.load1 t7)⟩, ⟨(some p11), none, .op (.load1 t10)⟩, ⟨(some p14), none, .op (.load1 t13)⟩] <|
 o p16 (.fieldA n2 t2) <|
 .step ⟨(some p9), none, .call n67 [t8]⟩ [⟨(some p11), none, .op (.load1 t10)⟩, ⟨(some p14), none, .op (.load1 t13)⟩] <|
 .step ⟨(some p12), none, .call n62 [t11]⟩ [⟨(some p14), none, .op (.load1 t13)⟩] <|
 a p15 n68 [t14] <|
 e (.store1 t16 t6) <|
 o p17 (.fieldA n3 t2) <|
 e (.store1 t17 t9) <|
 o p18 (.fieldA n4 t2) <|
 e (.store1 t18 t12) <|
 o p19 (.fieldA n5 t2) <|
 e (.store1 t19 t15) <|
 .done) <|
 .seq (.region <|
 o p20 (.loadN n6 t2) <|
 e (.storeN n6 t3 t20) <|
 .done) <|
 .ret, [.cellN n6 p3]⟩
theorem c36 : compFn Tryz.prog pl36 Tryz.f36 = some F36 := by kernel_rfl

def pl37 : Plans := [(18, [K [] [0] 101, K [] [0] 102, K [] [0] 103, K [] [0] 104, K [] [3] 105, K [0, 0] [101] 106, K [5, 0] [106] 107, K [6, 0] [107] 108, J [7, 0] [108], K [1, 0, 1, 5, 6, 7, 8] [102] 109, K [9, 0, 1, 5, 6, 7, 8] [109] 110, K [10, 0, 1, 5, 6, 7, 8] [110] 111, J [11, 8, 0, 1, 5, 6, 7, 8] [111], K (2 :: 0 :: 1 :: 2 :: (r 5 8 [])) [103] 112, K (13 :: 0 :: 1 :: 2 :: (r 5 8 [])) [112] 113, K (14 :: 0 :: 1 :: 2 :: (r 5 8 [])) [113] 114, J (15 :: 12 :: 0 :: 1 :: 2 :: (r 5 8 [])) [114], K (3 :: (r 0 17 [])) [104] 115, K (17 :: (r 0 17 [])) [115] 116, K (18 :: (r 0 17 [])) [116] 117, J (19 :: 4 :: 16 :: (r 0 17 [])) [117, 105]], [Q 0 1 (r 5 16 []), Q 1 1 (r 9 12 []), Q 2 1 (r 13 8 []), Q 3 1 [17, 18, 19, 20], Q 4 2 [17, 18, 19, 20], Q 5 1 (r 6 15 []), Q 6 1 (r 7 14 []), Q 7 1 (r 8 13 []), Q 8 0 [], Q 9 1 (r 10 11 []), Q 10 1 (r 11 10 []), Q 11 1 (r 12 9 []), Q 12 0 [], Q 13 1 (r 14 7 []), Q 14 1 (r 15 6 []), Q 15 1 (r 16 5 []), Q 16 0 [], Q 17 1 [18, 19, 20], Q 18 1 [19, 20], Q 19 1 [20], Q 20 0 []], .node (Q 0 1 (r 5 16 [])) <| .node (Q 1 1 (r 9 12 [])) <| .node (Q 2 1 (r 13 8 [])) <| .node (Q 3 1 [17, 18, 19, 20]) <| .node (Q 4 2 [17, 18, 19, 20]) <| .node (Q 5 1 (r 6 15 [])) <| .node (Q 6 1 (r 7 14 [])) <| .node (Q 7 1 (r 8 13 [])) <| .node (Q 8 0 []) <| .node (Q 9 1 (r 10 11 [])) <| .node (Q 10 1 (r 11 10 [])) <| .node (Q 11 1 (r 12 9 [])) <| .node (Q 12 0 []) <| .node (Q 13 1 (r 14 7 [])) <| .node (Q 14 1 (r 15 6 [])) <| .node (Q 15 1 (r 16 5 [])) <| .node (Q 16 0 []) <| .node (Q 17 1 [18, 19, 20]) <| .node (Q 18 1 [19, 20]) <| .node (Q 19 1 [20]) <| .node (Q 20 0 []) <| .done),
  (15, [K [] [0] 84, K [0] [84] 85, K [1] [85] 86, K [2] [86] 87, K [] [9] 88, K [4] [88] 89, K [3, 5] [87, 89] 90], [Q 0 1 [1, 2, 3, 6], Q 1 1 [2, 3, 6], Q 2 1 [3, 6], Q 3 2 [6], Q 4 1 [5, 6], Q 5 2 [6], Q 6 0 []], .node (Q 0 1 [1, 2, 3, 6]) <| .node (Q 1 1 [2, 3, 6]) <| .node (Q 2 1 [3, 6]) <| .node (Q 3 2 [6]) <| .node (Q 4 1 [5, 6]) <| .node (Q 5 2 [6]) <| .node (Q 6 0 []) <| .done),
  (12, [K [] [3] 73, K [0] [73] 74, K [1] [74] 75, K [] [3] 76, K [3] [76] 77, K [2, 4, 2] [75, 77] 78, K [5] [78] 79, K [] [] 80], [Q 0 1 [1, 2, 5, 6], Q 1 2 [2, 5, 6], Q 2 0 [], Q 3 1 [4, 5, 6], Q 4 2 [5, 6], Q 5 0 [], Q 6 1 [], Q 7 1 []], .node (Q 0 1 [1, 2, 5, 6]) <| .node (Q 1 2 [2, 5, 6]) <| .node (Q 3 1 [4, 5, 6]) <| .node (Q 4 2 [5, 6]) <| .node (Q 7 1 []) <| .node (Q 2 0 []) <| .node (Q 5 0 []) <| .node (Q 6 1 []) <| .done),
  (1, [K [] [0] 10, K [0] [10] 11, K [1] [11] 12, K [2] [12] 13, K [3] [13] 14, K [] [0] 15, K [5] [15] 16, K [6] [16] 17, K [7] [17] 18, K [8] [18] 19, K [] [0] 20, K [10] [20] 21, K [11] [21] 22, K [12] [22] 23, K [13] [23] 24, K [] [0] 25, K [15] [25] 26, K [16] [26] 27, K [17] [27] 28, K [18] [28] 29, K [4, 9, 14, 19] [14, 19, 24, 29] 30, K [] [] 3, J (21 :: 20 :: (r 0 22 [])) [3, 30]], [Q 0 1 [1, 2, 3, 4, 20, 22], Q 1 1 [2, 3, 4, 20, 22], Q 2 1 [3, 4, 20, 22], Q 3 1 [4, 20, 22], Q 4 2 [20, 22], Q 5 1 [6, 7, 8, 9, 20, 22], Q 6 1 [7, 8, 9, 20, 22], Q 7 1 [8, 9, 20, 22], Q 8 1 [9, 20, 22], Q 9 2 [20, 22], Q 10 1 [11, 12, 13, 14, 20, 22], Q 11 1 [12, 13, 14, 20, 22], Q 12 1 [13, 14, 20, 22], Q 13 1 [14, 20, 22], Q 14 2 [20, 22], Q 15 1 (r 16 5 [22]), Q 16 1 [17, 18, 19, 20, 22], Q 17 1 [18, 19, 20, 22], Q 18 1 [19, 20, 22], Q 19 2 [20, 22], Q 20 1 [22], Q 21 0 [], Q 22 0 []], .node (Q 0 1 [1, 2, 3, 4, 20, 22]) <| .node (Q 1 1 [2, 3, 4, 20, 22]) <| .node (Q 2 1 [3, 4, 20, 22]) <| .node (Q 3 1 [4, 20, 22]) <| .node (Q 4 2 [20, 22]) <| .node (Q 5 1 [6, 7, 8, 9, 20, 22]) <| .node (Q 6 1 [7, 8, 9, 20, 22]) <| .node (Q 7 1 [8, 9, 20, 22]) <| .node (Q 8 1 [9, 20, 22]) <| .node (Q 9 2 [20, 22]) <| .node (Q 10 1 [11, 12, 13, 14, 20, 22]) <| .node (Q 11 1 [12, 13, 14, 20, 22]) <| .node (Q 12 1 [13, 14, 20, 22]) <| .node (Q 13 1 [14, 20, 22]) <| .node (Q 14 2 [20, 22]) <| .node (Q 15 1 (r 16 5 [22])) <| .node (Q 16 1 [17, 18, 19, 20, 22]) <| .node (Q 17 1 [18, 19, 20, 22]) <| .node (Q 18 1 [19, 20, 22]) <| .node (Q 19 2 [20, 22]) <| .node (Q 20 1 [22]) <| .node (Q 21 0 []) <| .node (Q 22 0 []) <| .done)]
def F37 : CFun := ⟨n128, .seq (.region <|
 o p3 (.alloc z3) <|
 .done) <|
 .seq (.region <|
 m p11 t1 <|
 o p12 (.nilchk t11) <|
 o p13 (.fieldA n0 t12) <|
 o p14 (.fieldA n0 t13) <|
 o p15 (.load1 t14) <|
 m p16 t1 <|
 o p17 (.nilchk t16) <|
 o p18 (.fieldA n0 t17) <|
 o p19 (.fieldA n2 t18) <|
 o p20 (.load1 t19) <|
 m p21 t1 <|
 o p22 (.nilchk t21) <|
 o p23 (.fieldA n0 t22) <|
 o p24 (.fieldA n36 t23) <|
 o p25 (.load1 t24) <|
 m p26 t1 <|
 o p27 (.nilchk t26) <|
 o p28 (.fieldA n0 t27) <|
 o p29 (.fieldA n35 t28) <|
 o p30 (.load1 t29) <|
 o p31 (.build z3 [(n0, n1, t15), (n1, n1, t20), (n3, n1, t25), (n5, n1, t30)]) <|
 .step ⟨(some p4), none, .op (.alloc z3)⟩ [⟨(some p15), none, .op (.load1 t14)⟩, ⟨(some p20), none, .op (.load1 t19)⟩, ⟨(some p25), none, .op (.load1 t24)⟩, ⟨(some p30), none, .op (.load1 t29)⟩] <|
 e (.storeN n6 t4 t31) <|
 .done) <|
 .seq (.region <|
 o p32 (.fieldA n3 t4) <|
 o p33 (.load1 t32) <|
 a p34 n69 [t33, q26] <|
 .done) <|
 .seq (.seq (.region <|
 m p35 t1 <|
 o p36 (.nilchk t35) <|
 o p37 (.fieldA n45 t36) <|
 o p38 (.load1 t37) <|
 a p39 n35 [t38] <|
 o p40 (.len t39) <|
 m p41 q1 <|
 .done) <|
 .block n0 <| .loop <| .seq (.region <|
 o p42 (.cmp .lss t41 t40) <|
 .done) <|
 .seq (.cond t42 (.skip) <|
 .exit n0) <|
 .seq (.block n1 <| .seq (.region <|
 o p43 (.idxS n11 t39 t41) <|
 o p44 (.loadN n11 t43) <|
 o p6 (.alloc z8) <|
 e (.storeN n11 t6 t44) <|
 .done) <|
 .seq (.region <|
 o p46 (.fieldA n1 t6) <|
 o p47 (.loadN n2 t46) <|
 a p48 n51 [t47] <|
 m p45 t48 <|
 o p49 (.extract n0 t45) <|
 o p50 (.extract n1 t45) <|
 m p7 t49 <|
 m p8 t50 <|
 .done) <|
 .block n2 <| .seq (.region <|
 m p52 t1 <|
 m p53 t7 <|
 a p54 n41 [t52, t53] <|
 o p55 (.not t54) <|
 m p51 t55 <|
 .done) <|
 .cond t51 (.region <|
 o p56 (.fieldA n2 t4) <|
 o p57 (.load1 t56) <|
 o p58 (.loadN n11 t6) <|
 o p59 (.bslice z8 n11 n1 [(n0, n11, t58)]) <|
 o p60 (.append n120 n11 t57 t59) <|
 o p61 (.fieldA n2 t4) <|
 e (.store1 t61 t60) <|
 .done) <|
 .seq (.region <|
 o p63 (.fieldA n3 t4) <|
 o p64 (.load1 t63) <|
 m p65 t7 <|
 a p66 n42 [t64, t65] <|
 m p62 t66 <|
 .done) <|
 .cond t62 (.region <|
 o p67 (.fieldA n4 t4) <|
 o p68 (.load1 t67) <|
 o p69 (.loadN n11 t6) <|
 o p70 (.bslice z8 n11 n1 [(n0, n11, t69)]) <|
 o p71 (.append n120 n11 t68 t70) <|
 o p72 (.fieldA n4 t4) <|
 e (.store1 t72 t71) <|
 .done) <|
 .skip) <|
 .region <|
 o p73 (.ar .add t41 q3) <|
 m p41 t73 <|
 .done) <|
 .seq (.seq (.region <|
 o p74 (.fieldA n2 t4) <|
 o p75 (.load1 t74) <|
 o p77 (.fieldA n4 t4) <|
 o p78 (.load1 t77) <|
 m p81 q1 <|
 .step ⟨(some p76), none, .call n62 [t75]⟩ [⟨(some p78), none, .op (.load1 t77)⟩] <|
 o p79 (.append n120 n11 t76 t78) <|
 o p80 (.len t79) <|
 .done) <|
 .block n3 <| .loop <| .seq (.region <|
 o p82 (.cmp .lss t81 t80) <|
 .done) <|
 .seq (.cond t82 (.skip) <|
 .exit n3) <|
 .seq (.block n4 <| .seq (.region <|
 o p83 (.idxS n11 t79 t81) <|
 o p84 (.loadN n11 t83) <|
 o p10 (.alloc z8) <|
 e (.storeN n11 t10 t84) <|
 .done) <|
 .region <|
 m p85 t1 <|
 o p86 (.nilchk t85) <|
 o p87 (.fieldA n45 t86) <|
 o p88 (.load1 t87) <|
 o p89 (.fieldA n0 t10) <|
 o p90 (.load1 t89) <|
 a p91 n71 [t88, t90] <|
 .done) <|
 .region <|
 o p92 (.ar .add t81 q3) <|
 m p81 t92 <|
 .done) <|
 .seq (.region <|
 m p93 t1 <|
 o p94 (.nilchk t93) <|
 o p95 (.fieldA n0 t94) <|
 o p96 (.fieldA n2 t95) <|
 o p97 (.load1 t96) <|
 o p98 (.ar .add t97 q3) <|
 o p99 (.nilchk t93) <|
 o p100 (.fieldA n0 t99) <|
 o p101 (.fieldA n2 t100) <|
 e (.store1 t101 t98) <|
 .done) <|
 .seq (.region <|
 m p102 t1 <|
 m p103 t1 <|
 m p104 t1 <|
 m p105 t1 <|
 o p106 (.loadN n6 t4) <|
 o p107 (.nilchk t102) <|
 o p108 (.fieldA n0 t107) <|
 o p109 (.fieldA n35 t108) <|
 .step ⟨none, none, .op (.store1 t109 q7)⟩ [⟨(some p106), none, .op (.loadN n6 t4)⟩] <|
 o p110 (.nilchk t103) <|
 o p111 (.fieldA n0 t110) <|
 o p112 (.fieldA n36 t111) <|
 .step ⟨none, none, .op (.store1 t112 q7)⟩ [⟨(some p106), none, .op (.loadN n6 t4)⟩] <|
 o p113 (.nilchk t104) <|
 o p114 (.fieldA n0 t113) <|
 o p115 (.fieldA n37 t114) <|
 .step ⟨none, none, .op (.store1 t115 q1)⟩ [⟨(some p106), none, .op (.loadN n6 t4)⟩] <|
 o p116 (.nilchk t105) <|
 o p117 (.fieldA n0 t116) <|
 o p118 (.fieldA n39 t117) <|
 e (.storeN n6 t118 t106) <|
 .done) <|
 .seq (.region <|
 m p119 t1 <|
 m p120 t1 <|
 o p121 (.nilchk t120) <|
 o p122 (.fieldA n45 t121) <|
 o p123 (.load1 t122) <|
 a p124 n35 [t123] <|
 o p125 (.nilchk t119) <|
 o p126 (.fieldA n0 t125) <|
 o p127 (.fieldA n4 t126) <|
 e (.store1 t127 t124) <|
 .done) <|
 .seq (.region <|
 o p128 (.loadN n6 t4) <|
 e (.storeN n6 t3 t128) <|
 .done) <|
 .ret, [.cellN n6 p3]⟩
theorem c37 : compFn Tryz.prog pl37 Tryz.f37 = some F37 := by kernel_rfl

def pl38 : Plans := []
def F38 : CFun := ⟨n8, .seq (.region <|
 m p3 q7 <|
 .done) <|
 .seq (.seq (.region <|
 m p4 t1 <|
 o p5 (.eqnil false n1 t4 q7) <|
 .done) <|
 .cond t5 (.seq (.region <|
 m p3 q7 <|
 .done) <|
 .ret) <|
 .skip) <|
 .seq (.region <|
 o p6 (.bslice z16 n25 n0 []) <|
 m p7 t1 <|
 o p8 (.append n240 n25 t6 t7) <|
 m p3 t8 <|
 .done) <|
 .ret, [.tmp p3]⟩
theorem c38 : compFn Tryz.prog pl38 Tryz.f38 = some F38 := by kernel_rfl

def pl39 : Plans := [(8, [K [] [6] 51, K [0] [51] 52, K [1] [52] 53, K [2] [53] 54, K [] [8] 55, K [3, 4] [54, 55] 56], [Q 0 1 [1, 2, 3, 5], Q 1 1 [2, 3, 5], Q 2 1 [3, 5], Q 3 2 [5], Q 4 2 [5], Q 5 0 []], .node (Q 0 1 [1, 2, 3, 5]) <| .node (Q 1 1 [2, 3, 5]) <| .node (Q 2 1 [3, 5]) <| .node (Q 3 2 [5]) <| .node (Q 4 2 [5]) <| .node (Q 5 0 []) <| .done),
  (4, [K [] [1] 36, K [] [] 37, K [] [4] 38, K [] [1] 39, K [3] [39] 40, K [4, 1] [40] 41, K [0, 1, 2, 5] [36, 37, 38, 41] 42, K [6] [42] 43, K (7 :: 5 :: (r 0 8 [])) [43] 6], [Q 0 2 [6, 7, 8], Q 1 0 [], Q 2 1 [6, 7, 8], Q 3 1 (r 4 5 []), Q 4 2 [5, 6, 7, 8], Q 5 0 [], Q 6 1 [7, 8], Q 7 0 [], Q 8 1 []], .node (Q 0 2 [6, 7, 8]) <| .node (Q 2 1 [6, 7, 8]) <| .node (Q 3 1 (r 4 5 [])) <| .node (Q 4 2 [5, 6, 7, 8]) <| .node (Q 1 0 []) <| .node (Q 5 0 []) <| .node (Q 6 1 [7, 8]) <| .node (Q 7 0 []) <| .node (Q 8 1 []) <| .done)]
def F39 : CFun := ⟨n59, .seq (.region <|
 o p2 (.box t1) <|
 m p3 q13 <|
 m p4 q0 <|
 .done) <|
 .seq (.region <|
 o p11 (.fieldA n1 t2) <|
 o p12 (.load1 t11) <|
 o p13 (.fieldA n5 t2) <|
 o p14 (.load1 t13) <|
 a p15 n72 [t12, t14] <|
 m p10 t15 <|
 o p16 (.extract n0 t10) <|
 o p17 (.extract n1 t10) <|
 m p5 t16 <|
 m p6 t17 <|
 .done) <|
 .seq (.seq (.region <|
 m p18 t6 <|
 o p19 (.cmp .neq t18 q1) <|
 m p20 t19 <|
 .step ⟨(some p21), (some (p20, false)), .op (.fieldA n0 t2)⟩ [] <|
 .step ⟨(some p22), (some (p20, false)), .op (.load1 t21)⟩ [] <|
 .step ⟨(some p23), (some (p20, false)), .op (.cmp .lss t22 q1)⟩ [] <|
 o p24 (.pick t20 q12 t23) <|
 m p25 t24 <|
 .step ⟨(some p26), (some (p25, false)), .op (.fieldA n0 t2)⟩ [] <|
 .step ⟨(some p27), (some (p25, false)), .op (.load1 t26)⟩ [] <|
 .step ⟨(some p28), (some (p25, false)), .op (.fieldA n1 t2)⟩ [] <|
 .step ⟨(some p29), (some (p25, false)), .op (.load1 t28)⟩ [] <|
 .step ⟨(some p30), (some (p25, false)), .op (.cmp .geq t27 t29)⟩ [] <|
 o p31 (.pick t25 q12 t30) <|
 m p32 t31 <|
 .step ⟨(some p33), (some (p32, false)), .op (.fieldA n2 t2)⟩ [] <|
 .step ⟨(some p34), (some (p32, false)), .op (.load1 t33)⟩ [] <|
 .step ⟨(some p35), (some (p32, false)), .op (.cmp .lss t34 q1)⟩ [] <|
 o p36 (.pick t32 q12 t35) <|
 .done) <|
 .cond t36 (.seq (.region <|
 m p3 q13 <|
 m p4 q0 <|
 .done) <|
 .ret) <|
 .skip) <|
 .seq (.region <|
 o p37 (.loadN n45 t2) <|
 m p39 t5 <|
 o p40 (.fieldA n6 t2) <|
 o p41 (.loadN n28 t40) <|
 .step ⟨(some p38), none, .call n21 []⟩ [⟨(some p37), none, .op (.loadN n45 t2)⟩, ⟨(some p41), none, .op (.loadN n28 t40)⟩] <|
 .step ⟨(some p42), none, .call n73 [t41]⟩ [⟨(some p37), none, .op (.loadN n45 t2)⟩] <|
 o p43 (.build z5 [(n0, n45, t37), (n45, n1, t38), (n46, n1, t39), (n47, n1, t42)]) <|
 o p44 (.box t43) <|
 m p7 t44 <|
 .done) <|
 .seq (.seq (.region <|
 o p45 (.fieldA n3 t2) <|
 o p46 (.load1 t45) <|
 o p47 (.len t46) <|
 m p48 q1 <|
 .done) <|
 .block n0 <| .loop <| .seq (.region <|
 o p49 (.cmp .lss t48 t47) <|
 .done) <|
 .seq (.cond t49 (.skip) <|
 .exit n0) <|
 .seq (.block n1 <| .seq (.region <|
 o p50 (.idxS n11 t46 t48) <|
 o p51 (.loadN n11 t50) <|
 o p9 (.alloc z8) <|
 e (.storeN n11 t9 t51) <|
 .done) <|
 .region <|
 m p52 t7 <|
 o p53 (.nilchk t52) <|
 o p54 (.fieldA n45 t53) <|
 o p55 (.load1 t54) <|
 o p56 (.loadN n11 t9) <|
 a p57 n32 [t55, t56] <|
 .done) <|
 .region <|
 o p58 (.ar .add t48 q3) <|
 m p48 t58 <|
 .done) <|
 .seq (.region <|
 m p59 t7 <|
 m p3 t59 <|
 m p4 q12 <|
 .done) <|
 .ret, [.tmp p3, .tmp p4]⟩
theorem c39 : compFn Tryz.prog pl39 Tryz.f39 = some F39 := by kernel_rfl

def pl40 : Plans := [(3, [K [] [3] 30, K [0] [30] 31, K [1] [31] 32, K [] [3] 33, K [3] [33] 34, K [4, 2] [34] 35, K [] [3] 36, K [6] [36] 37, K [7, 5] [37] 38, K [] [3] 39, K [9] [39] 40, K [10, 8] [40] 41, K (r 0 5 [6, 7, 9, 10]) [3] 42, J (12 :: 2 :: 11 :: (r 0 5 [6, 7, 9, 10])) [42, 32], K (r 0 8 [9, 10, 12, 13]) [3] 43, J (14 :: 5 :: 13 :: (r 0 8 [9, 10, 12, 13])) [43, 35], K (r 0 11 [12, 13, 14, 15]) [3] 44, J (16 :: 8 :: 15 :: (r 0 11 [12, 13, 14, 15])) [44, 38], K (r 0 18 []) [3] 45, J (18 :: 11 :: 17 :: (r 0 18 [])) [45, 41]], [Q 0 1 (1 :: 2 :: 5 :: 8 :: (r 11 9 [])), Q 1 2 (2 :: 5 :: 8 :: (r 11 9 [])), Q 2 0 [], Q 3 1 (4 :: 5 :: 8 :: (r 11 9 [])), Q 4 2 (5 :: 8 :: (r 11 9 [])), Q 5 0 [], Q 6 1 (7 :: 8 :: (r 11 9 [])), Q 7 2 (8 :: (r 11 9 [])), Q 8 0 [], Q 9 1 (r 10 10 []), Q 10 2 (r 11 9 []), Q 11 0 [], Q 12 1 (r 13 7 []), Q 13 0 [], Q 14 1 (r 15 5 []), Q 15 0 [], Q 16 1 [17, 18, 19], Q 17 0 [], Q 18 1 [19], Q 19 0 []], .node (Q 0 1 (1 :: 2 :: 5 :: 8 :: (r 11 9 []))) <| .node (Q 1 2 (2 :: 5 :: 8 :: (r 11 9 []))) <| .node (Q 3 1 (4 :: 5 :: 8 :: (r 11 9 []))) <| .node (Q 4 2 (5 :: 8 :: (r 11 9 []))) <| .node (Q 6 1 (7 :: 8 :: (r 11 9 []))) <| .node (Q 7 2 (8 :: (r 11 9 []))) <| .node (Q 9 1 (r 10 10 [])) <| .node (Q 10 2 (r 11 9 [])) <| .node (Q 2 0 []) <| .node (Q 12 1 (r 13 7 [])) <| .node (Q 5 0 []) <| .node (Q 8 0 []) <| .node (Q 11 0 []) <| .node (Q 13 0 []) <| .node (Q 14 1 (r 15 5 [])) <| .node (Q 15 0 []) <| .node (Q 16 1 [17, 18, 19]) <| .node (Q 17 0 []) <| .node (Q 18 1 [19]) <| .node (Q 19 0 []) <| .done),
  (2, [K [] [0] 8, K [0] [8] 9, K [1] [9] 10, K [2] [10] 11, K [3] [11] 12, K [] [3] 13, K [5] [13] 14, K [6, 4] [14] 15, K [] [0] 16, K [8] [16] 17, K [9] [17] 18, K [10] [18] 19, K [11, 7] [19] 20, K [] [0] 21, K [13] [21] 22, K [14] [22] 23, K [15] [23] 24, K [16, 12] [24] 25, K (r 0 7 []) [3] 26, J (18 :: 4 :: 17 :: (r 0 7 [])) [26, 12], K (r 0 8 [18, 19]) [3] 27, J (20 :: 7 :: 19 :: (r 0 8 [18, 19])) [27, 15], K (r 0 13 [18, 19, 20, 21]) [3] 28, J (22 :: 12 :: 21 :: (r 0 13 [18, 19, 20, 21])) [28, 20], K (r 0 24 []) [3] 29, J (24 :: 17 :: 23 :: (r 0 24 [])) [29, 25]], [Q 0 1 (1 :: 2 :: 3 :: 4 :: 7 :: 12 :: (r 17 9 [])), Q 1 1 (2 :: 3 :: 4 :: 7 :: 12 :: (r 17 9 [])), Q 2 1 (3 :: 4 :: 7 :: 12 :: (r 17 9 [])), Q 3 2 (4 :: 7 :: 12 :: (r 17 9 [])), Q 4 0 [], Q 5 1 (6 :: 7 :: 12 :: (r 17 9 [])), Q 6 2 (7 :: 12 :: (r 17 9 [])), Q 7 0 [], Q 8 1 (9 :: 10 :: 11 :: 12 :: 17 :: (r 19 7 [])), Q 9 1 (10 :: 11 :: 12 :: 17 :: (r 19 7 [])), Q 10 1 (11 :: 12 :: 17 :: (r 19 7 [])), Q 11 2 (12 :: 17 :: (r 19 7 [])), Q 12 0 [], Q 13 1 (14 :: 15 :: 16 :: 17 :: (r 19 7 [])), Q 14 1 (15 :: 16 :: 17 :: (r 19 7 [])), Q 15 1 (16 :: 17 :: (r 19 7 [])), Q 16 2 (17 :: (r 19 7 [])), Q 17 0 [], Q 18 1 (r 19 7 []), Q 19 0 [], Q 20 1 (r 21 5 []), Q 21 0 [], Q 22 1 [23, 24, 25], Q 23 0 [], Q 24 1 [25], Q 25 0 []], .node (Q 0 1 (1 :: 2 :: 3 :: 4 :: 7 :: 12 :: (r 17 9 []))) <| .node (Q 1 1 (2 :: 3 :: 4 :: 7 :: 12 :: (r 17 9 []))) <| .node (Q 2 1 (3 :: 4 :: 7 :: 12 :: (r 17 9 []))) <| .node (Q 3 2 (4 :: 7 :: 12 :: (r 17 9 []))) <| .node (Q 5 1 (6 :: 7 :: 12 :: (r 17 9 []))) <| .node (Q 6 2 (7 :: 12 :: (r 17 9 []))) <| .node (Q 8 1 (9 :: 10 :: 11 :: 12 :: 17 :: (r 19 7 []))) <| .node (Q 9 1 (10 :: 11 :: 12 :: 17 :: (r 19 7 []))) <| .node (Q 10 1 (11 :: 12 :: 17 :: (r 19 7 []))) <| .node (Q 11 2 (12 :: 17 :: (r 19 7 []))) <| .node (Q 13 1 (14 :: 15 :: 16 :: 17 :: (r 19 7 []))) <| .node (Q 14 1 (15 :: 16 :: 17 :: (r 19 7 []))) <| .node (Q 15 1 (16 :: 17 :: (r 19 7 []))) <| .node (Q 16 2 (17 :: (r 19 7 []))) <| .node (Q 4 0 []) <| .node (Q 18 1 (r 19 7 [])) <| .node (Q 7 0 []) <| .node (Q 12 0 []) <| .node (Q 17 0 []) <| .node (Q 19 0 []) <| .node (Q 20 1 (r 21 5 [])) <| .node (Q 21 0 []) <| .node (Q 22 1 [23, 24, 25]) <| .node (Q 23 0 []) <| .node (Q 24 1 [25]) <| .node (Q 25 0 []) <| .done)]
def F40 : CFun := ⟨n47, .seq (.region <|
 o p3 (.alloc z4) <|
 .done) <|
 .seq (.region <|
 m p5 t1 <|
 o p6 (.nilchk t5) <|
 o p7 (.fieldA n0 t6) <|
 o p8 (.loadN n45 t7) <|
 o p4 (.alloc z4) <|
 e (.storeN n45 t4 t8) <|
 .done) <|
 .seq (.region <|
 m p9 t1 <|
 o p10 (.nilchk t9) <|
 o p11 (.fieldA n45 t10) <|
 o p12 (.load1 t11) <|
 o p14 (.fieldA n4 t4) <|
 o p15 (.load1 t14) <|
 m p17 t1 <|
 o p18 (.nilchk t17) <|
 o p19 (.fieldA n46 t18) <|
 o p20 (.load1 t19) <|
 m p22 t1 <|
 o p23 (.nilchk t22) <|
 o p24 (.fieldA n47 t23) <|
 o p25 (.load1 t24) <|
 .step ⟨(some p13), none, .call n35 [t12]⟩ [⟨(some p15), none, .op (.load1 t14)⟩, ⟨(some p20), none, .op (.load1 t19)⟩, ⟨(some p25), none, .op (.load1 t24)⟩] <|
 o p27 (.fieldA n3 t4) <|
 .step ⟨(some p16), none, .call n62 [t15]⟩ [⟨(some p20), none, .op (.load1 t19)⟩, ⟨(some p25), none, .op (.load1 t24)⟩] <|
 .step ⟨(some p21), none, .call n44 [t20]⟩ [⟨(some p25), none, .op (.load1 t24)⟩] <|
 a p26 n29 [t25] <|
 e (.store1 t27 t13) <|
 o p28 (.fieldA n4 t4) <|
 e (.store1 t28 t16) <|
 o p29 (.fieldA n5 t4) <|
 e (.store1 t29 t21) <|
 o p30 (.fieldA n6 t4) <|
 e (.storeN n28 t30 t26) <|
 .done) <|
 .seq (.region <|
 o p31 (.fieldA n35 t4) <|
 o p32 (.load1 t31) <|
 o p34 (.fieldA n36 t4) <|
 o p35 (.load1 t34) <|
 o p37 (.fieldA n38 t4) <|
 o p38 (.load1 t37) <|
 o p40 (.fieldA n39 t4) <|
 o p41 (.loadN n6 t40) <|
 .step ⟨(some p33), none, .call n68 [t32]⟩ [⟨(some p35), none, .op (.load1 t34)⟩, ⟨(some p38), none, .op (.load1 t37)⟩, ⟨(some p41), none, .op (.loadN n6 t40)⟩] <|
 o p43 (.fieldA n35 t4) <|
 .step ⟨(some p36), none, .call n67 [t35]⟩ [⟨(some p38), none, .op (.load1 t37)⟩, ⟨(some p41), none, .op (.loadN n6 t40)⟩] <|
 .step ⟨(some p39), none, .call n38 [t38]⟩ [⟨(some p41), none, .op (.loadN n6 t40)⟩] <|
 a p42 n36 [t41] <|
 e (.store1 t43 t33) <|
 o p44 (.fieldA n36 t4) <|
 e (.store1 t44 t36) <|
 o p45 (.fieldA n38 t4) <|
 e (.store1 t45 t39) <|
 o p46 (.fieldA n39 t4) <|
 e (.storeN n6 t46 t42) <|
 .done) <|
 .seq (.region <|
 o p47 (.loadN n45 t4) <|
 e (.storeN n45 t3 t47) <|
 .done) <|
 .ret, [.cellN n45 p3]⟩
theorem c40 : compFn Tryz.prog pl40 Tryz.f40 = some F40 := by kernel_rfl

def pl41 : Plans := [(2, [K [] [6] 16, K [0] [16] 17, K [1] [5, 17] 18, K [2, 1] [18, 17] 19, K [1] [0, 17] 20, K [4, 1] [20, 17] 21, K [5, 1] [21, 17] 22, K [6, 1] [22, 17] 23, K [7, 1] [23, 17] 24, K [3, 8, 1] [19, 24, 17] 25, K [1, 9] [17, 25] 26, K (10 :: 1 :: (r 0 11 [])) [26] 4], [Q 0 1 (r 1 11 []), Q 1 1 (r 2 10 []), Q 2 1 [3, 9, 10, 11], Q 3 2 [9, 10, 11], Q 4 1 (r 5 7 []), Q 5 1 (r 6 6 []), Q 6 1 (r 7 5 []), Q 7 1 [8, 9, 10, 11], Q 8 2 [9, 10, 11], Q 9 1 [10, 11], Q 10 1 [11], Q 11 1 []], .node (Q 0 1 (r 1 11 [])) <| .node (Q 1 1 (r 2 10 [])) <| .node (Q 2 1 [3, 9, 10, 11]) <| .node (Q 3 2 [9, 10, 11]) <| .node (Q 4 1 (r 5 7 [])) <| .node (Q 5 1 (r 6 6 [])) <| .node (Q 6 1 (r 7 5 [])) <| .node (Q 7 1 [8, 9, 10, 11]) <| .node (Q 8 2 [9, 10, 11]) <| .node (Q 9 1 [10, 11]) <| .node (Q 10 1 [11]) <| .node (Q 11 1 []) <| .done)]
def F41 : CFun := ⟨n27, .seq (.region <|
 m p5 q0 <|
 .done) <|
 .seq (.region <|
 m p9 t1 <|
 o p10 (.nilchk t9) <|
 o p11 (.fieldA n46 t10) <|
 o p12 (.load1 t11) <|
 m p13 t2 <|
 a p14 n74 [t12, t13] <|
 m p8 t14 <|
 o p15 (.extract n0 t8) <|
 o p16 (.extract n1 t8) <|
 o p6 (.alloc z0) <|
 e (.storeN n2 t6 t15) <|
 m p7 t16 <|
 .done) <|
 .seq (.region <|
 m p17 t7 <|
 m p18 t17 <|
 .step ⟨(some p19), (some (p18, true)), .op (.fieldA n0 t6)⟩ [] <|
 .step ⟨(some p20), (some (p18, true)), .op (.load1 t19)⟩ [] <|
 .step ⟨(some p21), (some (p18, true)), .op (.move t1)⟩ [] <|
 .step ⟨(some p22), (some (p18, true)), .op (.nilchk t21)⟩ [] <|
 .step ⟨(some p23), (some (p18, true)), .op (.fieldA n0 t22)⟩ [] <|
 .step ⟨(some p24), (some (p18, true)), .op (.fieldA n0 t23)⟩ [] <|
 .step ⟨(some p25), (some (p18, true)), .op (.load1 t24)⟩ [] <|
 .step ⟨(some p26), (some (p18, true)), .op (.cmp .eql t20 t25)⟩ [] <|
 o p27 (.pick t18 t26 q0) <|
 m p5 t27 <|
 .done) <|
 .ret, [.tmp p5]⟩
theorem c41 : compFn Tryz.prog pl41 Tryz.f41 = some F41 := by kernel_rfl

def pl42 : Plans := []
def F42 : CFun := ⟨n8, .seq (.region <|
 o p4 (.box t2) <|
 m p5 q0 <|
 .done) <|
 .seq (.region <|
 m p6 t1 <|
 o p7 (.mkfunc n76 [t4]) <|
 a p8 n75 [t6, t7] <|
 m p5 t8 <|
 .done) <|
 .ret, [.tmp p5]⟩
theorem c42 : compFn Tryz.prog pl42 Tryz.f42 = some F42 := by kernel_rfl

def pl43 : Plans := [(6, [K [] [0] 17, K [] [5] 18, K [0, 1] [17, 18] 19, K [2] [19] 20, K [] [1] 21, K [] [5] 22, K [4, 5] [21, 22] 23, K [6] [23] 24, K [3, 7] [20, 24] 25], [Q 0 1 [2, 3, 8], Q 1 1 [2, 3, 8], Q 2 1 [3, 8], Q 3 2 [8], Q 4 1 [6, 7, 8], Q 5 1 [6, 7, 8], Q 6 1 [7, 8], Q 7 2 [8], Q 8 1 []], .node (Q 0 1 [2, 3, 8]) <| .node (Q 1 1 [2, 3, 8]) <| .node (Q 2 1 [3, 8]) <| .node (Q 3 2 [8]) <| .node (Q 4 1 [6, 7, 8]) <| .node (Q 5 1 [6, 7, 8]) <| .node (Q 6 1 [7, 8]) <| .node (Q 7 2 [8]) <| .node (Q 8 1 []) <| .done)]
def F43 : CFun := ⟨n26, .seq (.region <|
 m p5 q0 <|
 .done) <|
 .seq (.seq (.region <|
 m p7 t1 <|
 o p8 (.len t7) <|
 m p9 t2 <|
 o p10 (.len t9) <|
 o p11 (.cmp .neq t8 t10) <|
 .done) <|
 .cond t11 (.seq (.region <|
 m p5 q0 <|
 .done) <|
 .ret) <|
 .skip) <|
 .seq (.seq (.region <|
 m p6 q1 <|
 .done) <|
 .block n0 <| .loop <| .seq (.seq (.region <|
 m p12 t6 <|
 m p13 t1 <|
 o p14 (.len t13) <|
 o p15 (.cmp .lss t12 t14) <|
 .done) <|
 .cond t15 (.skip) <|
 .exit n0) <|
 .seq (.block n1 <| .seq (.region <|
 m p18 t1 <|
 m p19 t6 <|
 o p20 (.idxS n11 t18 t19) <|
 o p21 (.loadN n11 t20) <|
 m p22 t2 <|
 m p23 t6 <|
 o p24 (.idxS n11 t22 t23) <|
 o p25 (.loadN n11 t24) <|
 o p26 (.eqagg true k2 t21 t25) <|
 .done) <|
 .cond t26 (.seq (.region <|
 m p5 q0 <|
 .done) <|
 .ret) <|
 .skip) <|
 .region <|
 m p16 t6 <|
 o p17 (.ar .add t16 q3) <|
 m p6 t17 <|
 .done) <|
 .seq (.region <|
 m p5 q12 <|
 .done) <|
 .ret, [.tmp p5]⟩
theorem c43 : compFn Tryz.prog pl43 Tryz.f43 = some F43 := by kernel_rfl

def pl44 : Plans := []
def F44 : CFun := ⟨n9, .seq (.region <|
 m p3 q7 <|
 .done) <|
 .seq (.region <|
 m p5 t1 <|
 o p6 (.nilchk t5) <|
 o p7 (.fieldA n1 t6) <|
 o p8 (.loadN n32 t7) <|
 o p4 (.alloc z17) <|
 e (.storeN n32 t4 t8) <|
 .done) <|
 .seq (.region <|
 o p9 (.sliceA n16 n2 t4 none none) <|
 m p3 t9 <|
 .done) <|
 .ret, [.tmp p3]⟩
theorem c44 : compFn Tryz.prog pl44 Tryz.f44 = some F44 := by kernel_rfl

def pl45 : Plans := []
def F45 : CFun := ⟨n4, .seq (.region <|
 m p1 q13 <|
 .done) <|
 .seq (.region <|
 o p2 .mkmap <|
 o p3 (.build z18 [(n0, n1, t2)]) <|
 o p4 (.box t3) <|
 m p1 t4 <|
 .done) <|
 .ret, [.tmp p1]⟩
theorem c45 : compFn Tryz.prog pl45 Tryz.f45 = some F45 := by kernel_rfl

def pl46 : Plans := []
def F46 : CFun := ⟨n17, .seq (.region <|
 o p2 (.box t1) <|
 m p3 q0 <|
 .done) <|
 .seq (.region <|
 o p4 (.fieldA n0 t2) <|
 o p5 (.load1 t4) <|
 o p6 (.cmp .eql t5 q1) <|
 m p7 t6 <|
 .step ⟨(some p8), (some (p7, false)), .op (.fieldA n1 t2)⟩ [] <|
 .step ⟨(some p9), (some (p7, false)), .op (.load1 t8)⟩ [] <|
 .step ⟨(some p10), (some (p7, false)), .op (.eqs false t9 q27)⟩ [] <|
 o p11 (.pick t7 q12 t10) <|
 m p12 t11 <|
 .step ⟨(some p13), (some (p12, true)), .op (.fieldA n1 t2)⟩ [] <|
 .step ⟨(some p14), (some (p12, true)), .op (.load1 t13)⟩ [] <|
 .step ⟨(some p15), (some (p12, true)), .op (.lenstr t14)⟩ [] <|
 .step ⟨(some p16), (some (p12, true)), .op (.cmp .leq t15 q28)⟩ [] <|
 o p17 (.pick t12 t16 q0) <|
 m p3 t17 <|
 .done) <|
 .ret, [.tmp p3]⟩
theorem c46 : compFn Tryz.prog pl46 Tryz.f46 = some F46 := by kernel_rfl

def pl47 : Plans := [(12, [K [] [1] 47, K [0] [47] 48, K [] [1] 49, K [2] [49] 50, K [0, 1] [3] 51, J [4, 1, 0, 1] [51, 48], K (r 0 6 []) [3] 52, J (6 :: 3 :: 5 :: (r 0 6 [])) [52, 50]], [Q 0 1 [1, 4, 5, 6, 7], Q 1 2 [4, 5, 6, 7], Q 2 1 [3, 6, 7], Q 3 2 [6, 7], Q 4 1 [5, 6, 7], Q 5 0 [], Q 6 1 [7], Q 7 0 []], .node (Q 0 1 [1, 4, 5, 6, 7]) <| .node (Q 1 2 [4, 5, 6, 7]) <| .node (Q 2 1 [3, 6, 7]) <| .node (Q 3 2 [6, 7]) <| .node (Q 4 1 [5, 6, 7]) <| .node (Q 5 0 []) <| .node (Q 6 1 [7]) <| .node (Q 7 0 []) <| .done),
  (8, [K [] [1] 31, K [0] [31] 32, K [] [1] 33, K [2] [33] 34, K [] [1] 35, K [4] [35] 36, K [0, 1] [3] 37, J [6, 1, 0, 1] [37, 32], K [0, 1, 2, 3, 6, 7] [3] 38, J [8, 3, 7, 0, 1, 2, 3, 6, 7] [38, 34], K (r 0 10 []) [3] 39, J (10 :: 5 :: 9 :: (r 0 10 [])) [39, 36]], [Q 0 1 (1 :: (r 6 6 [])), Q 1 2 (r 6 6 []), Q 2 1 [3, 8, 9, 10, 11], Q 3 2 [8, 9, 10, 11], Q 4 1 [5, 10, 11], Q 5 2 [10, 11], Q 6 1 (r 7 5 []), Q 7 0 [], Q 8 1 [9, 10, 11], Q 9 0 [], Q 10 1 [11], Q 11 0 []], .node (Q 0 1 (1 :: (r 6 6 []))) <| .node (Q 1 2 (r 6 6 [])) <| .node (Q 2 1 [3, 8, 9, 10, 11]) <| .node (Q 3 2 [8, 9, 10, 11]) <| .node (Q 4 1 [5, 10, 11]) <| .node (Q 5 2 [10, 11]) <| .node (Q 6 1 (r 7 5 [])) <| .node (Q 7 0 []) <| .node (Q 8 1 [9, 10, 11]) <| .node (Q 9 0 []) <| .node (Q 10 1 [11]) <| .node (Q 11 0 []) <| .done),
  (6, [K [] [1] 23, K [0] [23] 24, K [] [1] 25, K [2] [25] 26, K [0, 1] [3] 27, J [4, 1, 0, 1] [27, 24], K (r 0 6 []) [3] 28, J (6 :: 3 :: 5 :: (r 0 6 [])) [28, 26]], [Q 0 1 [1, 4, 5, 6, 7], Q 1 2 [4, 5, 6, 7], Q 2 1 [3, 6, 7], Q 3 2 [6, 7], Q 4 1 [5, 6, 7], Q 5 0 [], Q 6 1 [7], Q 7 0 []], .node (Q 0 1 [1, 4, 5, 6, 7]) <| .node (Q 1 2 [4, 5, 6, 7]) <| .node (Q 2 1 [3, 6, 7]) <| .node (Q 3 2 [6, 7]) <| .node (Q 4 1 [5, 6, 7]) <| .node (Q 5 0 []) <| .node (Q 6 1 [7]) <| .node (Q 7 0 []) <| .done),
  (4, [K [] [1] 15, K [0] [15] 16, K [] [1] 17, K [2] [17] 18, K [0, 1] [3] 19, J [4, 1, 0, 1] [19, 16], K (r 0 6 []) [3] 20, J (6 :: 3 :: 5 :: (r 0 6 [])) [20, 18]], [Q 0 1 [1, 4, 5, 6, 7], Q 1 2 [4, 5, 6, 7], Q 2 1 [3, 6, 7], Q 3 2 [6, 7], Q 4 1 [5, 6, 7], Q 5 0 [], Q 6 1 [7], Q 7 0 []], .node (Q 0 1 [1, 4, 5, 6, 7]) <| .node (Q 1 2 [4, 5, 6, 7]) <| .node (Q 2 1 [3, 6, 7]) <| .node (Q 3 2 [6, 7]) <| .node (Q 4 1 [5, 6, 7]) <| .node (Q 5 0 []) <| .node (Q 6 1 [7]) <| .node (Q 7 0 []) <| .done)]
def F47 : CFun := ⟨n60, .seq (.region <|
 o p2 (.box t1) <|
 o p3 (.alloc z1) <|
 .done) <|
 .seq (.region <|
 o p5 (.fieldA n0 t2) <|
 o p6 (.load1 t5) <|
 o p7 (.fieldA n16 t2) <|
 o p8 (.load1 t7) <|
 o p9 (.fieldA n17 t2) <|
 o p10 (.load1 t9) <|
 o p11 (.build z1 [(n0, n1, t6), (n16, n1, t8), (n17, n1, t10)]) <|
 o p4 (.alloc z1) <|
 e (.storeN n22 t4 t11) <|
 .done) <|
 .seq (.seq (.region <|
 o p12 (.fieldA n0 t2) <|
 o p13 (.load1 t12) <|
 .done) <|
 .block n0 <| .seq (.region <|
 o p15 (.cmp .eql t13 q3) <|
 m p14 t15 <|
 .done) <|
 .cond t14 (.region <|
 o p16 (.fieldA n4 t2) <|
 o p17 (.loadN n2 t16) <|
 o p18 (.fieldA n6 t2) <|
 o p19 (.loadN n8 t18) <|
 o p20 (.fieldA n4 t4) <|
 .step ⟨none, none, .op (.storeN n2 t20 t17)⟩ [⟨(some p19), none, .op (.loadN n8 t18)⟩] <|
 o p21 (.fieldA n6 t4) <|
 e (.storeN n8 t21 t19) <|
 .done) <|
 .seq (.region <|
 o p23 (.cmp .eql t13 q2) <|
 m p22 t23 <|
 .done) <|
 .cond t22 (.region <|
 o p24 (.fieldA n1 t2) <|
 o p25 (.load1 t24) <|
 o p26 (.fieldA n4 t2) <|
 o p27 (.loadN n2 t26) <|
 o p28 (.fieldA n1 t4) <|
 .step ⟨none, none, .op (.store1 t28 t25)⟩ [⟨(some p27), none, .op (.loadN n2 t26)⟩] <|
 o p29 (.fieldA n4 t4) <|
 e (.storeN n2 t29 t27) <|
 .done) <|
 .seq (.region <|
 o p31 (.cmp .eql t13 q6) <|
 m p30 t31 <|
 .done) <|
 .cond t30 (.region <|
 o p32 (.fieldA n1 t2) <|
 o p33 (.load1 t32) <|
 o p34 (.fieldA n2 t2) <|
 o p35 (.load1 t34) <|
 o p36 (.fieldA n14 t2) <|
 o p37 (.loadN n2 t36) <|
 o p38 (.fieldA n1 t4) <|
 .step ⟨none, none, .op (.store1 t38 t33)⟩ [⟨(some p35), none, .op (.load1 t34)⟩, ⟨(some p37), none, .op (.loadN n2 t36)⟩] <|
 o p39 (.fieldA n2 t4) <|
 .step ⟨none, none, .op (.store1 t39 t35)⟩ [⟨(some p37), none, .op (.loadN n2 t36)⟩] <|
 o p40 (.fieldA n14 t4) <|
 e (.storeN n2 t40 t37) <|
 .done) <|
 .seq (.region <|
 o p42 (.cmp .eql t13 q8) <|
 m p41 t42 <|
 .done) <|
 .cond t41 (.region <|
 o p43 (.fieldA n1 t2) <|
 o p44 (.load1 t43) <|
 o p45 (.fieldA n1 t4) <|
 e (.store1 t45 t44) <|
 .done) <|
 .seq (.region <|
 o p47 (.cmp .eql t13 q17) <|
 m p46 t47 <|
 .done) <|
 .cond t46 (.region <|
 o p48 (.fieldA n2 t2) <|
 o p49 (.load1 t48) <|
 o p50 (.fieldA n3 t2) <|
 o p51 (.load1 t50) <|
 o p52 (.fieldA n2 t4) <|
 .step ⟨none, none, .op (.store1 t52 t49)⟩ [⟨(some p51), none, .op (.load1 t50)⟩] <|
 o p53 (.fieldA n3 t4) <|
 e (.store1 t53 t51) <|
 .done) <|
 .seq (.seq (.region <|
 o p55 (.cmp .eql t13 q22) <|
 m p54 t55 <|
 .done) <|
 .cond t54 (.skip) <|
 .region <|
 o p56 (.cmp .eql t13 q25) <|
 m p54 t56 <|
 .done) <|
 .cond t54 (.region <|
 o p57 (.fieldA n18 t2) <|
 o p58 (.loadN n4 t57) <|
 o p59 (.fieldA n18 t4) <|
 e (.storeN n4 t59 t58) <|
 .done) <|
 .skip) <|
 .seq (.region <|
 o p60 (.loadN n22 t4) <|
 e (.storeN n22 t3 t60) <|
 .done) <|
 .ret, [.cellN n22 p3]⟩
theorem c47 : compFn Tryz.prog pl47 Tryz.f47 = some F47 := by kernel_rfl

def pl48 : Plans := []
def F48 : CFun := ⟨n18, .seq (.region <|
 m p3 q0 <|
 .done) <|
 .scope <| .seq (.skip) <|
 .seq (.seq (.region <|
 m p6 t1 <|
 o p7 (.len t6) <|
 m p8 q1 <|
 .done) <|
 .block n0 <| .loop <| .seq (.region <|
 o p9 (.cmp .lss t8 t7) <|
 .done) <|
 .seq (.cond t9 (.skip) <|
 .exit n0) <|
 .seq (.block n1 <| .seq (.region <|
 o p10 (.idxS n1 t6 t8) <|
 o p11 (.load1 t10) <|
 m p5 t11 <|
 .done) <|
 .seq (.seq (.region <|
 m p12 t5 <|
 o p13 (.cmp .geq t12 q29) <|
 m p14 t13 <|
 .step ⟨(some p15), (some (p14, true)), .op (.move t5)⟩ [] <|
 .step ⟨(some p16), (some (p14, true)), .op (.cmp .leq t15 q30)⟩ [] <|
 o p17 (.pick t14 t16 q0) <|
 .done) <|
 .cond t17 (.exit n1) <|
 .skip) <|
 .seq (.region <|
 m p3 q0 <|
 .done) <|
 .ret) <|
 .region <|
 o p18 (.ar .add t8 q3) <|
 m p8 t18 <|
 .done) <|
 .seq (.region <|
 m p3 q12 <|
 .done) <|
 .ret, [.tmp p3]⟩
theorem c48 : compFn Tryz.prog pl48 Tryz.f48 = some F48 := by kernel_rfl

def pl49 : Plans := []
def F49 : CFun := ⟨n8, .seq (.region <|
 m p3 q13 <|
 .done) <|
 .seq (.region <|
 m p4 t1 <|
 o p5 (.nilchk t4) <|
 o p6 (.fieldA n0 t5) <|
 o p7 (.loadN n28 t6) <|
 a p8 n73 [t7] <|
 m p3 t8 <|
 .done) <|
 .ret, [.tmp p3]⟩
theorem c49 : compFn Tryz.prog pl49 Tryz.f49 = some F49 := by kernel_rfl

def pl50 : Plans := []
def F50 : CFun := ⟨n9, .seq (.region <|
 m p3 q0 <|
 .done) <|
 .seq (.region <|
 m p4 t1 <|
 o p5 (.cmp .geq t4 q1) <|
 m p6 t5 <|
 .step ⟨(some p7), (some (p6, true)), .op (.move t1)⟩ [] <|
 .step ⟨(some p8), (some (p6, true)), .op (.cmp .lss t7 q5)⟩ [] <|
 o p9 (.pick t6 t8 q0) <|
 m p3 t9 <|
 .done) <|
 .ret, [.tmp p3]⟩
theorem c50 : compFn Tryz.prog pl50 Tryz.f50 = some F50 := by kernel_rfl

def pl51 : Plans := []
def F51 : CFun := ⟨n14, .seq (.region <|
 o p2 (.box t1) <|
 m p3 q1 <|
 m p4 q1 <|
 .done) <|
 .seq (.seq (.region <|
 o p5 (.loadN n2 t2) <|
 a p6 n77 [t5] <|
 o p7 (.not t6) <|
 .done) <|
 .cond t7 (.seq (.region <|
 m p3 q1 <|
 m p4 q31 <|
 .done) <|
 .ret) <|
 .skip) <|
 .seq (.region <|
 o p8 (.fieldA n0 t2) <|
 o p9 (.load1 t8) <|
 o p10 (.ar .quo t9 q5) <|
 o p11 (.fieldA n1 t2) <|
 o p12 (.load1 t11) <|
 o p13 (.ar .quo t12 q5) <|
 a p14 n78 [t10, t13] <|
 m p3 t14 <|
 m p4 q1 <|
 .done) <|
 .ret, [.tmp p3, .tmp p4]⟩
theorem c51 : compFn Tryz.prog pl51 Tryz.f51 = some F51 := by kernel_rfl

def pl52 : Plans := []
def F52 : CFun := ⟨n13, .seq (.region <|
 m p5 q1 <|
 .done) <|
 .seq (.region <|
 m p6 t2 <|
 o p7 (.mx t6 q1) <|
 o p8 (.mn t7 q32) <|
 o p9 (.ar .mul q8 t8) <|
 m p10 t1 <|
 o p11 (.mx t10 q1) <|
 o p12 (.mn t11 q6) <|
 o p13 (.ar .add t9 t12) <|
 m p5 t13 <|
 .done) <|
 .ret, [.tmp p5]⟩
theorem c52 : compFn Tryz.prog pl52 Tryz.f52 = some F52 := by kernel_rfl

def pl53 : Plans := []
def F53 : CFun := ⟨n101, .seq (.region <|
 o p4 (.box t2) <|
 m p5 q1 <|
 .done) <|
 .seq (.seq (.region <|
 o p10 (.loadN n22 t4) <|
 a p11 n23 [t10] <|
 o p12 (.not t11) <|
 m p13 t12 <|
 .step ⟨(some p14), (some (p13, false)), .op (.fieldA n0 t4)⟩ [] <|
 .step ⟨(some p15), (some (p13, false)), .op (.load1 t14)⟩ [] <|
 .step ⟨(some p16), (some (p13, false)), .op (.cmp .gtr t15 q8)⟩ [] <|
 o p17 (.pick t13 q12 t16) <|
 .done) <|
 .cond t17 (.seq (.region <|
 m p5 q15 <|
 .done) <|
 .ret) <|
 .skip) <|
 .seq (.region <|
 m p19 t1 <|
 o p20 (.fieldA n1 t4) <|
 o p21 (.load1 t20) <|
 a p22 n79 [t19, t21] <|
 m p18 t22 <|
 o p23 (.extract n0 t18) <|
 o p24 (.extract n1 t18) <|
 o p6 (.alloc z8) <|
 e (.storeN n11 t6 t23) <|
 m p7 t24 <|
 .done) <|
 .seq (.region <|
 o p26 (.fieldA n4 t4) <|
 o p27 (.loadN n2 t26) <|
 a p28 n51 [t27] <|
 m p25 t28 <|
 o p29 (.extract n0 t25) <|
 o p30 (.extract n1 t25) <|
 m p8 t29 <|
 m p9 t30 <|
 .done) <|
 .seq (.block n0 <| .seq (.region <|
 o p32 (.fieldA n0 t4) <|
 o p33 (.load1 t32) <|
 o p34 (.cmp .eql t33 q3) <|
 m p35 t34 <|
 .step ⟨(some p36), (some (p35, true)), .op (.move t9)⟩ [] <|
 .step ⟨(some p37), (some (p35, true)), .op (.cmp .neq t36 q1)⟩ [] <|
 o p38 (.pick t35 t37 q0) <|
 m p31 t38 <|
 .done) <|
 .cond t31 (.seq (.region <|
 m p39 t9 <|
 m p5 t39 <|
 .done) <|
 .ret) <|
 .seq (.region <|
 o p41 (.fieldA n0 t4) <|
 o p42 (.load1 t41) <|
 o p43 (.cmp .eql t42 q3) <|
 m p44 t43 <|
 .step ⟨(some p45), (some (p44, true)), .op (.move t1)⟩ [] <|
 .step ⟨(some p46), (some (p44, true)), .call n80 [t45]⟩ [] <|
 .step ⟨(some p47), (some (p44, true)), .op (.cmp .geq t46 q33)⟩ [] <|
 .step ⟨(some p48), (some (p44, true)), .op (.move t47)⟩ [] <|
 .step ⟨(some p49), (some (p48, false)), .op (.move t1)⟩ [] <|
 .step ⟨(some p50), (some (p48, false)), .op (.fieldA n4 t4)⟩ [] <|
 .step ⟨(some p51), (some (p48, false)), .op (.loadN n2 t50)⟩ [] <|
 .step ⟨(some p52), (some (p48, false)), .call n81 [t49, t51]⟩ [] <|
 .step ⟨(some p53), (some (p44, true)), .op (.pick t48 q12 t52)⟩ [] <|
 o p54 (.pick t44 t53 q0) <|
 m p40 t54 <|
 .done) <|
 .cond t40 (.seq (.region <|
 m p5 q5 <|
 .done) <|
 .ret) <|
 .seq (.region <|
 o p56 (.fieldA n0 t4) <|
 o p57 (.load1 t56) <|
 o p58 (.cmp .eql t57 q3) <|
 m p55 t58 <|
 .done) <|
 .cond t55 (.seq (.region <|
 m p5 q1 <|
 .done) <|
 .ret) <|
 .seq (.region <|
 m p60 t7 <|
 o p61 (.not t60) <|
 m p59 t61 <|
 .done) <|
 .cond t59 (.seq (.region <|
 m p5 q9 <|
 .done) <|
 .ret) <|
 .seq (.region <|
 o p63 (.fieldA n0 t4) <|
 o p64 (.load1 t63) <|
 o p65 (.cmp .eql t64 q2) <|
 m p66 t65 <|
 .step ⟨(some p67), (some (p66, true)), .op (.move t9)⟩ [] <|
 .step ⟨(some p68), (some (p66, true)), .op (.cmp .neq t67 q1)⟩ [] <|
 o p69 (.pick t66 t68 q0) <|
 m p62 t69 <|
 .done) <|
 .cond t62 (.seq (.region <|
 m p70 t9 <|
 m p5 t70 <|
 .done) <|
 .ret) <|
 .seq (.region <|
 o p72 (.fieldA n0 t4) <|
 o p73 (.load1 t72) <|
 o p74 (.cmp .eql t73 q2) <|
 m p75 t74 <|
 .step ⟨(some p76), (some (p75, true)), .op (.fieldA n1 t6)⟩ [] <|
 .step ⟨(some p77), (some (p75, true)), .op (.loadN n2 t76)⟩ [] <|
 .step ⟨(some p78), (some (p75, true)), .op (.fieldA n4 t4)⟩ [] <|
 .step ⟨(some p79), (some (p75, true)), .op (.loadN n2 t78)⟩ [] <|
 .step ⟨(some p80), (some (p75, true)), .call n82 [t77, t79]⟩ [] <|
 o p81 (.pick t75 t80 q0) <|
 m p82 t81 <|
 .step ⟨(some p83), (some (p82, true)), .op (.move t1)⟩ [] <|
 .step ⟨(some p84), (some (p82, true)), .op (.fieldA n4 t4)⟩ [] <|
 .step ⟨(some p85), (some (p82, true)), .op (.loadN n2 t84)⟩ [] <|
 .step ⟨(some p86), (some (p82, true)), .call n81 [t83, t85]⟩ [] <|
 o p87 (.pick t82 t86 q0) <|
 m p71 t87 <|
 .done) <|
 .cond t71 (.seq (.region <|
 m p5 q5 <|
 .done) <|
 .ret) <|
 .seq (.region <|
 o p89 (.fieldA n0 t4) <|
 o p90 (.load1 t89) <|
 o p91 (.cmp .eql t90 q6) <|
 m p92 t91 <|
 .step ⟨(some p93), (some (p92, true)), .op (.fieldA n2 t4)⟩ [] <|
 .step ⟨(some p94), (some (p92, true)), .op (.load1 t93)⟩ [] <|
 .step ⟨(some p95), (some (p92, true)), .op (.cmp .lss t94 q1)⟩ [] <|
 .step ⟨(some p96), (some (p92, true)), .op (.move t95)⟩ [] <|
 .step ⟨(some p97), (some (p96, false)), .op (.fieldA n2 t4)⟩ [] <|
 .step ⟨(some p98), (some (p96, false)), .op (.load1 t97)⟩ [] <|
 .step ⟨(some p99), (some (p96, false)), .op (.cmp .geq t98 q8)⟩ [] <|
 .step ⟨(some p100), (some (p92, true)), .op (.pick t96 q12 t99)⟩ [] <|
 o p101 (.pick t92 t100 q0) <|
 m p88 t101 <|
 .done) <|
 .cond t88 (.seq (.region <|
 m p5 q34 <|
 .done) <|
 .ret) <|
 .skip) <|
 .seq (.region <|
 m p5 q1 <|
 .done) <|
 .ret, [.tmp p5]⟩
theorem c53 : compFn Tryz.prog pl53 Tryz.f53 = some F53 := by kernel_rfl

def pl54 : Plans := []
def F54 : CFun := ⟨n75, .seq (.region <|
 o p5 (.box t2) <|
 m p7 q1 <|
 m p8 q0 <|
 .done) <|
 .seq (.region <|
 m p14 t1 <|
 o p15 (.fieldA n1 t5) <|
 o p16 (.load1 t15) <|
 a p17 n79 [t14, t16] <|
 m p13 t17 <|
 o p18 (.extract n0 t13) <|
 o p19 (.extract n1 t13) <|
 o p9 (.alloc z8) <|
 e (.storeN n11 t9 t18) <|
 m p10 t19 <|
 .done) <|
 .seq (.seq (.region <|
 o p20 (.fieldA n0 t5) <|
 o p21 (.load1 t20) <|
 .done) <|
 .block n0 <| .seq (.region <|
 o p23 (.cmp .eql t21 q3) <|
 m p22 t23 <|
 .done) <|
 .cond t22 (.seq (.seq (.region <|
 m p25 t1 <|
 m p26 t3 <|
 a p27 n79 [t25, t26] <|
 m p24 t27 <|
 o p28 (.extract n0 t24) <|
 o p29 (.extract n1 t24) <|
 o p11 (.alloc z8) <|
 e (.storeN n11 t11 t28) <|
 m p12 t29 <|
 .done) <|
 .seq (.region <|
 m p30 t12 <|
 m p31 t30 <|
 .step ⟨(some p32), (some (p31, false)), .op (.move t3)⟩ [] <|
 .step ⟨(some p33), (some (p31, false)), .op (.cmp .lss t32 q1)⟩ [] <|
 o p34 (.pick t31 q12 t33) <|
 m p35 t34 <|
 .step ⟨(some p36), (some (p35, false)), .op (.move t3)⟩ [] <|
 .step ⟨(some p37), (some (p35, false)), .op (.cmp .gtr t36 q19)⟩ [] <|
 o p38 (.pick t35 q12 t37) <|
 .done) <|
 .cond t38 (.seq (.region <|
 m p7 q1 <|
 m p8 q0 <|
 .done) <|
 .ret) <|
 .skip) <|
 .seq (.region <|
 m p39 t1 <|
 m p40 t3 <|
 o p41 (.fieldA n4 t5) <|
 o p42 (.loadN n2 t41) <|
 o p43 (.fieldA n6 t5) <|
 o p44 (.loadN n8 t43) <|
 o p45 (.build z8 [(n0, n1, t40), (n1, n2, t42), (n3, n8, t44)]) <|
 a p46 n32 [t39, t45] <|
 .done) <|
 .seq (.region <|
 m p47 t3 <|
 m p7 t47 <|
 m p8 q12 <|
 .done) <|
 .ret) <|
 .seq (.region <|
 o p49 (.cmp .eql t21 q2) <|
 m p48 t49 <|
 .done) <|
 .cond t48 (.region <|
 o p50 (.fieldA n4 t5) <|
 o p51 (.loadN n2 t50) <|
 o p52 (.fieldA n1 t9) <|
 e (.storeN n2 t52 t51) <|
 .done) <|
 .seq (.region <|
 o p54 (.cmp .eql t21 q6) <|
 m p53 t54 <|
 .done) <|
 .cond t53 (.region <|
 o p55 (.fieldA n2 t5) <|
 o p56 (.load1 t55) <|
 o p57 (.fieldA n14 t5) <|
 o p58 (.loadN n2 t57) <|
 o p59 (.fieldA n3 t9) <|
 o p60 (.idxA n4 n2 t59 t56) <|
 e (.storeN n2 t60 t58) <|
 .done) <|
 .seq (.region <|
 o p62 (.cmp .eql t21 q8) <|
 m p61 t62 <|
 .done) <|
 .cond t61 (.seq (.region <|
 m p63 t1 <|
 o p64 (.fieldA n1 t5) <|
 o p65 (.load1 t64) <|
 a p66 n71 [t63, t65] <|
 .done) <|
 .seq (.region <|
 o p67 (.fieldA n1 t5) <|
 o p68 (.load1 t67) <|
 m p69 t10 <|
 m p7 t68 <|
 m p8 t69 <|
 .done) <|
 .ret) <|
 .skip) <|
 .seq (.region <|
 m p70 t1 <|
 o p71 (.loadN n11 t9) <|
 a p72 n32 [t70, t71] <|
 .done) <|
 .seq (.region <|
 o p73 (.fieldA n1 t5) <|
 o p74 (.load1 t73) <|
 m p75 t10 <|
 m p7 t74 <|
 m p8 t75 <|
 .done) <|
 .ret, [.tmp p7, .tmp p8]⟩
theorem c54 : compFn Tryz.prog pl54 Tryz.f54 = some F54 := by kernel_rfl

def pl55 : Plans := []
def F55 : CFun := ⟨n8, .seq (.region <|
 m p3 q7 <|
 .done) <|
 .seq (.seq (.region <|
 m p4 t1 <|
 o p5 (.eqnil false n1 t4 q7) <|
 .done) <|
 .cond t5 (.seq (.region <|
 m p3 q7 <|
 .done) <|
 .ret) <|
 .skip) <|
 .seq (.region <|
 o p6 (.bslice z16 n6 n0 []) <|
 m p7 t1 <|
 o p8 (.append n112 n6 t6 t7) <|
 m p3 t8 <|
 .done) <|
 .ret, [.tmp p3]⟩
theorem c55 : compFn Tryz.prog pl55 Tryz.f55 = some F55 := by kernel_rfl

def pl56 : Plans := []
def F56 : CFun := ⟨n9, .region <|
 m p5 t1 <|
 m p6 t1 <|
 o p7 (.len t6) <|
 m p8 t2 <|
 a p9 n83 [t5, t7, t8] <|
 .done, []⟩
theorem c56 : compFn Tryz.prog pl56 Tryz.f56 = some F56 := by kernel_rfl

def pl57 : Plans := []
def F57 : CFun := ⟨n14, .seq (.region <|
 o p3 (.box t1) <|
 o p4 (.box t2) <|
 m p5 q1 <|
 .done) <|
 .seq (.region <|
 o p6 (.fieldA n0 t3) <|
 o p7 (.load1 t6) <|
 o p8 (.mx t7 q20) <|
 o p9 (.mn t8 q8) <|
 o p10 (.fieldA n0 t4) <|
 o p11 (.load1 t10) <|
 o p12 (.mx t11 q20) <|
 o p13 (.mn t12 q8) <|
 o p14 (.ar .sub t9 t13) <|
 m p5 t14 <|
 .done) <|
 .ret, [.tmp p5]⟩
theorem c57 : compFn Tryz.prog pl57 Tryz.f57 = some F57 := by kernel_rfl

def pl58 : Plans := []
def F58 : CFun := ⟨n60, .seq (.region <|
 o p3 (.box t1) <|
 m p5 q0 <|
 .done) <|
 .seq (.region <|
 m p7 t2 <|
 o p8 (.mn t7 q8) <|
 m p2 t8 <|
 .done) <|
 .seq (.seq (.region <|
 o p9 (.fieldA n0 t3) <|
 o p10 (.load1 t9) <|
 o p11 (.cmp .lss t10 q1) <|
 m p12 t11 <|
 .step ⟨(some p13), (some (p12, false)), .op (.fieldA n0 t3)⟩ [] <|
 .step ⟨(some p14), (some (p12, false)), .op (.load1 t13)⟩ [] <|
 .step ⟨(some p15), (some (p12, false)), .op (.move t2)⟩ [] <|
 .step ⟨(some p16), (some (p12, false)), .op (.cmp .geq t14 t15)⟩ [] <|
 o p17 (.pick t12 q12 t16) <|
 m p18 t17 <|
 .step ⟨(some p19), (some (p18, false)), .op (.fieldA n1 t3)⟩ [] <|
 .step ⟨(some p20), (some (p18, false)), .op (.load1 t19)⟩ [] <|
 .step ⟨(some p21), (some (p18, false)), .op (.cmp .lss t20 q1)⟩ [] <|
 o p22 (.pick t18 q12 t21) <|
 m p23 t22 <|
 .step ⟨(some p24), (some (p23, false)), .op (.fieldA n1 t3)⟩ [] <|
 .step ⟨(some p25), (some (p23, false)), .op (.load1 t24)⟩ [] <|
 .step ⟨(some p26), (some (p23, false)), .op (.cmp .gtr t25 q35)⟩ [] <|
 o p27 (.pick t23 q12 t26) <|
 m p28 t27 <|
 .step ⟨(some p29), (some (p28, false)), .op (.fieldA n5 t3)⟩ [] <|
 .step ⟨(some p30), (some (p28, false)), .op (.load1 t29)⟩ [] <|
 .step ⟨(some p31), (some (p28, false)), .op (.len t30)⟩ [] <|
 .step ⟨(some p32), (some (p28, false)), .op (.cmp .gtr t31 q16)⟩ [] <|
 o p33 (.pick t28 q12 t32) <|
 .done) <|
 .cond t33 (.seq (.region <|
 m p5 q0 <|
 .done) <|
 .ret) <|
 .skip) <|
 .seq (.region <|
 m p6 q36 <|
 .done) <|
 .seq (.region <|
 o p34 (.fieldA n3 t3) <|
 o p35 (.load1 t34) <|
 o p36 (.fieldA n0 t3) <|
 o p37 (.load1 t36) <|
 m p38 t2 <|
 a p39 n85 [t35, t37, t38] <|
 m p40 t39 <|
 .step ⟨(some p41), (some (p40, true)), .op (.fieldA n2 t3)⟩ [] <|
 .step ⟨(some p42), (some (p40, true)), .op (.load1 t41)⟩ [] <|
 .step ⟨(some p43), (some (p40, true)), .op (.fieldA n3 t3)⟩ [] <|
 .step ⟨(some p44), (some (p40, true)), .op (.load1 t43)⟩ [] <|
 .step ⟨(some p45), (some (p40, true)), .call n86 [t42, t44, q0]⟩ [] <|
 o p46 (.pick t40 t45 q0) <|
 m p47 t46 <|
 .step ⟨(some p48), (some (p47, true)), .op (.fieldA n4 t3)⟩ [] <|
 .step ⟨(some p49), (some (p47, true)), .op (.load1 t48)⟩ [] <|
 .step ⟨(some p50), (some (p47, true)), .op (.fieldA n3 t3)⟩ [] <|
 .step ⟨(some p51), (some (p47, true)), .op (.load1 t50)⟩ [] <|
 .step ⟨(some p52), (some (p47, true)), .call n86 [t49, t51, q12]⟩ [] <|
 o p53 (.pick t47 t52 q0) <|
 m p54 t53 <|
 .step ⟨(some p55), (some (p54, true)), .op (.fieldA n5 t3)⟩ [] <|
 .step ⟨(some p56), (some (p54, true)), .op (.load1 t55)⟩ [] <|
 .step ⟨(some p57), (some (p54, true)), .op (.move t6)⟩ [] <|
 .step ⟨(some p58), (some (p54, true)), .call n87 [t56, t57]⟩ [] <|
 .step ⟨(some p59), (some (p54, true)), .op (.not t58)⟩ [] <|
 o p60 (.pick t54 t59 q0) <|
 m p5 t60 <|
 .done) <|
 .ret, [.tmp p5]⟩
theorem c58 : compFn Tryz.prog pl58 Tryz.f58 = some F58 := by kernel_rfl

def pl59 : Plans := []
def F59 : CFun := ⟨n6, .seq (.region <|
 o p2 (.box t1) <|
 o p3 (.alloc z14) <|
 .done) <|
 .seq (.region <|
 o p4 (.loadN n4 t2) <|
 o p5 (.build z14 [(n2, n1, q37), (n3, n1, q37)]) <|
 a p6 n88 [t4, t5] <|
 e (.storeN n4 t3 t6) <|
 .done) <|
 .ret, [.cellN n4 p3]⟩
theorem c59 : compFn Tryz.prog pl59 Tryz.f59 = some F59 := by kernel_rfl

def pl60 : Plans := [(4, [K [] [0] 18, K [] [0] 19, K [1] [19] 20, K [2] [20] 21, K [] [] 22, K [] [1] 23, K [0, 3, 4, 5, 4] [18, 21, 22, 23] 24], [Q 0 1 [6], Q 1 1 [2, 3, 6], Q 2 1 [3, 6], Q 3 1 [6], Q 4 0 [], Q 5 1 [6], Q 6 0 []], .node (Q 0 1 [6]) <| .node (Q 1 1 [2, 3, 6]) <| .node (Q 2 1 [3, 6]) <| .node (Q 3 1 [6]) <| .node (Q 5 1 [6]) <| .node (Q 4 0 []) <| .node (Q 6 0 []) <| .done)]
def F60 : CFun := ⟨n30, .seq (.region <|
 m p5 q1 <|
 .done) <|
 .seq (.seq (.region <|
 m p9 t1 <|
 o p10 (.nilchk t9) <|
 o p11 (.fieldA n0 t10) <|
 o p12 (.load1 t11) <|
 m p13 t2 <|
 o p14 (.lookup false v1 true t12 t13) <|
 m p8 t14 <|
 o p15 (.extract n0 t8) <|
 o p16 (.extract n1 t8) <|
 o p6 (.alloc z0) <|
 e (.storeN n2 t6 t15) <|
 m p7 t16 <|
 .done) <|
 .seq (.region <|
 m p17 t7 <|
 o p18 (.not t17) <|
 .done) <|
 .cond t18 (.seq (.region <|
 m p5 q9 <|
 .done) <|
 .ret) <|
 .skip) <|
 .seq (.region <|
 m p19 t1 <|
 m p20 t1 <|
 o p21 (.nilchk t20) <|
 o p22 (.fieldA n1 t21) <|
 m p24 t2 <|
 a p23 n90 [] <|
 a p25 n89 [t19, t22, t23, t24] <|
 .done) <|
 .seq (.region <|
 m p26 t1 <|
 o p27 (.nilchk t26) <|
 o p28 (.fieldA n0 t27) <|
 o p29 (.load1 t28) <|
 m p30 t2 <|
 e (.delete false t29 t30) <|
 .done) <|
 .seq (.region <|
 m p5 q1 <|
 .done) <|
 .ret, [.tmp p5]⟩
theorem c60 : compFn Tryz.prog pl60 Tryz.f60 = some F60 := by kernel_rfl

def pl61 : Plans := [(2, [K [] [0] 12, K [] [0] 13, K [1] [13] 14, K [2] [14] 15, K [] [] 16, K [] [1] 17, K [0, 3, 4, 5, 4] [12, 15, 16, 17] 18], [Q 0 1 [6], Q 1 1 [2, 3, 6], Q 2 1 [3, 6], Q 3 1 [6], Q 4 0 [], Q 5 1 [6], Q 6 0 []], .node (Q 0 1 [6]) <| .node (Q 1 1 [2, 3, 6]) <| .node (Q 2 1 [3, 6]) <| .node (Q 3 1 [6]) <| .node (Q 5 1 [6]) <| .node (Q 4 0 []) <| .node (Q 6 0 []) <| .done),
  (1, [K [] [0] 6, K [0] [6] 7, K [1] [7] 8, K [2] [8] 9, K [] [1] 10, K [] [5] 11, J (3 :: 4 :: 5 :: (r 0 6 [])) [9, 10, 11]], [Q 0 1 [1, 2, 3, 6], Q 1 1 [2, 3, 6], Q 2 1 [3, 6], Q 3 2 [6], Q 4 1 [6], Q 5 2 [6], Q 6 0 []], .node (Q 0 1 [1, 2, 3, 6]) <| .node (Q 1 1 [2, 3, 6]) <| .node (Q 2 1 [3, 6]) <| .node (Q 3 2 [6]) <| .node (Q 4 1 [6]) <| .node (Q 5 2 [6]) <| .node (Q 6 0 []) <| .done)]
def F61 : CFun := ⟨n19, .seq (.region <|
 o p6 (.box t3) <|
 .done) <|
 .seq (.region <|
 m p7 t1 <|
 o p8 (.nilchk t7) <|
 o p9 (.fieldA n0 t8) <|
 o p10 (.load1 t9) <|
 m p11 t2 <|
 o p12 (.loadN n2 t6) <|
 e (.mapup false t10 t11 t12) <|
 .done) <|
 .region <|
 m p13 t1 <|
 m p14 t1 <|
 o p15 (.nilchk t14) <|
 o p16 (.fieldA n1 t15) <|
 m p18 t2 <|
 a p17 n90 [] <|
 a p19 n91 [t13, t16, t17, q1, t18] <|
 .done, []⟩
theorem c61 : compFn Tryz.prog pl61 Tryz.f61 = some F61 := by kernel_rfl

def pl62 : Plans := []
def F62 : CFun := ⟨n8, .seq (.region <|
 m p3 q7 <|
 .done) <|
 .seq (.seq (.region <|
 m p4 t1 <|
 o p5 (.eqnil false n1 t4 q7) <|
 .done) <|
 .cond t5 (.seq (.region <|
 m p3 q7 <|
 .done) <|
 .ret) <|
 .skip) <|
 .seq (.region <|
 o p6 (.bslice z16 n11 n0 []) <|
 m p7 t1 <|
 o p8 (.append n120 n11 t6 t7) <|
 m p3 t8 <|
 .done) <|
 .ret, [.tmp p3]⟩
theorem c62 : compFn Tryz.prog pl62 Tryz.f62 = some F62 := by kernel_rfl

def pl63 : Plans := [(6, [K [] [9] 38, K [0] [38] 39, K [] [10] 40, K [2] [40] 41, K [1, 0, 1] [39] 9, K (3 :: 4 :: (r 0 5 [])) [41] 10], [Q 0 1 [1, 4, 5], Q 1 1 [4, 5], Q 2 1 [3, 5], Q 3 1 [5], Q 4 1 [5], Q 5 1 []], .node (Q 0 1 [1, 4, 5]) <| .node (Q 1 1 [4, 5]) <| .node (Q 2 1 [3, 5]) <| .node (Q 3 1 [5]) <| .node (Q 4 1 [5]) <| .node (Q 5 1 []) <| .done),
  (3, [K [] [9] 21, K [0] [21] 22, K [1] [22] 23, K [] [10] 24, K [3] [24] 25, K [4] [25] 26, K [2, 5] [23, 26] 27, K [6] [27] 20, K [7] [20] 28, K [7] [20] 29, K [] [] 12, J (10 :: 8 :: 6 :: (r 0 9 [10])) [12, 28], K (9 :: 11 :: (r 0 12 [])) [29] 13], [Q 0 1 [1, 2, 6, 7, 8, 9, 11, 12], Q 1 1 [2, 6, 7, 8, 9, 11, 12], Q 2 2 [6, 7, 8, 9, 11, 12], Q 3 1 (r 4 6 [11, 12]), Q 4 1 (r 5 5 [11, 12]), Q 5 2 [6, 7, 8, 9, 11, 12], Q 6 0 [], Q 7 1 [8, 9, 11, 12], Q 8 1 [11, 12], Q 9 1 [12], Q 10 0 [], Q 11 0 [], Q 12 1 []], .node (Q 0 1 [1, 2, 6, 7, 8, 9, 11, 12]) <| .node (Q 1 1 [2, 6, 7, 8, 9, 11, 12]) <| .node (Q 2 2 [6, 7, 8, 9, 11, 12]) <| .node (Q 3 1 (r 4 6 [11, 12])) <| .node (Q 4 1 (r 5 5 [11, 12])) <| .node (Q 5 2 [6, 7, 8, 9, 11, 12]) <| .fork (Q 6 0 []) [27, 12] (.node (Q 7 1 [8, 9, 11, 12]) <| .node (Q 8 1 [11, 12]) <| .node (Q 9 1 [12]) <| .node (Q 10 0 []) <| .node (Q 11 0 []) <| .node (Q 12 1 []) <| .done) <| .node (Q 10 0 []) <| .node (Q 6 0 []) <| .node (Q 7 1 [8, 9, 11, 12]) <| .node (Q 8 1 [11, 12]) <| .node (Q 9 1 [12]) <| .node (Q 11 0 []) <| .node (Q 12 1 []) <| .done),
  (11, [K [] [10] 85, K [0] [85] 86, K [1] [86] 87, K [2] [87] 88, K [3] [9, 88] 89, K [4, 3] [89, 88] 90, K [5, 3] [90, 88] 91, K [6, 3] [91, 88] 92, K [3] [10, 88] 93, K [8, 3] [93, 88] 94, K [9, 3] [94, 88] 95, K [10, 3] [95, 88] 96, K [7, 11, 3] [92, 96, 88] 97, K [3, 12] [88, 97] 98, K [13, 3] [98] 84], [Q 0 1 (r 1 14 []), Q 1 1 (r 2 13 []), Q 2 1 (r 3 12 []), Q 3 1 (r 4 11 []), Q 4 1 [5, 6, 7, 12, 13, 14], Q 5 1 [6, 7, 12, 13, 14], Q 6 1 [7, 12, 13, 14], Q 7 2 [12, 13, 14], Q 8 1 (r 9 6 []), Q 9 1 (r 10 5 []), Q 10 1 [11, 12, 13, 14], Q 11 2 [12, 13, 14], Q 12 1 [13, 14], Q 13 1 [14], Q 14 1 []], .node (Q 0 1 (r 1 14 [])) <| .node (Q 1 1 (r 2 13 [])) <| .node (Q 2 1 (r 3 12 [])) <| .node (Q 3 1 (r 4 11 [])) <| .node (Q 4 1 [5, 6, 7, 12, 13, 14]) <| .node (Q 5 1 [6, 7, 12, 13, 14]) <| .node (Q 6 1 [7, 12, 13, 14]) <| .node (Q 7 2 [12, 13, 14]) <| .node (Q 8 1 (r 9 6 [])) <| .node (Q 9 1 (r 10 5 [])) <| .node (Q 10 1 [11, 12, 13, 14]) <| .node (Q 11 2 [12, 13, 14]) <| .node (Q 12 1 [13, 14]) <| .node (Q 13 1 [14]) <| .node (Q 14 1 []) <| .done),
  (9, [K [] [11] 71, K [] [10] 72, K [1] [72] 73, K [2] [73] 74, K [3] [74] 75, K [] [10] 76, K [5] [76] 77, K [6] [77] 78, K [4, 7] [75, 78] 79, K [8] [79] 80, K [0, 9] [71, 80] 81, K (10 :: 10 :: (r 0 11 [])) [81] 11], [Q 0 1 [10, 11], Q 1 1 [2, 3, 4, 8, 9, 10, 11], Q 2 1 [3, 4, 8, 9, 10, 11], Q 3 1 [4, 8, 9, 10, 11], Q 4 2 [8, 9, 10, 11], Q 5 1 (r 6 6 []), Q 6 1 (r 7 5 []), Q 7 2 [8, 9, 10, 11], Q 8 1 [9, 10, 11], Q 9 0 [], Q 10 0 [], Q 11 1 []], .node (Q 0 1 [10, 11]) <| .node (Q 1 1 [2, 3, 4, 8, 9, 10, 11]) <| .node (Q 2 1 [3, 4, 8, 9, 10, 11]) <| .node (Q 3 1 [4, 8, 9, 10, 11]) <| .node (Q 4 2 [8, 9, 10, 11]) <| .node (Q 5 1 (r 6 6 [])) <| .node (Q 6 1 (r 7 5 [])) <| .node (Q 7 2 [8, 9, 10, 11]) <| .node (Q 8 1 [9, 10, 11]) <| .node (Q 9 0 []) <| .node (Q 10 0 []) <| .node (Q 11 1 []) <| .done),
  (8, [K [] [9] 52, K [0] [52] 53, K [1] [53] 54, K [2] [54] 55, K [3] [10, 55] 56, K [4, 3] [56, 55] 57, K [5, 3] [57, 55] 58, K [6, 3, 3] [58, 55] 59, K [7] [10, 59] 60, K [8, 7] [60, 59] 61, K [9, 7] [61, 59] 62, K [10, 7] [62, 59] 63, K [7] [9, 59] 64, K [12, 7] [64, 59] 65, K [13, 7] [65, 59] 66, K [14, 7] [66, 59] 67, K [11, 15, 7] [63, 67, 59] 68, K [7, 16, 3] [59, 68, 55] 69, K [3, 17] [55, 69] 70, K [18, 7] [70] 51], [Q 0 1 (r 1 19 []), Q 1 1 (r 2 18 []), Q 2 1 (r 3 17 []), Q 3 1 (r 4 16 []), Q 4 1 (r 5 15 []), Q 5 1 (r 6 14 []), Q 6 1 (r 7 13 []), Q 7 1 (r 8 12 []), Q 8 1 [9, 10, 11, 16, 17, 18, 19], Q 9 1 [10, 11, 16, 17, 18, 19], Q 10 1 [11, 16, 17, 18, 19], Q 11 2 [16, 17, 18, 19], Q 12 1 (r 13 7 []), Q 13 1 (r 14 6 []), Q 14 1 (r 15 5 []), Q 15 2 [16, 17, 18, 19], Q 16 1 [17, 18, 19], Q 17 1 [18, 19], Q 18 1 [19], Q 19 1 []], .node (Q 0 1 (r 1 19 [])) <| .node (Q 1 1 (r 2 18 [])) <| .node (Q 2 1 (r 3 17 [])) <| .node (Q 3 1 (r 4 16 [])) <| .node (Q 4 1 (r 5 15 [])) <| .node (Q 5 1 (r 6 14 [])) <| .node (Q 6 1 (r 7 13 [])) <| .node (Q 7 1 (r 8 12 [])) <| .node (Q 8 1 [9, 10, 11, 16, 17, 18, 19]) <| .node (Q 9 1 [10, 11, 16, 17, 18, 19]) <| .node (Q 10 1 [11, 16, 17, 18, 19]) <| .node (Q 11 2 [16, 17, 18, 19]) <| .node (Q 12 1 (r 13 7 [])) <| .node (Q 13 1 (r 14 6 [])) <| .node (Q 14 1 (r 15 5 [])) <| .node (Q 15 2 [16, 17, 18, 19]) <| .node (Q 16 1 [17, 18, 19]) <| .node (Q 17 1 [18, 19]) <| .node (Q 18 1 [19]) <| .node (Q 19 1 []) <| .done),
  (1, [K [] [0] 14, K [] [5] 15, K [0, 1] [14, 15] 16, K [] [2] 17, K [] [7] 18, K [3, 4, 2] [17, 18] 19, K [2, 5, 0, 1, 2] [16] 9, K (5 :: 6 :: (r 0 7 [])) [19] 10], [Q 0 1 [2, 5, 6, 7], Q 1 2 [2, 5, 6, 7], Q 2 0 [], Q 3 1 [5, 6, 7], Q 4 2 [5, 6, 7], Q 5 0 [], Q 6 1 [7], Q 7 1 []], .node (Q 0 1 [2, 5, 6, 7]) <| .node (Q 1 2 [2, 5, 6, 7]) <| .node (Q 3 1 [5, 6, 7]) <| .node (Q 4 2 [5, 6, 7]) <| .node (Q 2 0 []) <| .node (Q 5 0 []) <| .node (Q 6 1 [7]) <| .node (Q 7 1 []) <| .done)]
def F63 : CFun := ⟨n110, .seq (.region <|
 o p6 (.box t2) <|
 o p8 (.box t4) <|
 m p9 q7 <|
 .done) <|
 .scope <| .seq (.region <|
 m p15 t1 <|
 o p16 (.loadN n4 t6) <|
 m p18 t3 <|
 o p19 (.loadN n4 t8) <|
 .step ⟨(some p17), none, .call n92 [t15, t16]⟩ [⟨(some p19), none, .op (.loadN n4 t8)⟩] <|
 a p20 n92 [t18, t19] <|
 m p10 t17 <|
 m p11 t20 <|
 .done) <|
 .seq (.region <|
 m p12 q7 <|
 .done) <|
 .seq (.skip) <|
 .seq (.block n0 <| .loop <| .block n1 <| .block n2 <| .seq (.region <|
 m p44 t10 <|
 o p45 (.len t44) <|
 o p46 (.cmp .eql t45 q1) <|
 m p47 t46 <|
 .step ⟨(some p48), (some (p47, true)), .op (.move t11)⟩ [] <|
 .step ⟨(some p49), (some (p47, true)), .op (.len t48)⟩ [] <|
 .step ⟨(some p50), (some (p47, true)), .op (.cmp .eql t49 q1)⟩ [] <|
 o p51 (.pick t47 t50 q0) <|
 m p43 t51 <|
 .done) <|
 .cond t43 (.exit n0) <|
 .seq (.region <|
 m p53 t10 <|
 o p54 (.len t53) <|
 o p55 (.cmp .eql t54 q1) <|
 m p56 t55 <|
 .step ⟨(some p57), (some (p56, false)), .op (.move t11)⟩ [] <|
 .step ⟨(some p58), (some (p56, false)), .op (.len t57)⟩ [] <|
 .step ⟨(some p59), (some (p56, false)), .op (.cmp .gtr t58 q1)⟩ [] <|
 .step ⟨(some p60), (some (p56, false)), .op (.move t59)⟩ [] <|
 .step ⟨(some p61), (some (p60, true)), .op (.move t11)⟩ [] <|
 .step ⟨(some p62), (some (p60, true)), .op (.idxS n11 t61 q1)⟩ [] <|
 .step ⟨(some p63), (some (p60, true)), .op (.fieldA n0 t62)⟩ [] <|
 .step ⟨(some p64), (some (p60, true)), .op (.load1 t63)⟩ [] <|
 .step ⟨(some p65), (some (p60, true)), .op (.move t10)⟩ [] <|
 .step ⟨(some p66), (some (p60, true)), .op (.idxS n11 t65 q1)⟩ [] <|
 .step ⟨(some p67), (some (p60, true)), .op (.fieldA n0 t66)⟩ [] <|
 .step ⟨(some p68), (some (p60, true)), .op (.load1 t67)⟩ [] <|
 .step ⟨(some p69), (some (p60, true)), .op (.cmp .lss t64 t68)⟩ [] <|
 .step ⟨(some p70), (some (p56, false)), .op (.pick t60 t69 q0)⟩ [] <|
 o p71 (.pick t56 q12 t70) <|
 m p52 t71 <|
 .done) <|
 .cond t52 (.seq (.region <|
 m p72 t12 <|
 m p73 t11 <|
 o p74 (.idxS n11 t73 q1) <|
 o p75 (.fieldA n0 t74) <|
 o p76 (.load1 t75) <|
 m p77 t11 <|
 o p78 (.idxS n11 t77 q1) <|
 o p79 (.loadN n11 t78) <|
 o p80 (.build z19 [(n0, n1, q3), (n1, n1, t76), (n2, n11, t79)]) <|
 o p81 (.bslice z19 n25 n1 [(n0, n25, t80)]) <|
 o p82 (.append n264 n25 t72 t81) <|
 m p12 t82 <|
 .done) <|
 .region <|
 m p83 t11 <|
 o p84 (.slice n11 t83 (some q3) none none) <|
 m p11 t84 <|
 .done) <|
 .seq (.region <|
 m p86 t11 <|
 o p87 (.len t86) <|
 o p88 (.cmp .eql t87 q1) <|
 m p89 t88 <|
 .step ⟨(some p90), (some (p89, false)), .op (.move t10)⟩ [] <|
 .step ⟨(some p91), (some (p89, false)), .op (.idxS n11 t90 q1)⟩ [] <|
 .step ⟨(some p92), (some (p89, false)), .op (.fieldA n0 t91)⟩ [] <|
 .step ⟨(some p93), (some (p89, false)), .op (.load1 t92)⟩ [] <|
 .step ⟨(some p94), (some (p89, false)), .op (.move t11)⟩ [] <|
 .step ⟨(some p95), (some (p89, false)), .op (.idxS n11 t94 q1)⟩ [] <|
 .step ⟨(some p96), (some (p89, false)), .op (.fieldA n0 t95)⟩ [] <|
 .step ⟨(some p97), (some (p89, false)), .op (.load1 t96)⟩ [] <|
 .step ⟨(some p98), (some (p89, false)), .op (.cmp .lss t93 t97)⟩ [] <|
 o p99 (.pick t89 q12 t98) <|
 m p85 t99 <|
 .done) <|
 .cond t85 (.seq (.region <|
 m p100 t12 <|
 m p101 t10 <|
 o p102 (.idxS n11 t101 q1) <|
 o p103 (.fieldA n0 t102) <|
 o p104 (.load1 t103) <|
 o p105 (.build z19 [(n0, n1, q6), (n1, n1, t104)]) <|
 o p106 (.bslice z19 n25 n1 [(n0, n25, t105)]) <|
 o p107 (.append n264 n25 t100 t106) <|
 m p12 t107 <|
 .done) <|
 .region <|
 m p108 t10 <|
 o p109 (.slice n11 t108 (some q3) none none) <|
 m p10 t109 <|
 .done) <|
 .seq (.seq (.region <|
 m p22 t10 <|
 o p23 (.idxS n11 t22 q1) <|
 o p24 (.loadN n11 t23) <|
 m p25 t11 <|
 o p26 (.idxS n11 t25 q1) <|
 o p27 (.loadN n11 t26) <|
 .fork [p28, p13] ⟨(some p28), none, .call n93 [t24, t27]⟩ [] (
 m p21 t28 <|
 o p29 (.extract n0 t21) <|
 o p30 (.extract n1 t21) <|
 o p13 (.alloc z20) <|
 e (.storeN n12 t13 t29) <|
 m p14 t30 <|
 .done) <|
 .step ⟨(some p13), none, .op (.alloc z20)⟩ [⟨(some p24), none, .op (.loadN n11 t23)⟩, ⟨(some p27), none, .op (.loadN n11 t26)⟩] <|
 a p28 n93 [t24, t27] <|
 m p21 t28 <|
 o p29 (.extract n0 t21) <|
 o p30 (.extract n1 t21) <|
 e (.storeN n12 t13 t29) <|
 m p14 t30 <|
 .done) <|
 .seq (.region <|
 m p31 t14 <|
 .done) <|
 .cond t31 (.region <|
 m p32 t12 <|
 o p33 (.fieldA n0 t13) <|
 o p34 (.load1 t33) <|
 o p35 (.loadN n12 t13) <|
 o p36 (.build z19 [(n0, n1, q2), (n1, n1, t34), (n13, n12, t35)]) <|
 o p37 (.bslice z19 n25 n1 [(n0, n25, t36)]) <|
 o p38 (.append n264 n25 t32 t37) <|
 m p12 t38 <|
 .done) <|
 .skip) <|
 .region <|
 m p39 t10 <|
 o p40 (.slice n11 t39 (some q3) none none) <|
 m p41 t11 <|
 o p42 (.slice n11 t41 (some q3) none none) <|
 m p10 t40 <|
 m p11 t42 <|
 .done) <|
 .seq (.region <|
 m p110 t12 <|
 m p9 t110 <|
 .done) <|
 .ret, [.tmp p9]⟩
theorem c63 : compFn Tryz.prog pl63 Tryz.f63 = some F63 := by kernel_rfl

def pl64 : Plans := []
def F64 : CFun := ⟨n25, .seq (.region <|
 m p5 q7 <|
 .done) <|
 .seq (.region <|
 m p6 q7 <|
 .done) <|
 .seq (.seq (.region <|
 m p9 t2 <|
 o p10 (.len t9) <|
 m p11 q1 <|
 .done) <|
 .block n0 <| .loop <| .seq (.region <|
 o p12 (.cmp .lss t11 t10) <|
 .done) <|
 .seq (.cond t12 (.skip) <|
 .exit n0) <|
 .seq (.block n1 <| .seq (.region <|
 o p13 (.idxS n1 t9 t11) <|
 o p14 (.load1 t13) <|
 m p8 t14 <|
 .done) <|
 .region <|
 m p15 t6 <|
 m p16 t1 <|
 o p17 (.nilchk t16) <|
 o p18 (.fieldA n0 t17) <|
 o p19 (.load1 t18) <|
 m p20 t8 <|
 o p21 (.lookup false v0 false t19 t20) <|
 o p22 (.bslice z8 n11 n1 [(n0, n11, t21)]) <|
 o p23 (.append n120 n11 t15 t22) <|
 m p6 t23 <|
 .done) <|
 .region <|
 o p24 (.ar .add t11 q3) <|
 m p11 t24 <|
 .done) <|
 .seq (.region <|
 m p25 t6 <|
 m p5 t25 <|
 .done) <|
 .ret, [.tmp p5]⟩
theorem c64 : compFn Tryz.prog pl64 Tryz.f64 = some F64 := by kernel_rfl

def pl65 : Plans := []
def F65 : CFun := ⟨n9, .seq (.region <|
 m p3 q7 <|
 .done) <|
 .seq (.region <|
 m p5 t1 <|
 a p6 n94 [t5] <|
 m p4 t6 <|
 .done) <|
 .seq (.region <|
 m p7 t4 <|
 a p8 n95 [t7] <|
 .done) <|
 .seq (.region <|
 m p9 t4 <|
 m p3 t9 <|
 .done) <|
 .ret, [.tmp p3]⟩
theorem c65 : compFn Tryz.prog pl65 Tryz.f65 = some F65 := by kernel_rfl

def pl66 : Plans := []
def F66 : CFun := ⟨n4, .seq (.region <|
 o p2 (.box t1) <|
 m p3 q38 <|
 .done) <|
 .seq (.region <|
 o p4 (.mkfunc n96 [t2]) <|
 m p3 t4 <|
 .done) <|
 .ret, [.tmp p3]⟩
theorem c66 : compFn Tryz.prog pl66 Tryz.f66 = some F66 := by kernel_rfl

def pl67 : Plans := []
def F67 : CFun := ⟨n8, .seq (.region <|
 m p3 q7 <|
 .done) <|
 .seq (.seq (.region <|
 m p4 t1 <|
 o p5 (.eqnil false n1 t4 q7) <|
 .done) <|
 .cond t5 (.seq (.region <|
 m p3 q7 <|
 .done) <|
 .ret) <|
 .skip) <|
 .seq (.region <|
 o p6 (.bslice z16 n2 n0 []) <|
 m p7 t1 <|
 o p8 (.append n16 n2 t6 t7) <|
 m p3 t8 <|
 .done) <|
 .ret, [.tmp p3]⟩
theorem c67 : compFn Tryz.prog pl67 Tryz.f67 = some F67 := by kernel_rfl

def pl68 : Plans := []
def F68 : CFun := ⟨n8, .seq (.region <|
 m p3 q7 <|
 .done) <|
 .seq (.seq (.region <|
 m p4 t1 <|
 o p5 (.eqnil false n1 t4 q7) <|
 .done) <|
 .cond t5 (.seq (.region <|
 m p3 q7 <|
 .done) <|
 .ret) <|
 .skip) <|
 .seq (.region <|
 o p6 (.bslice z16 n22 n0 []) <|
 m p7 t1 <|
 o p8 (.append n216 n22 t6 t7) <|
 m p3 t8 <|
 .done) <|
 .ret, [.tmp p3]⟩
theorem c68 : compFn Tryz.prog pl68 Tryz.f68 = some F68 := by kernel_rfl

def pl69 : Plans := []
def F69 : CFun := ⟨n14, .seq (.region <|
 m p6 t1 <|
 o p7 (.len t6) <|
 m p5 t7 <|
 .done) <|
 .region <|
 m p8 t1 <|
 m p9 t5 <|
 m p10 t5 <|
 o p11 (.conv .u64 t10) <|
 a p12 n98 [t11] <|
 m p13 t2 <|
 a p14 n97 [t8, q1, t9, t12, t13] <|
 .done, []⟩
theorem c69 : compFn Tryz.prog pl69 Tryz.f69 = some F69 := by kernel_rfl

def pl70 : Plans := []
def F70 : CFun := ⟨n10, .seq (.region <|
 o p3 (.box t1) <|
 o p4 (.box t2) <|
 m p5 q1 <|
 .done) <|
 .seq (.region <|
 o p6 (.fieldA n0 t3) <|
 o p7 (.load1 t6) <|
 o p8 (.fieldA n0 t4) <|
 o p9 (.load1 t8) <|
 o p10 (.ar .sub t7 t9) <|
 m p5 t10 <|
 .done) <|
 .ret, [.tmp p5]⟩
theorem c70 : compFn Tryz.prog pl70 Tryz.f70 = some F70 := by kernel_rfl

def pl71 : Plans := []
def F71 : CFun := ⟨n29, .seq (.region <|
 m p5 q1 <|
 .done) <|
 .seq (.seq (.region <|
 m p9 t1 <|
 o p10 (.nilchk t9) <|
 o p11 (.fieldA n0 t10) <|
 o p12 (.load1 t11) <|
 m p13 t2 <|
 o p14 (.lookup false v0 true t12 t13) <|
 m p8 t14 <|
 o p15 (.extract n0 t8) <|
 o p16 (.extract n1 t8) <|
 o p6 (.alloc z8) <|
 e (.storeN n11 t6 t15) <|
 m p7 t16 <|
 .done) <|
 .seq (.region <|
 m p17 t7 <|
 o p18 (.not t17) <|
 .done) <|
 .cond t18 (.seq (.region <|
 m p5 q9 <|
 .done) <|
 .ret) <|
 .skip) <|
 .seq (.region <|
 m p19 t1 <|
 o p20 (.nilchk t19) <|
 o p21 (.fieldA n0 t20) <|
 o p22 (.load1 t21) <|
 m p23 t2 <|
 e (.delete false t22 t23) <|
 .done) <|
 .seq (.region <|
 m p24 t1 <|
 o p25 (.nilchk t24) <|
 o p26 (.fieldA n1 t25) <|
 o p27 (.load1 t26) <|
 m p28 t2 <|
 a p29 n60 [t27, t28] <|
 .done) <|
 .seq (.region <|
 m p5 q1 <|
 .done) <|
 .ret, [.tmp p5]⟩
theorem c71 : compFn Tryz.prog pl71 Tryz.f71 = some F71 := by kernel_rfl

def pl72 : Plans := [(9, [K [] [6] 49, K [] [7] 50, K [] [8] 51, K [0] [49] 52, K [3] [52] 53, K [4, 1, 0, 1, 2] [53, 50] 54, J [5, 2, 0, 1, 2] [54, 51]], [Q 0 1 [3, 4, 5, 6], Q 1 1 [5, 6], Q 2 2 [5, 6], Q 3 1 [4, 5, 6], Q 4 1 [5, 6], Q 5 1 [6], Q 6 0 []], .node (Q 0 1 [3, 4, 5, 6]) <| .node (Q 1 1 [5, 6]) <| .node (Q 2 2 [5, 6]) <| .node (Q 3 1 [4, 5, 6]) <| .node (Q 4 1 [5, 6]) <| .node (Q 5 1 [6]) <| .node (Q 6 0 []) <| .done)]
def F72 : CFun := ⟨n57, .seq (.region <|
 m p5 q13 <|
 m p6 q1 <|
 .done) <|
 .seq (.seq (.region <|
 m p10 t1 <|
 o p11 (.cmp .lss t10 q3) <|
 m p12 t11 <|
 .step ⟨(some p13), (some (p12, false)), .op (.move t1)⟩ [] <|
 .step ⟨(some p14), (some (p12, false)), .op (.cmp .gtr t13 q8)⟩ [] <|
 o p15 (.pick t12 q12 t14) <|
 m p16 t15 <|
 .step ⟨(some p17), (some (p16, false)), .op (.move t2)⟩ [] <|
 .step ⟨(some p18), (some (p16, false)), .op (.len t17)⟩ [] <|
 .step ⟨(some p19), (some (p16, false)), .op (.cmp .neq t18 q5)⟩ [] <|
 o p20 (.pick t16 q12 t19) <|
 .done) <|
 .cond t20 (.seq (.region <|
 m p5 q13 <|
 m p6 q15 <|
 .done) <|
 .ret) <|
 .skip) <|
 .seq (.region <|
 m p21 t1 <|
 o p22 (.build z9 [(n0, n1, t21)]) <|
 o p23 (.box t22) <|
 m p7 t23 <|
 .done) <|
 .seq (.seq (.region <|
 m p24 t2 <|
 o p25 (.len t24) <|
 m p26 q1 <|
 .done) <|
 .block n0 <| .loop <| .seq (.region <|
 o p27 (.cmp .lss t26 t25) <|
 .done) <|
 .seq (.cond t27 (.skip) <|
 .exit n0) <|
 .seq (.block n1 <| .seq (.region <|
 m p28 t26 <|
 o p29 (.idxS n2 t24 t26) <|
 o p30 (.loadN n2 t29) <|
 o p9 (.alloc z0) <|
 m p8 t28 <|
 e (.storeN n2 t9 t30) <|
 .done) <|
 .seq (.seq (.region <|
 o p31 (.fieldA n0 t9) <|
 o p32 (.load1 t31) <|
 o p33 (.cmp .lss t32 q1) <|
 m p34 t33 <|
 .step ⟨(some p35), (some (p34, false)), .op (.fieldA n0 t9)⟩ [] <|
 .step ⟨(some p36), (some (p34, false)), .op (.load1 t35)⟩ [] <|
 .step ⟨(some p37), (some (p34, false)), .op (.move t1)⟩ [] <|
 .step ⟨(some p38), (some (p34, false)), .op (.cmp .geq t36 t37)⟩ [] <|
 o p39 (.pick t34 q12 t38) <|
 m p40 t39 <|
 .step ⟨(some p41), (some (p40, false)), .op (.fieldA n1 t9)⟩ [] <|
 .step ⟨(some p42), (some (p40, false)), .op (.load1 t41)⟩ [] <|
 .step ⟨(some p43), (some (p40, false)), .op (.cmp .lss t42 q1)⟩ [] <|
 o p44 (.pick t40 q12 t43) <|
 m p45 t44 <|
 .step ⟨(some p46), (some (p45, false)), .op (.fieldA n1 t9)⟩ [] <|
 .step ⟨(some p47), (some (p45, false)), .op (.load1 t46)⟩ [] <|
 .step ⟨(some p48), (some (p45, false)), .op (.cmp .gtr t47 q35)⟩ [] <|
 o p49 (.pick t45 q12 t48) <|
 .done) <|
 .cond t49 (.seq (.region <|
 m p5 q13 <|
 m p6 q15 <|
 .done) <|
 .ret) <|
 .skip) <|
 .region <|
 m p50 t7 <|
 m p51 t8 <|
 o p52 (.loadN n2 t9) <|
 o p53 (.nilchk t50) <|
 o p54 (.fieldA n1 t53) <|
 o p55 (.idxA n16 n2 t54 t51) <|
 e (.storeN n2 t55 t52) <|
 .done) <|
 .region <|
 o p56 (.ar .add t26 q3) <|
 m p26 t56 <|
 .done) <|
 .seq (.region <|
 m p57 t7 <|
 m p5 t57 <|
 m p6 q1 <|
 .done) <|
 .ret, [.tmp p5, .tmp p6]⟩
theorem c72 : compFn Tryz.prog pl72 Tryz.f72 = some F72 := by kernel_rfl

def pl73 : Plans := []
def F73 : CFun := ⟨n6, .seq (.region <|
 o p2 (.box t1) <|
 m p3 q13 <|
 .done) <|
 .seq (.region <|
 o p4 (.loadN n28 t2) <|
 o p5 (.build z7 [(n0, n28, t4)]) <|
 o p6 (.box t5) <|
 m p3 t6 <|
 .done) <|
 .ret, [.tmp p3]⟩
theorem c73 : compFn Tryz.prog pl73 Tryz.f73 = some F73 := by kernel_rfl

def pl74 : Plans := []
def F74 : CFun := ⟨n16, .seq (.region <|
 o p5 (.alloc z0) <|
 m p6 q0 <|
 .done) <|
 .seq (.seq (.region <|
 m p7 t2 <|
 a p8 n50 [t7] <|
 o p9 (.not t8) <|
 .done) <|
 .cond t9 (.seq (.region <|
 o p10 (.build z0 []) <|
 e (.storeN n2 t5 t10) <|
 m p6 q0 <|
 .done) <|
 .ret) <|
 .skip) <|
 .seq (.region <|
 m p11 t1 <|
 m p12 t2 <|
 o p13 (.nilchk t11) <|
 o p14 (.fieldA n1 t13) <|
 o p15 (.idxA n16 n2 t14 t12) <|
 o p16 (.loadN n2 t15) <|
 e (.storeN n2 t5 t16) <|
 m p6 q12 <|
 .done) <|
 .ret, [.cellN n2 p5, .tmp p6]⟩
theorem c74 : compFn Tryz.prog pl74 Tryz.f74 = some F74 := by kernel_rfl

def pl75 : Plans := []
def F75 : CFun := ⟨n9, .seq (.region <|
 m p5 q0 <|
 .done) <|
 .seq (.region <|
 m p6 t1 <|
 m p7 t2 <|
 a p8 n99 [t6, t7] <|
 o p9 (.cmp .geq t8 q1) <|
 m p5 t9 <|
 .done) <|
 .ret, [.tmp p5]⟩
theorem c75 : compFn Tryz.prog pl75 Tryz.f75 = some F75 := by kernel_rfl

def pl76 : Plans := []
def F76 : CFun := ⟨n8, .seq (.region <|
 o p3 (.box t1) <|
 m p4 q0 <|
 .done) <|
 .seq (.region <|
 o p5 (.fieldA n0 t3) <|
 o p6 (.load1 t5) <|
 o p7 (.load1 t2) <|
 o p8 (.cmp .eql t6 t7) <|
 m p4 t8 <|
 .done) <|
 .ret, [.tmp p4]⟩
theorem c76 : compFn Tryz.prog pl76 Tryz.f76 = some F76 := by kernel_rfl

def pl77 : Plans := []
def F77 : CFun := ⟨n21, .seq (.region <|
 o p2 (.box t1) <|
 m p3 q0 <|
 .done) <|
 .seq (.region <|
 o p4 (.fieldA n0 t2) <|
 o p5 (.load1 t4) <|
 o p6 (.cmp .geq t5 q1) <|
 m p7 t6 <|
 .step ⟨(some p8), (some (p7, true)), .op (.fieldA n0 t2)⟩ [] <|
 .step ⟨(some p9), (some (p7, true)), .op (.load1 t8)⟩ [] <|
 .step ⟨(some p10), (some (p7, true)), .op (.cmp .lss t9 q37)⟩ [] <|
 o p11 (.pick t7 t10 q0) <|
 m p12 t11 <|
 .step ⟨(some p13), (some (p12, true)), .op (.fieldA n1 t2)⟩ [] <|
 .step ⟨(some p14), (some (p12, true)), .op (.load1 t13)⟩ [] <|
 .step ⟨(some p15), (some (p12, true)), .op (.cmp .geq t14 q1)⟩ [] <|
 o p16 (.pick t12 t15 q0) <|
 m p17 t16 <|
 .step ⟨(some p18), (some (p17, true)), .op (.fieldA n1 t2)⟩ [] <|
 .step ⟨(some p19), (some (p17, true)), .op (.load1 t18)⟩ [] <|
 .step ⟨(some p20), (some (p17, true)), .op (.cmp .lss t19 q37)⟩ [] <|
 o p21 (.pick t17 t20 q0) <|
 m p3 t21 <|
 .done) <|
 .ret, [.tmp p3]⟩
theorem c77 : compFn Tryz.prog pl77 Tryz.f77 = some F77 := by kernel_rfl

def pl78 : Plans := []
def F78 : CFun := ⟨n11, .seq (.region <|
 m p5 q1 <|
 .done) <|
 .seq (.region <|
 m p6 t1 <|
 o p7 (.conv .u16 t6) <|
 m p8 t2 <|
 o p9 (.conv .u16 t8) <|
 a p10 n100 [t7, t9] <|
 o p11 (.conv .i64 t10) <|
 m p5 t11 <|
 .done) <|
 .ret, [.tmp p5]⟩
theorem c78 : compFn Tryz.prog pl78 Tryz.f78 = some F78 := by kernel_rfl

def pl79 : Plans := []
def F79 : CFun := ⟨n19, .seq (.region <|
 o p5 (.alloc z8) <|
 m p6 q0 <|
 .done) <|
 .seq (.region <|
 m p10 t1 <|
 o p11 (.nilchk t10) <|
 o p12 (.fieldA n0 t11) <|
 o p13 (.load1 t12) <|
 m p14 t2 <|
 o p15 (.lookup false v0 true t13 t14) <|
 m p9 t15 <|
 o p16 (.extract n0 t9) <|
 o p17 (.extract n1 t9) <|
 o p7 (.alloc z8) <|
 e (.storeN n11 t7 t16) <|
 m p8 t17 <|
 .done) <|
 .seq (.region <|
 o p18 (.loadN n11 t7) <|
 m p19 t8 <|
 e (.storeN n11 t5 t18) <|
 m p6 t19 <|
 .done) <|
 .ret, [.cellN n11 p5, .tmp p6]⟩
theorem c79 : compFn Tryz.prog pl79 Tryz.f79 = some F79 := by kernel_rfl

def pl80 : Plans := []
def F80 : CFun := ⟨n8, .seq (.region <|
 m p3 q1 <|
 .done) <|
 .seq (.region <|
 m p4 t1 <|
 o p5 (.nilchk t4) <|
 o p6 (.fieldA n0 t5) <|
 o p7 (.load1 t6) <|
 o p8 (.lenmap t7) <|
 m p3 t8 <|
 .done) <|
 .ret, [.tmp p3]⟩
theorem c80 : compFn Tryz.prog pl80 Tryz.f80 = some F80 := by kernel_rfl

def pl81 : Plans := []
def F81 : CFun := ⟨n17, .seq (.region <|
 o p4 (.box t2) <|
 m p5 q0 <|
 .done) <|
 .seq (.region <|
 o p9 (.loadN n2 t4) <|
 a p10 n51 [t9] <|
 m p8 t10 <|
 o p11 (.extract n0 t8) <|
 o p12 (.extract n1 t8) <|
 m p6 t11 <|
 m p7 t12 <|
 .done) <|
 .seq (.region <|
 m p13 t1 <|
 m p14 t6 <|
 a p15 n101 [t13, t14] <|
 o p16 (.len t15) <|
 o p17 (.cmp .geq t16 q18) <|
 m p5 t17 <|
 .done) <|
 .ret, [.tmp p5]⟩
theorem c81 : compFn Tryz.prog pl81 Tryz.f81 = some F81 := by kernel_rfl

def pl82 : Plans := []
def F82 : CFun := ⟨n22, .seq (.region <|
 o p3 (.box t1) <|
 o p4 (.box t2) <|
 m p5 q0 <|
 .done) <|
 .seq (.region <|
 o p11 (.loadN n2 t3) <|
 a p12 n51 [t11] <|
 m p10 t12 <|
 o p13 (.extract n0 t10) <|
 o p14 (.extract n1 t10) <|
 m p6 t13 <|
 m p7 t14 <|
 .done) <|
 .seq (.region <|
 o p16 (.loadN n2 t4) <|
 a p17 n51 [t16] <|
 m p15 t17 <|
 o p18 (.extract n0 t15) <|
 o p19 (.extract n1 t15) <|
 m p8 t18 <|
 m p9 t19 <|
 .done) <|
 .seq (.region <|
 m p20 t6 <|
 m p21 t8 <|
 o p22 (.cmp .neq t20 t21) <|
 m p5 t22 <|
 .done) <|
 .ret, [.tmp p5]⟩
theorem c82 : compFn Tryz.prog pl82 Tryz.f82 = some F82 := by kernel_rfl

def pl83 : Plans := []
def F83 : CFun := ⟨n63, .seq (.region <|
 m p7 q16 <|
 .done) <|
 .seq (.region <|
 m p11 t7 <|
 m p8 q1 <|
 m p9 t11 <|
 .done) <|
 .seq (.block n0 <| .loop <| .seq (.seq (.region <|
 m p12 t9 <|
 m p13 t2 <|
 o p14 (.cmp .leq t12 t13) <|
 .done) <|
 .cond t14 (.skip) <|
 .exit n0) <|
 .block n1 <| .seq (.region <|
 m p15 t1 <|
 m p16 t8 <|
 m p17 t9 <|
 m p18 t3 <|
 a p19 n102 [t15, t16, t17, t18] <|
 .done) <|
 .seq (.region <|
 m p20 t9 <|
 m p8 t20 <|
 .done) <|
 .region <|
 m p21 t9 <|
 m p22 t7 <|
 o p23 (.ar .add t21 t22) <|
 m p9 t23 <|
 .done) <|
 .seq (.region <|
 m p24 t1 <|
 m p25 t8 <|
 m p26 t2 <|
 m p27 t3 <|
 a p28 n102 [t24, t25, t26, t27] <|
 .done) <|
 .block n2 <| .loop <| .seq (.seq (.region <|
 m p29 t7 <|
 m p30 t2 <|
 o p31 (.cmp .lss t29 t30) <|
 .done) <|
 .cond t31 (.skip) <|
 .exit n2) <|
 .block n3 <| .seq (.region <|
 m p32 t7 <|
 o p33 (.ar .mul q2 t32) <|
 m p8 q1 <|
 m p9 t33 <|
 .done) <|
 .seq (.block n4 <| .loop <| .seq (.seq (.region <|
 m p34 t9 <|
 m p35 t2 <|
 o p36 (.cmp .leq t34 t35) <|
 .done) <|
 .cond t36 (.skip) <|
 .exit n4) <|
 .block n5 <| .seq (.region <|
 m p37 t1 <|
 m p38 t8 <|
 m p39 t8 <|
 m p40 t7 <|
 o p41 (.ar .add t39 t40) <|
 m p42 t9 <|
 m p43 t3 <|
 a p44 n103 [t37, t38, t41, t42, t43] <|
 .done) <|
 .seq (.region <|
 m p45 t9 <|
 m p8 t45 <|
 .done) <|
 .region <|
 m p46 t9 <|
 m p47 t7 <|
 o p48 (.ar .mul q2 t47) <|
 o p49 (.ar .add t46 t48) <|
 m p9 t49 <|
 .done) <|
 .seq (.seq (.region <|
 m p50 t8 <|
 m p51 t7 <|
 o p52 (.ar .add t50 t51) <|
 m p10 t52 <|
 .done) <|
 .seq (.region <|
 m p53 t10 <|
 m p54 t2 <|
 o p55 (.cmp .lss t53 t54) <|
 .done) <|
 .cond t55 (.region <|
 m p56 t1 <|
 m p57 t8 <|
 m p58 t10 <|
 m p59 t2 <|
 m p60 t3 <|
 a p61 n103 [t56, t57, t58, t59, t60] <|
 .done) <|
 .skip) <|
 .region <|
 m p62 t7 <|
 o p63 (.ar .mul t62 q2) <|
 m p7 t63 <|
 .done, []⟩
theorem c83 : compFn Tryz.prog pl83 Tryz.f83 = some F83 := by kernel_rfl

def pl84 : Plans := []
def F84 : CFun := ⟨n11, .seq (.region <|
 o p2 (.box t1) <|
 m p3 q0 <|
 .done) <|
 .seq (.region <|
 o p4 (.loadN n22 t2) <|
 a p5 n23 [t4] <|
 o p6 (.not t5) <|
 m p7 t6 <|
 .step ⟨(some p8), (some (p7, false)), .op (.loadN n22 t2)⟩ [] <|
 .step ⟨(some p9), (some (p7, false)), .call n24 [t8]⟩ [] <|
 .step ⟨(some p10), (some (p7, false)), .op (.not t9)⟩ [] <|
 o p11 (.pick t7 q12 t10) <|
 m p3 t11 <|
 .done) <|
 .ret, [.tmp p3]⟩
theorem c84 : compFn Tryz.prog pl84 Tryz.f84 = some F84 := by kernel_rfl

def pl85 : Plans := [(4, [K [] [8] 16, K [0] [16] 17, K [1] [17] 18, K [2] [18] 19, K [3, 2] [19] 20, K [4] [7, 20] 21, K [5, 4] [21, 20] 22, K [6, 4, 4] [22, 20] 23, K [7] [8, 23] 24, K [8, 7] [24, 23] 25, K [7] [0, 23] 26, K [7] [7, 23] 27, K [11, 7] [27, 23] 28, K [10, 12, 7] [26, 28, 23] 29, K [13, 7] [29, 23] 30, K [14, 7] [30, 23] 31, K [9, 15, 7] [25, 31, 23] 32, K [7, 16, 4] [23, 32, 20] 33, K [4, 17] [20, 33] 34, K [18, 7] [34] 35, K [19] [8, 35] 36, K [20, 19] [36, 35] 37, K [21, 19] [37, 35] 38, K [19, 22] [35, 38] 39, K [23, 19] [39] 40, K [24] [8, 40] 41, K [25, 24] [41, 40] 42, K [24] [2, 40] 43, K [26, 27, 24] [42, 43, 40] 44, K [24, 28] [40, 44] 45, K [29, 24] [45] 46, K [30] [8, 46] 47, K [31, 30] [47, 46] 48, K [30] [1, 46] 49, K [32, 33, 30] [48, 49, 46] 50, K [30, 34] [46, 50] 51], [Q 0 1 (r 1 35 []), Q 1 2 (r 2 34 []), Q 2 0 [], Q 3 1 (r 4 32 []), Q 4 1 (r 5 31 []), Q 5 1 (r 6 30 []), Q 6 1 (r 7 29 []), Q 7 1 (r 8 28 []), Q 8 1 (9 :: (r 16 20 [])), Q 9 2 (r 16 20 []), Q 10 1 (r 13 23 []), Q 11 1 (r 12 24 []), Q 12 1 (r 13 23 []), Q 13 1 (r 14 22 []), Q 14 1 (r 15 21 []), Q 15 2 (r 16 20 []), Q 16 1 (r 17 19 []), Q 17 1 (r 18 18 []), Q 18 1 (r 19 17 []), Q 19 1 (r 20 16 []), Q 20 1 (r 21 15 []), Q 21 2 (r 22 14 []), Q 22 1 (r 23 13 []), Q 23 1 (r 24 12 []), Q 24 1 (r 25 11 []), Q 25 1 (26 :: (r 28 8 [])), Q 26 2 (r 28 8 []), Q 27 1 (r 28 8 []), Q 28 1 (r 29 7 []), Q 29 1 (r 30 6 []), Q 30 1 (r 31 5 []), Q 31 1 [32, 34, 35], Q 32 2 [34, 35], Q 33 1 [34, 35], Q 34 1 [35], Q 35 1 []], .node (Q 0 1 (r 1 35 [])) <| .node (Q 1 2 (r 2 34 [])) <| .node (Q 2 0 []) <| .node (Q 3 1 (r 4 32 [])) <| .node (Q 4 1 (r 5 31 [])) <| .node (Q 5 1 (r 6 30 [])) <| .node (Q 6 1 (r 7 29 [])) <| .node (Q 7 1 (r 8 28 [])) <| .node (Q 8 1 (9 :: (r 16 20 []))) <| .node (Q 9 2 (r 16 20 [])) <| .node (Q 10 1 (r 13 23 [])) <| .node (Q 11 1 (r 12 24 [])) <| .node (Q 12 1 (r 13 23 [])) <| .node (Q 13 1 (r 14 22 [])) <| .node (Q 14 1 (r 15 21 [])) <| .node (Q 15 2 (r 16 20 [])) <| .node (Q 16 1 (r 17 19 [])) <| .node (Q 17 1 (r 18 18 [])) <| .node (Q 18 1 (r 19 17 [])) <| .node (Q 19 1 (r 20 16 [])) <| .node (Q 20 1 (r 21 15 [])) <| .node (Q 21 2 (r 22 14 [])) <| .node (Q 22 1 (r 23 13 [])) <| .node (Q 23 1 (r 24 12 [])) <| .node (Q 24 1 (r 25 11 [])) <| .node (Q 25 1 (26 :: (r 28 8 []))) <| .node (Q 26 2 (r 28 8 [])) <| .node (Q 27 1 (r 28 8 [])) <| .node (Q 28 1 (r 29 7 [])) <| .node (Q 29 1 (r 30 6 [])) <| .node (Q 30 1 (r 31 5 [])) <| .node (Q 31 1 [32, 34, 35]) <| .node (Q 32 2 [34, 35]) <| .node (Q 33 1 [34, 35]) <| .node (Q 34 1 [35]) <| .node (Q 35 1 []) <| .done)]
def F85 : CFun := ⟨n53, .seq (.region <|
 m p7 q0 <|
 .done) <|
 .seq (.seq (.region <|
 m p10 t1 <|
 o p11 (.len t10) <|
 m p12 q1 <|
 .done) <|
 .block n0 <| .loop <| .seq (.region <|
 o p13 (.cmp .lss t12 t11) <|
 .done) <|
 .seq (.cond t13 (.skip) <|
 .exit n0) <|
 .seq (.block n1 <| .seq (.region <|
 m p14 t12 <|
 o p15 (.idxS n2 t10 t12) <|
 o p16 (.loadN n2 t15) <|
 o p9 (.alloc z0) <|
 m p8 t14 <|
 e (.storeN n2 t9 t16) <|
 .done) <|
 .seq (.region <|
 o p17 (.fieldA n0 t9) <|
 o p18 (.load1 t17) <|
 a p19 n50 [t18] <|
 o p20 (.not t19) <|
 m p21 t20 <|
 .step ⟨(some p22), (some (p21, false)), .op (.move t8)⟩ [] <|
 .step ⟨(some p23), (some (p21, false)), .op (.cmp .gtr t22 q1)⟩ [] <|
 .step ⟨(some p24), (some (p21, false)), .op (.move t23)⟩ [] <|
 .step ⟨(some p25), (some (p24, true)), .op (.fieldA n0 t9)⟩ [] <|
 .step ⟨(some p26), (some (p24, true)), .op (.load1 t25)⟩ [] <|
 .step ⟨(some p27), (some (p24, true)), .op (.move t1)⟩ [] <|
 .step ⟨(some p28), (some (p24, true)), .op (.move t8)⟩ [] <|
 .step ⟨(some p29), (some (p24, true)), .op (.ar .sub t28 q3)⟩ [] <|
 .step ⟨(some p30), (some (p24, true)), .op (.idxS n2 t27 t29)⟩ [] <|
 .step ⟨(some p31), (some (p24, true)), .op (.fieldA n0 t30)⟩ [] <|
 .step ⟨(some p32), (some (p24, true)), .op (.load1 t31)⟩ [] <|
 .step ⟨(some p33), (some (p24, true)), .op (.cmp .leq t26 t32)⟩ [] <|
 .step ⟨(some p34), (some (p21, false)), .op (.pick t24 t33 q0)⟩ [] <|
 o p35 (.pick t21 q12 t34) <|
 m p36 t35 <|
 .step ⟨(some p37), (some (p36, false)), .op (.fieldA n1 t9)⟩ [] <|
 .step ⟨(some p38), (some (p36, false)), .op (.load1 t37)⟩ [] <|
 .step ⟨(some p39), (some (p36, false)), .op (.cmp .lss t38 q1)⟩ [] <|
 o p40 (.pick t36 q12 t39) <|
 m p41 t40 <|
 .step ⟨(some p42), (some (p41, false)), .op (.fieldA n1 t9)⟩ [] <|
 .step ⟨(some p43), (some (p41, false)), .op (.load1 t42)⟩ [] <|
 .step ⟨(some p44), (some (p41, false)), .op (.move t3)⟩ [] <|
 .step ⟨(some p45), (some (p41, false)), .op (.cmp .geq t43 t44)⟩ [] <|
 o p46 (.pick t41 q12 t45) <|
 m p47 t46 <|
 .step ⟨(some p48), (some (p47, false)), .op (.fieldA n1 t9)⟩ [] <|
 .step ⟨(some p49), (some (p47, false)), .op (.load1 t48)⟩ [] <|
 .step ⟨(some p50), (some (p47, false)), .op (.move t2)⟩ [] <|
 .step ⟨(some p51), (some (p47, false)), .op (.cmp .eql t49 t50)⟩ [] <|
 o p52 (.pick t47 q12 t51) <|
 .done) <|
 .cond t52 (.seq (.region <|
 m p7 q0 <|
 .done) <|
 .ret) <|
 .skip) <|
 .region <|
 o p53 (.ar .add t12 q3) <|
 m p12 t53 <|
 .done) <|
 .seq (.region <|
 m p7 q12 <|
 .done) <|
 .ret, [.tmp p7]⟩
theorem c85 : compFn Tryz.prog pl85 Tryz.f85 = some F85 := by kernel_rfl

def pl86 : Plans := [(6, [K [] [8] 28, K [0] [28] 29, K [1] [29] 30, K [2, 1] [30] 31, K [3] [7, 31] 32, K [4, 3] [32, 31] 33, K [5, 3, 3] [33, 31] 34, K [6] [8, 34] 35, K [7, 6] [35, 34] 36, K [6] [0, 34] 37, K [6] [7, 34] 38, K [10, 6] [38, 34] 39, K [9, 11, 6] [37, 39, 34] 40, K [12, 6] [40, 34] 41, K [13, 6] [41, 34] 42, K [8, 14, 6] [36, 42, 34] 43, K [6, 15, 3] [34, 43, 31] 44, K [3, 16] [31, 44] 45, K [17, 6] [45] 46, K [18] [11, 46] 47, K [18] [2, 46] 48, K [19, 20, 18] [47, 48, 46] 49, K [18, 21] [46, 49] 50], [Q 0 2 (r 1 22 []), Q 1 0 [], Q 2 1 (r 3 20 []), Q 3 1 (r 4 19 []), Q 4 1 (r 5 18 []), Q 5 1 (r 6 17 []), Q 6 1 (r 7 16 []), Q 7 1 (8 :: (r 15 8 [])), Q 8 2 (r 15 8 []), Q 9 1 (r 12 11 []), Q 10 1 (r 11 12 []), Q 11 1 (r 12 11 []), Q 12 1 (r 13 10 []), Q 13 1 (r 14 9 []), Q 14 2 (r 15 8 []), Q 15 1 (r 16 7 []), Q 16 1 (r 17 6 []), Q 17 1 (r 18 5 []), Q 18 1 [19, 20, 21, 22], Q 19 1 [21, 22], Q 20 1 [21, 22], Q 21 1 [22], Q 22 1 []], .node (Q 0 2 (r 1 22 [])) <| .node (Q 1 0 []) <| .node (Q 2 1 (r 3 20 [])) <| .node (Q 3 1 (r 4 19 [])) <| .node (Q 4 1 (r 5 18 [])) <| .node (Q 5 1 (r 6 17 [])) <| .node (Q 6 1 (r 7 16 [])) <| .node (Q 7 1 (8 :: (r 15 8 []))) <| .node (Q 8 2 (r 15 8 [])) <| .node (Q 9 1 (r 12 11 [])) <| .node (Q 10 1 (r 11 12 [])) <| .node (Q 11 1 (r 12 11 [])) <| .node (Q 12 1 (r 13 10 [])) <| .node (Q 13 1 (r 14 9 [])) <| .node (Q 14 2 (r 15 8 [])) <| .node (Q 15 1 (r 16 7 [])) <| .node (Q 16 1 (r 17 6 [])) <| .node (Q 17 1 (r 18 5 [])) <| .node (Q 18 1 [19, 20, 21, 22]) <| .node (Q 19 1 [21, 22]) <| .node (Q 20 1 [21, 22]) <| .node (Q 21 1 [22]) <| .node (Q 22 1 []) <| .done)]
def F86 : CFun := ⟨n55, .seq (.region <|
 m p7 q0 <|
 .done) <|
 .seq (.seq (.region <|
 m p13 t1 <|
 o p14 (.len t13) <|
 m p15 q1 <|
 .done) <|
 .block n0 <| .loop <| .seq (.region <|
 o p16 (.cmp .lss t15 t14) <|
 .done) <|
 .seq (.cond t16 (.skip) <|
 .exit n0) <|
 .seq (.block n1 <| .seq (.region <|
 m p17 t15 <|
 o p18 (.idxS n11 t13 t15) <|
 o p19 (.loadN n11 t18) <|
 o p9 (.alloc z8) <|
 m p8 t17 <|
 e (.storeN n11 t9 t19) <|
 .done) <|
 .seq (.region <|
 o p21 (.fieldA n1 t9) <|
 o p22 (.loadN n2 t21) <|
 a p23 n51 [t22] <|
 m p20 t23 <|
 o p24 (.extract n0 t20) <|
 o p25 (.extract n1 t20) <|
 o p10 (.alloc z21) <|
 e (.store1 t10 t24) <|
 m p11 t25 <|
 .done) <|
 .seq (.region <|
 m p26 t2 <|
 o p27 (.mkfunc n104 [t10]) <|
 a p28 n75 [t26, t27] <|
 m p12 t28 <|
 .done) <|
 .seq (.region <|
 o p29 (.loadN n11 t9) <|
 a p30 n105 [t29] <|
 o p31 (.not t30) <|
 m p32 t31 <|
 .step ⟨(some p33), (some (p32, false)), .op (.move t8)⟩ [] <|
 .step ⟨(some p34), (some (p32, false)), .op (.cmp .gtr t33 q1)⟩ [] <|
 .step ⟨(some p35), (some (p32, false)), .op (.move t34)⟩ [] <|
 .step ⟨(some p36), (some (p35, true)), .op (.fieldA n0 t9)⟩ [] <|
 .step ⟨(some p37), (some (p35, true)), .op (.load1 t36)⟩ [] <|
 .step ⟨(some p38), (some (p35, true)), .op (.move t1)⟩ [] <|
 .step ⟨(some p39), (some (p35, true)), .op (.move t8)⟩ [] <|
 .step ⟨(some p40), (some (p35, true)), .op (.ar .sub t39 q3)⟩ [] <|
 .step ⟨(some p41), (some (p35, true)), .op (.idxS n11 t38 t40)⟩ [] <|
 .step ⟨(some p42), (some (p35, true)), .op (.fieldA n0 t41)⟩ [] <|
 .step ⟨(some p43), (some (p35, true)), .op (.load1 t42)⟩ [] <|
 .step ⟨(some p44), (some (p35, true)), .op (.cmp .leq t37 t43)⟩ [] <|
 .step ⟨(some p45), (some (p32, false)), .op (.pick t35 t44 q0)⟩ [] <|
 o p46 (.pick t32 q12 t45) <|
 m p47 t46 <|
 .step ⟨(some p48), (some (p47, false)), .op (.move t12)⟩ [] <|
 .step ⟨(some p49), (some (p47, false)), .op (.move t3)⟩ [] <|
 .step ⟨(some p50), (some (p47, false)), .op (.eqb true t48 t49)⟩ [] <|
 o p51 (.pick t47 q12 t50) <|
 .done) <|
 .cond t51 (.seq (.region <|
 m p7 q0 <|
 .done) <|
 .ret) <|
 .skip) <|
 .region <|
 o p52 (.ar .add t15 q3) <|
 m p15 t52 <|
 .done) <|
 .seq (.region <|
 m p53 t1 <|
 o p54 (.len t53) <|
 o p55 (.cmp .leq t54 q33) <|
 m p7 t55 <|
 .done) <|
 .ret, [.tmp p7]⟩
theorem c86 : compFn Tryz.prog pl86 Tryz.f86 = some F86 := by kernel_rfl

def pl87 : Plans := []
def F87 : CFun := ⟨n9, .seq (.region <|
 m p5 q0 <|
 .done) <|
 .seq (.region <|
 m p6 t1 <|
 m p7 t2 <|
 a p8 n106 [t6, t7] <|
 o p9 (.cmp .geq t8 q1) <|
 m p5 t9 <|
 .done) <|
 .ret, [.tmp p5]⟩
theorem c87 : compFn Tryz.prog pl87 Tryz.f87 = some F87 := by kernel_rfl

def pl88 : Plans := []
def F88 : CFun := ⟨n27, .seq (.region <|
 o p3 (.box t1) <|
 o p4 (.box t2) <|
 o p5 (.alloc z14) <|
 .done) <|
 .seq (.region <|
 o p6 (.fieldA n0 t3) <|
 o p7 (.load1 t6) <|
 o p8 (.fieldA n0 t4) <|
 o p9 (.load1 t8) <|
 o p10 (.mx t7 t9) <|
 o p11 (.fieldA n1 t3) <|
 o p12 (.load1 t11) <|
 o p13 (.fieldA n1 t4) <|
 o p14 (.load1 t13) <|
 o p15 (.mx t12 t14) <|
 o p16 (.fieldA n2 t3) <|
 o p17 (.load1 t16) <|
 o p18 (.fieldA n2 t4) <|
 o p19 (.load1 t18) <|
 o p20 (.mn t17 t19) <|
 o p21 (.fieldA n3 t3) <|
 o p22 (.load1 t21) <|
 o p23 (.fieldA n3 t4) <|
 o p24 (.load1 t23) <|
 o p25 (.mn t22 t24) <|
 o p26 (.build z14 [(n0, n1, t10), (n1, n1, t15), (n2, n1, t20), (n3, n1, t25)]) <|
 a p27 n107 [t26] <|
 e (.storeN n4 t5 t27) <|
 .done) <|
 .ret, [.cellN n4 p5]⟩
theorem c88 : compFn Tryz.prog pl88 Tryz.f88 = some F88 := by kernel_rfl

def pl89 : Plans := [(5, [K [] [0] 38, K [] [1] 39, K [1] [39] 40, K [2] [40] 41, K [3] [41] 42, K [] [8] 43, K [4] [42] 44, K [6, 5] [44, 43] 45, K [] [6] 46, K [] [8] 47, K [8, 9] [46, 47] 48, K [] [7] 49, K [0, 7, 10, 11, 10] [38, 45, 48, 49] 50], [Q 0 1 [12], Q 1 1 [2, 3, 4, 6, 7, 12], Q 2 1 [3, 4, 6, 7, 12], Q 3 1 [4, 6, 7, 12], Q 4 2 [6, 7, 12], Q 5 1 [7, 12], Q 6 1 [7, 12], Q 7 1 [12], Q 8 2 [10, 12], Q 9 1 [10, 12], Q 10 0 [], Q 11 2 [12], Q 12 0 []], .node (Q 0 1 [12]) <| .node (Q 1 1 [2, 3, 4, 6, 7, 12]) <| .node (Q 2 1 [3, 4, 6, 7, 12]) <| .node (Q 3 1 [4, 6, 7, 12]) <| .node (Q 4 2 [6, 7, 12]) <| .node (Q 5 1 [7, 12]) <| .node (Q 6 1 [7, 12]) <| .node (Q 7 1 [12]) <| .node (Q 8 2 [10, 12]) <| .node (Q 9 1 [10, 12]) <| .node (Q 11 2 [12]) <| .node (Q 10 0 []) <| .node (Q 12 0 []) <| .done),
  (4, [K [] [6] 30, K [] [0] 31, K [1] [31] 32, K [2] [32] 33, K [3] [33] 34, K [] [7] 35, K [4, 5] [34, 35] 36, K [0, 6] [30, 36] 37, K (7 :: 7 :: (r 0 8 [])) [37] 8], [Q 0 2 [7, 8], Q 1 1 [2, 3, 4, 6, 7, 8], Q 2 1 [3, 4, 6, 7, 8], Q 3 1 [4, 6, 7, 8], Q 4 2 [6, 7, 8], Q 5 2 [6, 7, 8], Q 6 2 [7, 8], Q 7 0 [], Q 8 1 []], .node (Q 0 2 [7, 8]) <| .node (Q 1 1 [2, 3, 4, 6, 7, 8]) <| .node (Q 2 1 [3, 4, 6, 7, 8]) <| .node (Q 3 1 [4, 6, 7, 8]) <| .node (Q 4 2 [6, 7, 8]) <| .node (Q 5 2 [6, 7, 8]) <| .node (Q 6 2 [7, 8]) <| .node (Q 7 0 []) <| .node (Q 8 1 []) <| .done)]
def F89 : CFun := ⟨n64, .seq (.region <|
 o p7 (.box t3) <|
 o p8 (.box t4) <|
 .done) <|
 .seq (.region <|
 m p10 t2 <|
 o p11 (.nilchk t10) <|
 o p12 (.fieldA n0 t11) <|
 o p13 (.load1 t12) <|
 o p14 (.ar .sub t13 q3) <|
 o p15 (.nilchk t10) <|
 o p16 (.fieldA n0 t15) <|
 e (.store1 t16 t14) <|
 .done) <|
 .seq (.seq (.region <|
 m p17 t2 <|
 o p18 (.nilchk t17) <|
 o p19 (.fieldA n2 t18) <|
 o p20 (.load1 t19) <|
 o p21 (.eqnil false n0 t20 q13) <|
 .done) <|
 .cond t21 (.seq (.region <|
 m p22 t2 <|
 m p23 t2 <|
 o p24 (.nilchk t23) <|
 o p25 (.fieldA n1 t24) <|
 o p26 (.load1 t25) <|
 o p27 (.mkfunc n109 [t8]) <|
 a p28 n108 [t26, t27] <|
 o p29 (.nilchk t22) <|
 o p30 (.fieldA n1 t29) <|
 e (.store1 t30 t28) <|
 .done) <|
 .ret) <|
 .skip) <|
 .seq (.region <|
 o p31 (.loadN n4 t7) <|
 m p32 t1 <|
 o p33 (.nilchk t32) <|
 o p34 (.fieldA n0 t33) <|
 o p35 (.load1 t34) <|
 o p36 (.load1 t8) <|
 o p37 (.lookup false v1 false t35 t36) <|
 a p38 n110 [t31, t37] <|
 m p9 t38 <|
 .done) <|
 .seq (.region <|
 m p39 t1 <|
 m p40 t2 <|
 o p41 (.nilchk t40) <|
 o p42 (.fieldA n2 t41) <|
 o p43 (.load1 t42) <|
 m p44 t9 <|
 o p45 (.nilchk t43) <|
 o p46 (.idxA n4 n3 t45 t44) <|
 o p47 (.loadN n4 t7) <|
 m p48 t9 <|
 o p50 (.load1 t8) <|
 .step ⟨(some p49), none, .call n111 [t47, t48]⟩ [⟨(some p43), none, .op (.load1 t42)⟩, ⟨(some p50), none, .op (.load1 t8)⟩] <|
 a p51 n89 [t39, t46, t49, t50] <|
 .done) <|
 .seq (.region <|
 m p52 t2 <|
 o p53 (.nilchk t52) <|
 o p54 (.fieldA n0 t53) <|
 o p55 (.load1 t54) <|
 o p56 (.cmp .leq t55 q8) <|
 .done) <|
 .cond t56 (.region <|
 m p57 t2 <|
 m p58 t2 <|
 m p59 t2 <|
 a p60 n112 [t59] <|
 o p61 (.nilchk t57) <|
 o p62 (.fieldA n1 t61) <|
 e (.store1 t62 t60) <|
 o p63 (.nilchk t58) <|
 o p64 (.fieldA n2 t63) <|
 e (.store1 t64 q13) <|
 .done) <|
 .skip, []⟩
theorem c89 : compFn Tryz.prog pl89 Tryz.f89 = some F89 := by kernel_rfl

def pl90 : Plans := []
def F90 : CFun := ⟨n2, .seq (.region <|
 o p1 (.alloc z14) <|
 .done) <|
 .seq (.region <|
 o p2 (.build z14 [(n2, n1, q37), (n3, n1, q37)]) <|
 e (.storeN n4 t1 t2) <|
 .done) <|
 .ret, [.cellN n4 p1]⟩
theorem c90 : compFn Tryz.prog pl90 Tryz.f90 = some F90 := by kernel_rfl

end Go.Ev.Fs
