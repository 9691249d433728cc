/- Printed by compact.py: functions in the evaluator's form. -/
import Derived.Test.YtgkjbkkbjlhafaaGreatEvWd
import Derived.Test.YtgkjbkkbjlhafaaGreatProg
set_option maxRecDepth 100000
namespace Go.Ev.Fs
open Go Go.Proofs Go.Ev

def pl91 : Plans := [(13, [K [] [0] 97, K [] [1] 98, K [1] [98] 99, K [2] [99] 100, K [3] [100] 101, K [] [14] 102, K [4] [101] 103, K [6, 5] [103, 102] 104, K [] [7] 105, K [] [14] 106, K [8, 9] [105, 106] 107, K [] [3] 108, K [11] [108] 109, K [] [13] 110, K [0, 7, 10, 12, 13, 10] [97, 104, 107, 109, 110] 111], [Q 0 1 [14], Q 1 1 [2, 3, 4, 6, 7, 14], Q 2 1 [3, 4, 6, 7, 14], Q 3 1 [4, 6, 7, 14], Q 4 2 [6, 7, 14], Q 5 1 [7, 14], Q 6 1 [7, 14], Q 7 1 [14], Q 8 2 [10, 14], Q 9 1 [10, 14], Q 10 0 [], Q 11 1 [12, 14], Q 12 1 [14], Q 13 1 [14], Q 14 0 []], .node (Q 0 1 [14]) <| .node (Q 1 1 [2, 3, 4, 6, 7, 14]) <| .node (Q 2 1 [3, 4, 6, 7, 14]) <| .node (Q 3 1 [4, 6, 7, 14]) <| .node (Q 4 2 [6, 7, 14]) <| .node (Q 5 1 [7, 14]) <| .node (Q 6 1 [7, 14]) <| .node (Q 7 1 [14]) <| .node (Q 8 2 [10, 14]) <| .node (Q 9 1 [10, 14]) <| .node (Q 11 1 [12, 14]) <| .node (Q 12 1 [14]) <| .node (Q 13 1 [14]) <| .node (Q 10 0 []) <| .node (Q 14 0 []) <| .done),
  (12, [K [] [7] 89, K [] [0] 90, K [1] [90] 91, K [2] [91] 92, K [3] [92] 93, K [] [13] 94, K [4, 5] [93, 94] 95, K [0, 6] [89, 95] 96, K (7 :: 7 :: (r 0 8 [])) [96] 14], [Q 0 2 [7, 8], Q 1 1 [2, 3, 4, 6, 7, 8], Q 2 1 [3, 4, 6, 7, 8], Q 3 1 [4, 6, 7, 8], Q 4 2 [6, 7, 8], Q 5 1 [6, 7, 8], Q 6 2 [7, 8], Q 7 0 [], Q 8 1 []], .node (Q 0 2 [7, 8]) <| .node (Q 1 1 [2, 3, 4, 6, 7, 8]) <| .node (Q 2 1 [3, 4, 6, 7, 8]) <| .node (Q 3 1 [4, 6, 7, 8]) <| .node (Q 4 2 [6, 7, 8]) <| .node (Q 5 1 [6, 7, 8]) <| .node (Q 6 2 [7, 8]) <| .node (Q 7 0 []) <| .node (Q 8 1 []) <| .done),
  (4, [K [] [1] 36, K [0] [36] 37, K [1] [37] 38, K [2] [38] 39, K [] [10] 40, K [3] [39] 41, K [5, 4] [41, 40] 42, K [] [7] 43, K [] [10] 44, K [7, 8] [43, 44] 45, K [] [3] 46, K [10] [46] 47, K (6 :: 9 :: (r 0 7 [])) [42] 1, J (9 :: 12 :: (r 0 10 [12])) [7, 45], K (11 :: 13 :: (r 0 14 [])) [47] 3], [Q 0 1 [1, 2, 3, 5, 6, 12, 13, 14], Q 1 1 [2, 3, 5, 6, 12, 13, 14], Q 2 1 [3, 5, 6, 12, 13, 14], Q 3 2 [5, 6, 12, 13, 14], Q 4 1 [6, 12, 13, 14], Q 5 1 [6, 12, 13, 14], Q 6 1 [12, 13, 14], Q 7 2 [9, 12, 13, 14], Q 8 1 [9, 12, 13, 14], Q 9 0 [], Q 10 1 [11, 14], Q 11 1 [14], Q 12 1 [13, 14], Q 13 0 [], Q 14 1 []], .node (Q 0 1 [1, 2, 3, 5, 6, 12, 13, 14]) <| .node (Q 1 1 [2, 3, 5, 6, 12, 13, 14]) <| .node (Q 2 1 [3, 5, 6, 12, 13, 14]) <| .node (Q 3 2 [5, 6, 12, 13, 14]) <| .node (Q 4 1 [6, 12, 13, 14]) <| .node (Q 5 1 [6, 12, 13, 14]) <| .node (Q 6 1 [12, 13, 14]) <| .node (Q 7 2 [9, 12, 13, 14]) <| .node (Q 8 1 [9, 12, 13, 14]) <| .node (Q 10 1 [11, 14]) <| .node (Q 11 1 [14]) <| .node (Q 9 0 []) <| .node (Q 12 1 [13, 14]) <| .node (Q 13 0 []) <| .node (Q 14 1 []) <| .done),
  (3, [K [] [7] 28, K [] [0] 29, K [1] [29] 30, K [2] [30] 31, K [3] [31] 32, K [] [4] 33, K [4, 5] [32, 33] 34, K [0, 6] [28, 34] 35, K (7 :: 7 :: (r 0 8 [])) [35] 10], [Q 0 2 [7, 8], Q 1 1 [2, 3, 4, 6, 7, 8], Q 2 1 [3, 4, 6, 7, 8], Q 3 1 [4, 6, 7, 8], Q 4 2 [6, 7, 8], Q 5 1 [6, 7, 8], Q 6 2 [7, 8], Q 7 0 [], Q 8 1 []], .node (Q 0 2 [7, 8]) <| .node (Q 1 1 [2, 3, 4, 6, 7, 8]) <| .node (Q 2 1 [3, 4, 6, 7, 8]) <| .node (Q 3 1 [4, 6, 7, 8]) <| .node (Q 4 2 [6, 7, 8]) <| .node (Q 5 1 [6, 7, 8]) <| .node (Q 6 2 [7, 8]) <| .node (Q 7 0 []) <| .node (Q 8 1 []) <| .done)]
def F91 : CFun := ⟨n113, .seq (.region <|
 o p8 (.box t3) <|
 .done) <|
 .scope <| .seq (.skip) <|
 .block n0 <| .loop <| .block n1 <| .seq (.region <|
 m p16 t2 <|
 o p17 (.nilchk t16) <|
 o p18 (.fieldA n0 t17) <|
 o p19 (.load1 t18) <|
 o p20 (.ar .add t19 q3) <|
 o p21 (.nilchk t16) <|
 o p22 (.fieldA n0 t21) <|
 e (.store1 t22 t20) <|
 .done) <|
 .seq (.block n2 <| .seq (.region <|
 m p24 t2 <|
 o p25 (.nilchk t24) <|
 o p26 (.fieldA n2 t25) <|
 o p27 (.load1 t26) <|
 o p28 (.eqnil true n0 t27 q13) <|
 m p23 t28 <|
 .done) <|
 .cond t23 (.seq (.region <|
 o p29 (.loadN n4 t8) <|
 m p30 t1 <|
 o p31 (.nilchk t30) <|
 o p32 (.fieldA n0 t31) <|
 o p33 (.load1 t32) <|
 m p34 t5 <|
 o p35 (.lookup false v1 false t33 t34) <|
 a p36 n110 [t29, t35] <|
 m p11 t36 <|
 .done) <|
 .seq (.region <|
 m p37 t2 <|
 o p38 (.nilchk t37) <|
 o p39 (.fieldA n2 t38) <|
 o p40 (.load1 t39) <|
 m p41 t11 <|
 o p42 (.nilchk t40) <|
 o p43 (.idxA n4 n3 t42 t41) <|
 o p44 (.loadN n4 t8) <|
 m p45 t11 <|
 m p47 t4 <|
 o p48 (.ar .add t47 q3) <|
 .step ⟨(some p46), none, .call n111 [t44, t45]⟩ [⟨(some p40), none, .op (.load1 t39)⟩] <|
 m p2 t43 <|
 e (.storeN n4 t8 t46) <|
 m p4 t48 <|
 .done) <|
 .exit n1) <|
 .seq (.region <|
 m p50 t2 <|
 o p51 (.nilchk t50) <|
 o p52 (.fieldA n0 t51) <|
 o p53 (.load1 t52) <|
 o p54 (.cmp .leq t53 q8) <|
 m p55 t54 <|
 .step ⟨(some p56), (some (p55, false)), .op (.move t4)⟩ [] <|
 .step ⟨(some p57), (some (p55, false)), .op (.cmp .eql t56 q8)⟩ [] <|
 o p58 (.pick t55 q12 t57) <|
 m p49 t58 <|
 .done) <|
 .cond t49 (.seq (.region <|
 m p59 t2 <|
 m p60 t2 <|
 o p61 (.nilchk t60) <|
 o p62 (.fieldA n1 t61) <|
 o p63 (.load1 t62) <|
 m p64 t5 <|
 o p65 (.bslice z21 n1 n1 [(n0, n1, t64)]) <|
 o p66 (.append n8 n1 t63 t65) <|
 o p67 (.nilchk t59) <|
 o p68 (.fieldA n1 t67) <|
 e (.store1 t68 t66) <|
 .done) <|
 .exit n0) <|
 .skip) <|
 .seq (.region <|
 m p69 t2 <|
 o p70 (.nilchk t69) <|
 o p71 (.fieldA n1 t70) <|
 o p72 (.load1 t71) <|
 m p73 t5 <|
 o p74 (.bslice z21 n1 n1 [(n0, n1, t73)]) <|
 o p75 (.append n8 n1 t72 t74) <|
 m p12 t75 <|
 .done) <|
 .seq (.region <|
 m p76 t2 <|
 m p77 t2 <|
 o p78 (.build z22 []) <|
 o p79 (.box t78) <|
 o p80 (.nilchk t76) <|
 o p81 (.fieldA n1 t80) <|
 e (.store1 t81 q7) <|
 o p82 (.nilchk t77) <|
 o p83 (.fieldA n2 t82) <|
 e (.store1 t83 t79) <|
 .done) <|
 .seq (.seq (.region <|
 m p84 t12 <|
 o p85 (.len t84) <|
 m p86 q1 <|
 .done) <|
 .block n3 <| .loop <| .seq (.region <|
 o p87 (.cmp .lss t86 t85) <|
 .done) <|
 .seq (.cond t87 (.skip) <|
 .exit n3) <|
 .seq (.block n4 <| .seq (.region <|
 o p88 (.idxS n1 t84 t86) <|
 o p89 (.load1 t88) <|
 m p14 t89 <|
 .done) <|
 .seq (.region <|
 o p90 (.loadN n4 t8) <|
 m p91 t1 <|
 o p92 (.nilchk t91) <|
 o p93 (.fieldA n0 t92) <|
 o p94 (.load1 t93) <|
 m p95 t14 <|
 o p96 (.lookup false v1 false t94 t95) <|
 a p97 n110 [t90, t96] <|
 m p15 t97 <|
 .done) <|
 .region <|
 m p98 t1 <|
 m p99 t2 <|
 o p100 (.nilchk t99) <|
 o p101 (.fieldA n2 t100) <|
 o p102 (.load1 t101) <|
 m p103 t15 <|
 o p104 (.nilchk t102) <|
 o p105 (.idxA n4 n3 t104 t103) <|
 o p106 (.loadN n4 t8) <|
 m p107 t15 <|
 m p109 t4 <|
 o p110 (.ar .add t109 q3) <|
 m p111 t14 <|
 .step ⟨(some p108), none, .call n111 [t106, t107]⟩ [⟨(some p102), none, .op (.load1 t101)⟩] <|
 a p112 n91 [t98, t105, t108, t110, t111] <|
 .done) <|
 .region <|
 o p113 (.ar .add t86 q3) <|
 m p86 t113 <|
 .done) <|
 .exit n0, []⟩
theorem c91 : compFn Tryz.prog pl91 Tryz.f91 = some F91 := by kernel_rfl

def pl92 : Plans := []
def F92 : CFun := ⟨n24, .seq (.region <|
 o p4 (.box t2) <|
 m p5 q7 <|
 .done) <|
 .seq (.region <|
 m p6 q7 <|
 .done) <|
 .seq (.seq (.region <|
 m p9 t1 <|
 o p10 (.len t9) <|
 m p11 q1 <|
 .done) <|
 .block n0 <| .loop <| .seq (.region <|
 o p12 (.cmp .lss t11 t10) <|
 .done) <|
 .seq (.cond t12 (.skip) <|
 .exit n0) <|
 .seq (.block n1 <| .seq (.region <|
 o p13 (.idxS n11 t9 t11) <|
 o p14 (.loadN n11 t13) <|
 o p8 (.alloc z8) <|
 e (.storeN n11 t8 t14) <|
 .done) <|
 .seq (.region <|
 o p15 (.loadN n4 t4) <|
 o p16 (.fieldA n1 t8) <|
 o p17 (.loadN n2 t16) <|
 a p18 n113 [t15, t17] <|
 .done) <|
 .cond t18 (.region <|
 m p19 t6 <|
 o p20 (.loadN n11 t8) <|
 o p21 (.bslice z8 n11 n1 [(n0, n11, t20)]) <|
 o p22 (.append n120 n11 t19 t21) <|
 m p6 t22 <|
 .done) <|
 .skip) <|
 .region <|
 o p23 (.ar .add t11 q3) <|
 m p11 t23 <|
 .done) <|
 .seq (.region <|
 m p24 t6 <|
 m p5 t24 <|
 .done) <|
 .ret, [.tmp p5]⟩
theorem c92 : compFn Tryz.prog pl92 Tryz.f92 = some F92 := by kernel_rfl

def pl93 : Plans := [(11, [K [] [6] 44, K [] [6] 45, K [1] [45] 46, K [2] [46] 47, J [0, 0] [4, 44], K (3 :: 4 :: (r 0 5 [])) [47] 5], [Q 0 2 [4, 5], Q 1 1 [2, 3, 5], Q 2 2 [3, 5], Q 3 1 [5], Q 4 0 [], Q 5 1 []], .node (Q 0 2 [4, 5]) <| .node (Q 1 1 [2, 3, 5]) <| .node (Q 2 2 [3, 5]) <| .node (Q 3 1 [5]) <| .node (Q 4 0 []) <| .node (Q 5 1 []) <| .done),
  (8, [K [] [6] 33, K [0] [33] 34, K [] [7] 35, K [2] [35] 36, K [1, 3] [34, 36] 37, K (r 0 5 []) [6] 38, J (5 :: 4 :: (r 0 5 [])) [38, 37]], [Q 0 1 [1, 4, 5, 6], Q 1 2 [4, 5, 6], Q 2 1 [3, 4, 5, 6], Q 3 1 [4, 5, 6], Q 4 1 [5, 6], Q 5 1 [6], Q 6 0 []], .node (Q 0 1 [1, 4, 5, 6]) <| .node (Q 1 2 [4, 5, 6]) <| .node (Q 2 1 [3, 4, 5, 6]) <| .node (Q 3 1 [4, 5, 6]) <| .node (Q 4 1 [5, 6]) <| .node (Q 5 1 [6]) <| .node (Q 6 0 []) <| .done),
  (7, [K [] [7] 27, K [] [2] 28, K [1, 0] [28, 27] 29, K [2] [29] 30, K [] [8] 31, K [3, 4] [30, 31] 32], [Q 0 1 [2, 3, 5], Q 1 1 [2, 3, 5], Q 2 1 [3, 5], Q 3 2 [5], Q 4 2 [5], Q 5 1 []], .node (Q 0 1 [2, 3, 5]) <| .node (Q 1 1 [2, 3, 5]) <| .node (Q 2 1 [3, 5]) <| .node (Q 3 2 [5]) <| .node (Q 4 2 [5]) <| .node (Q 5 1 []) <| .done),
  (3, [K [] [3] 17, K [0] [17] 18, K [] [6] 19, J [2] [19], K [0, 1, 2, 3] [6] 20, J [4, 1, 3, 0, 1, 2, 3] [20, 18]], [Q 0 1 [1, 4, 5], Q 1 2 [4, 5], Q 2 1 [3, 4, 5], Q 3 0 [], Q 4 1 [5], Q 5 0 []], .node (Q 0 1 [1, 4, 5]) <| .node (Q 1 2 [4, 5]) <| .node (Q 2 1 [3, 4, 5]) <| .node (Q 3 0 []) <| .node (Q 4 1 [5]) <| .node (Q 5 0 []) <| .done)]
def F93 : CFun := ⟨n48, .seq (.region <|
 o p3 (.box t1) <|
 o p4 (.box t2) <|
 o p5 (.alloc z20) <|
 m p6 q0 <|
 .done) <|
 .seq (.region <|
 o p10 (.fieldA n0 t4) <|
 o p11 (.load1 t10) <|
 o p12 (.build z20 [(n0, n1, t11)]) <|
 o p7 (.alloc z20) <|
 e (.storeN n12 t7 t12) <|
 .done) <|
 .seq (.seq (.region <|
 o p13 (.fieldA n1 t3) <|
 o p14 (.loadN n2 t13) <|
 o p15 (.fieldA n1 t4) <|
 o p16 (.loadN n2 t15) <|
 o p17 (.eqagg true k0 t14 t16) <|
 .done) <|
 .cond t17 (.region <|
 o p18 (.fieldA n1 t4) <|
 o p19 (.loadN n2 t18) <|
 o p20 (.fieldA n1 t7) <|
 .step ⟨none, none, .op (.store1 t20 q39)⟩ [⟨(some p19), none, .op (.loadN n2 t18)⟩] <|
 o p21 (.fieldA n2 t7) <|
 e (.storeN n2 t21 t19) <|
 .done) <|
 .skip) <|
 .seq (.seq (.region <|
 o p22 (.fieldA n3 t4) <|
 o p23 (.loadN n8 t22) <|
 m p24 q1 <|
 .done) <|
 .block n0 <| .loop <| .seq (.region <|
 o p25 (.cmp .lss t24 q8) <|
 .done) <|
 .seq (.cond t25 (.skip) <|
 .exit n0) <|
 .seq (.block n1 <| .seq (.region <|
 m p26 t24 <|
 o p27 (.indexN n4 n2 t23 t24) <|
 o p9 (.alloc z2) <|
 m p8 t26 <|
 e (.storeN n2 t9 t27) <|
 .done) <|
 .seq (.region <|
 m p28 t8 <|
 o p29 (.fieldA n3 t3) <|
 o p30 (.idxA n4 n2 t29 t28) <|
 o p31 (.loadN n2 t30) <|
 o p32 (.loadN n2 t9) <|
 o p33 (.eqagg true k3 t31 t32) <|
 .done) <|
 .cond t33 (.seq (.region <|
 o p34 (.fieldA n1 t7) <|
 o p35 (.load1 t34) <|
 m p36 t8 <|
 o p37 (.ar .shl q40 t36) <|
 o p38 (.ar .or t35 t37) <|
 o p39 (.fieldA n1 t7) <|
 e (.store1 t39 t38) <|
 .done) <|
 .region <|
 m p40 t8 <|
 o p41 (.loadN n2 t9) <|
 o p42 (.fieldA n4 t7) <|
 o p43 (.idxA n4 n2 t42 t40) <|
 e (.storeN n2 t43 t41) <|
 .done) <|
 .skip) <|
 .region <|
 o p44 (.ar .add t24 q3) <|
 m p24 t44 <|
 .done) <|
 .seq (.region <|
 o p45 (.loadN n12 t7) <|
 o p46 (.fieldA n1 t7) <|
 o p47 (.load1 t46) <|
 o p48 (.cmp .neq t47 q41) <|
 .step ⟨none, none, .op (.storeN n12 t5 t45)⟩ [⟨(some p47), none, .op (.load1 t46)⟩] <|
 m p6 t48 <|
 .done) <|
 .ret, [.cellN n12 p5, .tmp p6]⟩
theorem c93 : compFn Tryz.prog pl93 Tryz.f93 = some F93 := by kernel_rfl

def pl94 : Plans := []
def F94 : CFun := ⟨n5, .seq (.region <|
 m p3 q7 <|
 .done) <|
 .seq (.region <|
 m p4 t1 <|
 a p5 n114 [q7, t4] <|
 m p3 t5 <|
 .done) <|
 .ret, [.tmp p3]⟩
theorem c94 : compFn Tryz.prog pl94 Tryz.f94 = some F94 := by kernel_rfl

def pl95 : Plans := []
def F95 : CFun := ⟨n11, .seq (.region <|
 m p4 t1 <|
 o p5 (.len t4) <|
 m p3 t5 <|
 .done) <|
 .region <|
 m p6 t1 <|
 m p7 t3 <|
 m p8 t3 <|
 o p9 (.conv .u64 t8) <|
 a p10 n98 [t9] <|
 a p11 n115 [t6, q1, t7, t10] <|
 .done, []⟩
theorem c95 : compFn Tryz.prog pl95 Tryz.f95 = some F95 := by kernel_rfl

def pl97 : Plans := [(17, [K [] [1] 81, K [0] [81] 82, K [1] [82] 83, K [2] [4, 83] 84, K [2] [0, 83] 85, K [2] [1, 83] 86, K [5, 2] [86, 83] 87, K [4, 6, 2] [85, 87, 83] 88, K [7, 2] [88, 83] 89, K [2] [0, 83] 90, K [2] [13, 83] 91, K [9, 10, 2] [90, 91, 83] 92, K [11, 2] [92, 83] 93, K [3, 8, 12, 2, 2] [84, 89, 93, 83] 94, K [13, 2] [94, 83] 95, K [14, 2] [95, 83] 96, K [2, 15] [83, 96] 97], [Q 0 1 (r 1 16 []), Q 1 1 (r 2 15 []), Q 2 1 (r 3 14 []), Q 3 1 [13, 14, 15, 16], Q 4 1 [7, 8, 13, 14, 15, 16], Q 5 1 [6, 7, 8, 13, 14, 15, 16], Q 6 1 [7, 8, 13, 14, 15, 16], Q 7 1 [8, 13, 14, 15, 16], Q 8 2 [13, 14, 15, 16], Q 9 1 (r 11 6 []), Q 10 1 (r 11 6 []), Q 11 1 (r 12 5 []), Q 12 2 [13, 14, 15, 16], Q 13 0 [], Q 14 1 [15, 16], Q 15 1 [16], Q 16 1 []], .node (Q 0 1 (r 1 16 [])) <| .node (Q 1 1 (r 2 15 [])) <| .node (Q 2 1 (r 3 14 [])) <| .node (Q 3 1 [13, 14, 15, 16]) <| .node (Q 4 1 [7, 8, 13, 14, 15, 16]) <| .node (Q 5 1 [6, 7, 8, 13, 14, 15, 16]) <| .node (Q 6 1 [7, 8, 13, 14, 15, 16]) <| .node (Q 7 1 [8, 13, 14, 15, 16]) <| .node (Q 8 2 [13, 14, 15, 16]) <| .node (Q 9 1 (r 11 6 [])) <| .node (Q 10 1 (r 11 6 [])) <| .node (Q 11 1 (r 12 5 [])) <| .node (Q 12 2 [13, 14, 15, 16]) <| .node (Q 13 0 []) <| .node (Q 14 1 [15, 16]) <| .node (Q 15 1 [16]) <| .node (Q 16 1 []) <| .done)]
def F97 : CFun := ⟨n148, .seq (.region <|
 m p11 q12 <|
 .done) <|
 .seq (.region <|
 m p12 q12 <|
 .done) <|
 .block n0 <| .loop <| .block n1 <| .seq (.region <|
 m p22 t3 <|
 m p23 t2 <|
 o p24 (.ar .sub t22 t23) <|
 m p13 t24 <|
 .done) <|
 .seq (.seq (.region <|
 m p25 t13 <|
 o p26 (.cmp .leq t25 q28) <|
 .done) <|
 .cond t26 (.seq (.region <|
 m p27 t1 <|
 m p28 t2 <|
 m p29 t3 <|
 m p30 t5 <|
 a p31 n116 [t27, t28, t29, t30] <|
 .done) <|
 .ret) <|
 .skip) <|
 .seq (.seq (.region <|
 m p32 t4 <|
 o p33 (.cmp .eql t32 q1) <|
 .done) <|
 .cond t33 (.seq (.region <|
 m p34 t1 <|
 m p35 t2 <|
 m p36 t3 <|
 m p37 t5 <|
 a p38 n117 [t34, t35, t36, t37] <|
 .done) <|
 .ret) <|
 .skip) <|
 .seq (.seq (.region <|
 m p39 t11 <|
 o p40 (.not t39) <|
 .done) <|
 .cond t40 (.seq (.region <|
 m p41 t1 <|
 m p42 t2 <|
 m p43 t3 <|
 m p44 t5 <|
 a p45 n118 [t41, t42, t43, t44] <|
 .done) <|
 .region <|
 m p46 t4 <|
 o p47 (.ar .sub t46 q3) <|
 m p4 t47 <|
 .done) <|
 .skip) <|
 .seq (.region <|
 m p49 t1 <|
 m p50 t2 <|
 m p51 t3 <|
 m p52 t5 <|
 a p53 n119 [t49, t50, t51, t52] <|
 m p48 t53 <|
 o p54 (.extract n0 t48) <|
 o p55 (.extract n1 t48) <|
 m p14 t54 <|
 m p15 t55 <|
 .done) <|
 .seq (.seq (.region <|
 m p56 t15 <|
 o p57 (.cmp .eql t56 q2) <|
 .done) <|
 .cond t57 (.seq (.region <|
 m p58 t1 <|
 m p59 t2 <|
 m p60 t3 <|
 m p61 t5 <|
 a p62 n120 [t58, t59, t60, t61] <|
 .done) <|
 .seq (.region <|
 m p63 t3 <|
 o p64 (.ar .sub t63 q3) <|
 m p65 t14 <|
 m p66 t2 <|
 o p67 (.ar .sub t65 t66) <|
 o p68 (.ar .sub t64 t67) <|
 m p14 t68 <|
 .done) <|
 .region <|
 m p15 q3 <|
 .done) <|
 .skip) <|
 .seq (.seq (.region <|
 m p69 t11 <|
 m p70 t69 <|
 .step ⟨(some p71), (some (p70, true)), .op (.move t12)⟩ [] <|
 o p72 (.pick t70 t71 q0) <|
 m p73 t72 <|
 .step ⟨(some p74), (some (p73, true)), .op (.move t15)⟩ [] <|
 .step ⟨(some p75), (some (p73, true)), .op (.cmp .eql t74 q3)⟩ [] <|
 o p76 (.pick t73 t75 q0) <|
 .done) <|
 .cond t76 (.seq (.region <|
 m p77 t1 <|
 m p78 t2 <|
 m p79 t3 <|
 m p80 t5 <|
 a p81 n121 [t77, t78, t79, t80] <|
 .done) <|
 .cond t81 (.ret) <|
 .skip) <|
 .skip) <|
 .seq (.seq (.region <|
 m p82 t2 <|
 o p83 (.cmp .gtr t82 q1) <|
 m p84 t83 <|
 .step ⟨(some p85), (some (p84, true)), .op (.move t5)⟩ [] <|
 .step ⟨(some p86), (some (p84, true)), .op (.move t1)⟩ [] <|
 .step ⟨(some p87), (some (p84, true)), .op (.move t2)⟩ [] <|
 .step ⟨(some p88), (some (p84, true)), .op (.ar .sub t87 q3)⟩ [] <|
 .step ⟨(some p89), (some (p84, true)), .op (.idxS n2 t86 t88)⟩ [] <|
 .step ⟨(some p90), (some (p84, true)), .op (.loadN n2 t89)⟩ [] <|
 .step ⟨(some p91), (some (p84, true)), .op (.move t1)⟩ [] <|
 .step ⟨(some p92), (some (p84, true)), .op (.move t14)⟩ [] <|
 .step ⟨(some p93), (some (p84, true)), .op (.idxS n2 t91 t92)⟩ [] <|
 .step ⟨(some p94), (some (p84, true)), .op (.loadN n2 t93)⟩ [] <|
 .step ⟨(some p95), (some (p84, true)), .callv t85 [t90, t94]⟩ [] <|
 .step ⟨(some p96), (some (p84, true)), .op (.cmp .lss t95 q1)⟩ [] <|
 .step ⟨(some p97), (some (p84, true)), .op (.not t96)⟩ [] <|
 o p98 (.pick t84 t97 q0) <|
 .done) <|
 .cond t98 (.seq (.region <|
 m p99 t1 <|
 m p100 t2 <|
 m p101 t3 <|
 m p102 t14 <|
 m p103 t5 <|
 a p104 n122 [t99, t100, t101, t102, t103] <|
 m p16 t104 <|
 .done) <|
 .seq (.region <|
 m p105 t16 <|
 m p2 t105 <|
 .done) <|
 .exit n1) <|
 .skip) <|
 .seq (.region <|
 m p107 t1 <|
 m p108 t2 <|
 m p109 t3 <|
 m p110 t14 <|
 m p111 t5 <|
 a p112 n123 [t107, t108, t109, t110, t111] <|
 m p106 t112 <|
 o p113 (.extract n0 t106) <|
 o p114 (.extract n1 t106) <|
 m p17 t113 <|
 m p18 t114 <|
 .done) <|
 .seq (.region <|
 m p115 t18 <|
 m p12 t115 <|
 .done) <|
 .seq (.region <|
 m p116 t17 <|
 m p117 t2 <|
 o p118 (.ar .sub t116 t117) <|
 m p119 t3 <|
 m p120 t17 <|
 o p121 (.ar .sub t119 t120) <|
 m p19 t118 <|
 m p20 t121 <|
 .done) <|
 .seq (.region <|
 m p122 t13 <|
 o p123 (.ar .quo t122 q18) <|
 m p21 t123 <|
 .done) <|
 .seq (.region <|
 m p124 t19 <|
 m p125 t20 <|
 o p126 (.cmp .lss t124 t125) <|
 .done) <|
 .cond t126 (.seq (.region <|
 m p127 t19 <|
 m p128 t21 <|
 o p129 (.cmp .geq t127 t128) <|
 m p11 t129 <|
 .done) <|
 .seq (.region <|
 m p130 t1 <|
 m p131 t2 <|
 m p132 t17 <|
 m p133 t4 <|
 m p134 t5 <|
 a p135 n97 [t130, t131, t132, t133, t134] <|
 .done) <|
 .region <|
 m p136 t17 <|
 o p137 (.ar .add t136 q3) <|
 m p2 t137 <|
 .done) <|
 .seq (.region <|
 m p138 t20 <|
 m p139 t21 <|
 o p140 (.cmp .geq t138 t139) <|
 m p11 t140 <|
 .done) <|
 .seq (.region <|
 m p141 t1 <|
 m p142 t17 <|
 o p143 (.ar .add t142 q3) <|
 m p144 t3 <|
 m p145 t4 <|
 m p146 t5 <|
 a p147 n97 [t141, t143, t144, t145, t146] <|
 .done) <|
 .region <|
 m p148 t17 <|
 m p3 t148 <|
 .done, []⟩
theorem c97 : compFn Tryz.prog pl97 Tryz.f97 = some F97 := by kernel_rfl

def pl98 : Plans := []
def F98 : CFun := ⟨n8, .seq (.region <|
 m p3 q1 <|
 .done) <|
 .seq (.cond q0 (.seq (.region <|
 m p4 t1 <|
 o p5 (.conv .u32 t4) <|
 a p6 n124 [t5] <|
 m p3 t6 <|
 .done) <|
 .ret) <|
 .skip) <|
 .seq (.region <|
 m p7 t1 <|
 a p8 n125 [t7] <|
 m p3 t8 <|
 .done) <|
 .ret, [.tmp p3]⟩
theorem c98 : compFn Tryz.prog pl98 Tryz.f98 = some F98 := by kernel_rfl

def pl99 : Plans := []
def F99 : CFun := ⟨n19, .seq (.region <|
 m p5 q1 <|
 .done) <|
 .seq (.seq (.region <|
 m p7 t1 <|
 o p8 (.len t7) <|
 m p9 q1 <|
 .done) <|
 .block n0 <| .loop <| .seq (.region <|
 o p10 (.cmp .lss t9 t8) <|
 .done) <|
 .seq (.cond t10 (.skip) <|
 .exit n0) <|
 .seq (.block n1 <| .seq (.region <|
 m p11 t9 <|
 m p6 t11 <|
 .done) <|
 .seq (.region <|
 m p12 t2 <|
 m p13 t1 <|
 m p14 t6 <|
 o p15 (.idxS n2 t13 t14) <|
 o p16 (.loadN n2 t15) <|
 .step ⟨(some p17), none, .callv t12 [t16]⟩ [] <|
 .done) <|
 .cond t17 (.seq (.region <|
 m p18 t6 <|
 m p5 t18 <|
 .done) <|
 .ret) <|
 .skip) <|
 .region <|
 o p19 (.ar .add t9 q3) <|
 m p9 t19 <|
 .done) <|
 .seq (.region <|
 m p5 q20 <|
 .done) <|
 .ret, [.tmp p5]⟩
theorem c99 : compFn Tryz.prog pl99 Tryz.f99 = some F99 := by kernel_rfl

def pl100 : Plans := []
def F100 : CFun := ⟨n13, .seq (.region <|
 m p5 q42 <|
 .done) <|
 .seq (.region <|
 m p6 t1 <|
 o p7 (.conv .u32 t6) <|
 a p8 n126 [t7] <|
 m p9 t2 <|
 o p10 (.conv .u32 t9) <|
 a p11 n126 [t10] <|
 o p12 (.ar .shl t11 q43) <|
 o p13 (.ar .or t8 t12) <|
 m p5 t13 <|
 .done) <|
 .ret, [.tmp p5]⟩
theorem c100 : compFn Tryz.prog pl100 Tryz.f100 = some F100 := by kernel_rfl

def pl101 : Plans := []
def F101 : CFun := ⟨n17, .seq (.region <|
 m p5 q7 <|
 .done) <|
 .seq (.region <|
 m p9 t2 <|
 a p10 n127 [t9] <|
 m p8 t10 <|
 o p11 (.extract n0 t8) <|
 o p12 (.extract n1 t8) <|
 o p6 (.alloc z14) <|
 e (.storeN n4 t6 t11) <|
 m p7 t12 <|
 .done) <|
 .seq (.seq (.region <|
 m p13 t7 <|
 o p14 (.not t13) <|
 .done) <|
 .cond t14 (.seq (.region <|
 m p5 q7 <|
 .done) <|
 .ret) <|
 .skip) <|
 .seq (.region <|
 m p15 t1 <|
 o p16 (.loadN n4 t6) <|
 a p17 n128 [t15, t16] <|
 m p5 t17 <|
 .done) <|
 .ret, [.tmp p5]⟩
theorem c101 : compFn Tryz.prog pl101 Tryz.f101 = some F101 := by kernel_rfl

def pl102 : Plans := [(6, [K [] [0] 37, K [] [9] 38, K [] [0] 39, K [] [9] 40, K [3] [40] 41, K [] [0] 42, K [] [9] 43, K [6] [43] 44, K [5, 7] [42, 44] 45, K [8] [45] 46, K [] [0] 47, K [] [9] 48, K [10, 11] [47, 48] 49, K [12] [49] 50, K (0 :: 1 :: 0 :: 1 :: (r 5 5 [13])) [37, 38] 51, J (14 :: 9 :: 0 :: 1 :: (r 5 5 [13])) [51, 46], K (2 :: 4 :: (r 0 16 [])) [39, 41] 52, J (16 :: 13 :: 15 :: (r 0 16 [])) [52, 50]], [Q 0 1 [14, 15, 16, 17], Q 1 1 [14, 15, 16, 17], Q 2 1 [16, 17], Q 3 1 [4, 16, 17], Q 4 1 [16, 17], Q 5 1 [8, 9, 14, 15, 16, 17], Q 6 1 [7, 8, 9, 14, 15, 16, 17], Q 7 1 [8, 9, 14, 15, 16, 17], Q 8 1 [9, 14, 15, 16, 17], Q 9 2 [14, 15, 16, 17], Q 10 1 (r 12 6 []), Q 11 1 (r 12 6 []), Q 12 1 (r 13 5 []), Q 13 2 [14, 15, 16, 17], Q 14 1 [15, 16, 17], Q 15 0 [], Q 16 1 [17], Q 17 0 []], .node (Q 0 1 [14, 15, 16, 17]) <| .node (Q 1 1 [14, 15, 16, 17]) <| .node (Q 2 1 [16, 17]) <| .node (Q 3 1 [4, 16, 17]) <| .node (Q 4 1 [16, 17]) <| .node (Q 5 1 [8, 9, 14, 15, 16, 17]) <| .node (Q 6 1 [7, 8, 9, 14, 15, 16, 17]) <| .node (Q 7 1 [8, 9, 14, 15, 16, 17]) <| .node (Q 8 1 [9, 14, 15, 16, 17]) <| .node (Q 9 2 [14, 15, 16, 17]) <| .node (Q 10 1 (r 12 6 [])) <| .node (Q 11 1 (r 12 6 [])) <| .node (Q 12 1 (r 13 5 [])) <| .node (Q 13 2 [14, 15, 16, 17]) <| .node (Q 14 1 [15, 16, 17]) <| .node (Q 15 0 []) <| .node (Q 16 1 [17]) <| .node (Q 17 0 []) <| .done),
  (4, [K [] [9] 18, K [] [1] 19, K [0, 1] [18, 19] 20, K [2] [20] 21, K [3] [3, 21] 22, K [3] [0, 21] 23, K [3] [9, 21] 24, K [5, 6, 3] [23, 24, 21] 25, K [7, 3] [25, 21] 26, K [3] [0, 21] 27, K [3] [9, 21] 28, K [10, 3] [28, 21] 29, K [9, 11, 3] [27, 29, 21] 30, K [12, 3] [30, 21] 31, K [4, 8, 13, 3, 3] [22, 26, 31, 21] 32, K [14, 3] [32, 21] 33, K [3, 15] [21, 33] 34], [Q 0 1 (r 2 15 []), Q 1 1 (r 2 15 []), Q 2 1 (r 3 14 []), Q 3 1 (r 4 13 []), Q 4 1 [14, 15, 16], Q 5 1 [7, 8, 14, 15, 16], Q 6 1 [7, 8, 14, 15, 16], Q 7 1 [8, 14, 15, 16], Q 8 2 [14, 15, 16], Q 9 1 (r 12 5 []), Q 10 1 (r 11 6 []), Q 11 1 (r 12 5 []), Q 12 1 [13, 14, 15, 16], Q 13 2 [14, 15, 16], Q 14 0 [], Q 15 1 [16], Q 16 1 []], .node (Q 0 1 (r 2 15 [])) <| .node (Q 1 1 (r 2 15 [])) <| .node (Q 2 1 (r 3 14 [])) <| .node (Q 3 1 (r 4 13 [])) <| .node (Q 4 1 [14, 15, 16]) <| .node (Q 5 1 [7, 8, 14, 15, 16]) <| .node (Q 6 1 [7, 8, 14, 15, 16]) <| .node (Q 7 1 [8, 14, 15, 16]) <| .node (Q 8 2 [14, 15, 16]) <| .node (Q 9 1 (r 12 5 [])) <| .node (Q 10 1 (r 11 6 [])) <| .node (Q 11 1 (r 12 5 [])) <| .node (Q 12 1 [13, 14, 15, 16]) <| .node (Q 13 2 [14, 15, 16]) <| .node (Q 14 0 []) <| .node (Q 15 1 [16]) <| .node (Q 16 1 []) <| .done)]
def F102 : CFun := ⟨n53, .seq (.region <|
 m p11 t2 <|
 o p12 (.ar .add t11 q3) <|
 m p9 t12 <|
 .done) <|
 .block n0 <| .loop <| .seq (.seq (.region <|
 m p13 t9 <|
 m p14 t3 <|
 o p15 (.cmp .lss t13 t14) <|
 .done) <|
 .cond t15 (.skip) <|
 .exit n0) <|
 .seq (.block n1 <| .seq (.region <|
 m p18 t9 <|
 m p10 t18 <|
 .done) <|
 .block n2 <| .loop <| .seq (.seq (.region <|
 m p19 t10 <|
 m p20 t2 <|
 o p21 (.cmp .gtr t19 t20) <|
 m p22 t21 <|
 .step ⟨(some p23), (some (p22, true)), .op (.move t4)⟩ [] <|
 .step ⟨(some p24), (some (p22, true)), .op (.move t1)⟩ [] <|
 .step ⟨(some p25), (some (p22, true)), .op (.move t10)⟩ [] <|
 .step ⟨(some p26), (some (p22, true)), .op (.idxS n6 t24 t25)⟩ [] <|
 .step ⟨(some p27), (some (p22, true)), .op (.loadN n6 t26)⟩ [] <|
 .step ⟨(some p28), (some (p22, true)), .op (.move t1)⟩ [] <|
 .step ⟨(some p29), (some (p22, true)), .op (.move t10)⟩ [] <|
 .step ⟨(some p30), (some (p22, true)), .op (.ar .sub t29 q3)⟩ [] <|
 .step ⟨(some p31), (some (p22, true)), .op (.idxS n6 t28 t30)⟩ [] <|
 .step ⟨(some p32), (some (p22, true)), .op (.loadN n6 t31)⟩ [] <|
 .step ⟨(some p33), (some (p22, true)), .callv t23 [t27, t32]⟩ [] <|
 .step ⟨(some p34), (some (p22, true)), .op (.cmp .lss t33 q1)⟩ [] <|
 o p35 (.pick t22 t34 q0) <|
 .done) <|
 .cond t35 (.skip) <|
 .exit n2) <|
 .seq (.block n3 <| .region <|
 m p38 t1 <|
 m p39 t10 <|
 m p40 t1 <|
 m p41 t10 <|
 o p42 (.ar .sub t41 q3) <|
 m p43 t1 <|
 m p44 t10 <|
 o p45 (.ar .sub t44 q3) <|
 o p46 (.idxS n6 t43 t45) <|
 o p47 (.loadN n6 t46) <|
 m p48 t1 <|
 m p49 t10 <|
 o p50 (.idxS n6 t48 t49) <|
 o p51 (.loadN n6 t50) <|
 o p52 (.idxS n6 t38 t39) <|
 e (.storeN n6 t52 t47) <|
 o p53 (.idxS n6 t40 t42) <|
 e (.storeN n6 t53 t51) <|
 .done) <|
 .region <|
 m p36 t10 <|
 o p37 (.ar .sub t36 q3) <|
 m p10 t37 <|
 .done) <|
 .region <|
 m p16 t9 <|
 o p17 (.ar .add t16 q3) <|
 m p9 t17 <|
 .done, []⟩
theorem c102 : compFn Tryz.prog pl102 Tryz.f102 = some F102 := by kernel_rfl

def pl103 : Plans := [(35, [K [] [4] 158, K [] [0] 159, K [] [22] 160, K [] [23] 161, K [2, 3] [160, 161] 162, K [1, 4] [159, 162] 163, K [5] [163] 164, K [] [0] 165, K [] [23] 166, K [7, 8] [165, 166] 167, K [9] [167] 168, K [0, 6, 10] [158, 164, 168] 169, K [11] [169] 170, K [12] [170] 171], [Q 0 1 [11, 12, 13], Q 1 1 [5, 6, 11, 12, 13], Q 2 1 [4, 5, 6, 11, 12, 13], Q 3 1 [4, 5, 6, 11, 12, 13], Q 4 1 [5, 6, 11, 12, 13], Q 5 1 [6, 11, 12, 13], Q 6 2 [11, 12, 13], Q 7 1 (r 9 5 []), Q 8 1 (r 9 5 []), Q 9 1 [10, 11, 12, 13], Q 10 2 [11, 12, 13], Q 11 0 [], Q 12 1 [13], Q 13 1 []], .node (Q 0 1 [11, 12, 13]) <| .node (Q 1 1 [5, 6, 11, 12, 13]) <| .node (Q 2 1 [4, 5, 6, 11, 12, 13]) <| .node (Q 3 1 [4, 5, 6, 11, 12, 13]) <| .node (Q 4 1 [5, 6, 11, 12, 13]) <| .node (Q 5 1 [6, 11, 12, 13]) <| .node (Q 6 2 [11, 12, 13]) <| .node (Q 7 1 (r 9 5 [])) <| .node (Q 8 1 (r 9 5 [])) <| .node (Q 9 1 [10, 11, 12, 13]) <| .node (Q 10 2 [11, 12, 13]) <| .node (Q 11 0 []) <| .node (Q 12 1 [13]) <| .node (Q 13 1 []) <| .done),
  (23, [K [] [0] 113, K [] [17] 114, K [] [0] 115, K [] [17] 116, K [3] [116] 117, K [] [0] 118, K [] [17] 119, K [6] [119] 120, K [5, 7] [118, 120] 121, K [8] [121] 122, K [] [0] 123, K [] [17] 124, K [10, 11] [123, 124] 125, K [12] [125] 126, K (0 :: 1 :: 0 :: 1 :: (r 5 5 [13])) [113, 114] 127, J (14 :: 9 :: 0 :: 1 :: (r 5 5 [13])) [127, 122], K (2 :: 4 :: (r 0 16 [])) [115, 117] 128, J (16 :: 13 :: 15 :: (r 0 16 [])) [128, 126]], [Q 0 1 [14, 15, 16, 17], Q 1 1 [14, 15, 16, 17], Q 2 1 [16, 17], Q 3 1 [4, 16, 17], Q 4 1 [16, 17], Q 5 1 [8, 9, 14, 15, 16, 17], Q 6 1 [7, 8, 9, 14, 15, 16, 17], Q 7 1 [8, 9, 14, 15, 16, 17], Q 8 1 [9, 14, 15, 16, 17], Q 9 2 [14, 15, 16, 17], Q 10 1 (r 12 6 []), Q 11 1 (r 12 6 []), Q 12 1 (r 13 5 []), Q 13 2 [14, 15, 16, 17], Q 14 1 [15, 16, 17], Q 15 0 [], Q 16 1 [17], Q 17 0 []], .node (Q 0 1 [14, 15, 16, 17]) <| .node (Q 1 1 [14, 15, 16, 17]) <| .node (Q 2 1 [16, 17]) <| .node (Q 3 1 [4, 16, 17]) <| .node (Q 4 1 [16, 17]) <| .node (Q 5 1 [8, 9, 14, 15, 16, 17]) <| .node (Q 6 1 [7, 8, 9, 14, 15, 16, 17]) <| .node (Q 7 1 [8, 9, 14, 15, 16, 17]) <| .node (Q 8 1 [9, 14, 15, 16, 17]) <| .node (Q 9 2 [14, 15, 16, 17]) <| .node (Q 10 1 (r 12 6 [])) <| .node (Q 11 1 (r 12 6 [])) <| .node (Q 12 1 (r 13 5 [])) <| .node (Q 13 2 [14, 15, 16, 17]) <| .node (Q 14 1 [15, 16, 17]) <| .node (Q 15 0 []) <| .node (Q 16 1 [17]) <| .node (Q 17 0 []) <| .done),
  (17, [K [] [4] 92, K [] [0] 93, K [] [2] 94, K [1, 2] [93, 94] 95, K [3] [95] 96, K [] [0] 97, K [] [16] 98, K [5, 6] [97, 98] 99, K [7] [99] 100, K [0, 4, 8] [92, 96, 100] 101, K [9] [101] 102, K [10] [102] 103], [Q 0 1 [9, 10, 11], Q 1 1 [3, 4, 9, 10, 11], Q 2 1 [3, 4, 9, 10, 11], Q 3 1 [4, 9, 10, 11], Q 4 2 [9, 10, 11], Q 5 1 (r 7 5 []), Q 6 1 (r 7 5 []), Q 7 1 [8, 9, 10, 11], Q 8 2 [9, 10, 11], Q 9 0 [], Q 10 1 [11], Q 11 1 []], .node (Q 0 1 [9, 10, 11]) <| .node (Q 1 1 [3, 4, 9, 10, 11]) <| .node (Q 2 1 [3, 4, 9, 10, 11]) <| .node (Q 3 1 [4, 9, 10, 11]) <| .node (Q 4 2 [9, 10, 11]) <| .node (Q 5 1 (r 7 5 [])) <| .node (Q 6 1 (r 7 5 [])) <| .node (Q 7 1 [8, 9, 10, 11]) <| .node (Q 8 2 [9, 10, 11]) <| .node (Q 9 0 []) <| .node (Q 10 1 [11]) <| .node (Q 11 1 []) <| .done),
  (11, [K [] [0] 61, K [] [13] 62, K [] [0] 63, K [] [13] 64, K [3] [64] 65, K [] [0] 66, K [] [13] 67, K [6] [67] 68, K [5, 7] [66, 68] 69, K [8] [69] 70, K [] [0] 71, K [] [13] 72, K [10, 11] [71, 72] 73, K [12] [73] 74, K (0 :: 1 :: 0 :: 1 :: (r 5 5 [13])) [61, 62] 75, J (14 :: 9 :: 0 :: 1 :: (r 5 5 [13])) [75, 70], K (2 :: 4 :: (r 0 16 [])) [63, 65] 76, J (16 :: 13 :: 15 :: (r 0 16 [])) [76, 74]], [Q 0 1 [14, 15, 16, 17], Q 1 1 [14, 15, 16, 17], Q 2 1 [16, 17], Q 3 1 [4, 16, 17], Q 4 1 [16, 17], Q 5 1 [8, 9, 14, 15, 16, 17], Q 6 1 [7, 8, 9, 14, 15, 16, 17], Q 7 1 [8, 9, 14, 15, 16, 17], Q 8 1 [9, 14, 15, 16, 17], Q 9 2 [14, 15, 16, 17], Q 10 1 (r 12 6 []), Q 11 1 (r 12 6 []), Q 12 1 (r 13 5 []), Q 13 2 [14, 15, 16, 17], Q 14 1 [15, 16, 17], Q 15 0 [], Q 16 1 [17], Q 17 0 []], .node (Q 0 1 [14, 15, 16, 17]) <| .node (Q 1 1 [14, 15, 16, 17]) <| .node (Q 2 1 [16, 17]) <| .node (Q 3 1 [4, 16, 17]) <| .node (Q 4 1 [16, 17]) <| .node (Q 5 1 [8, 9, 14, 15, 16, 17]) <| .node (Q 6 1 [7, 8, 9, 14, 15, 16, 17]) <| .node (Q 7 1 [8, 9, 14, 15, 16, 17]) <| .node (Q 8 1 [9, 14, 15, 16, 17]) <| .node (Q 9 2 [14, 15, 16, 17]) <| .node (Q 10 1 (r 12 6 [])) <| .node (Q 11 1 (r 12 6 [])) <| .node (Q 12 1 (r 13 5 [])) <| .node (Q 13 2 [14, 15, 16, 17]) <| .node (Q 14 1 [15, 16, 17]) <| .node (Q 15 0 []) <| .node (Q 16 1 [17]) <| .node (Q 17 0 []) <| .done),
  (5, [K [] [4] 40, K [] [0] 41, K [] [12] 42, K [1, 2] [41, 42] 43, K [3] [43] 44, K [] [0] 45, K [] [1] 46, K [5, 6] [45, 46] 47, K [7] [47] 48, K [0, 4, 8] [40, 44, 48] 49, K [9] [49] 50], [Q 0 1 [9, 10], Q 1 1 [3, 4, 9, 10], Q 2 1 [3, 4, 9, 10], Q 3 1 [4, 9, 10], Q 4 2 [9, 10], Q 5 1 [7, 8, 9, 10], Q 6 1 [7, 8, 9, 10], Q 7 1 [8, 9, 10], Q 8 2 [9, 10], Q 9 0 [], Q 10 1 []], .node (Q 0 1 [9, 10]) <| .node (Q 1 1 [3, 4, 9, 10]) <| .node (Q 2 1 [3, 4, 9, 10]) <| .node (Q 3 1 [4, 9, 10]) <| .node (Q 4 2 [9, 10]) <| .node (Q 5 1 [7, 8, 9, 10]) <| .node (Q 6 1 [7, 8, 9, 10]) <| .node (Q 7 1 [8, 9, 10]) <| .node (Q 8 2 [9, 10]) <| .node (Q 9 0 []) <| .node (Q 10 1 []) <| .done)]
def F103 : CFun := ⟨n220, .seq (.seq (.region <|
 m p26 t3 <|
 m p27 t2 <|
 o p28 (.ar .sub t26 t27) <|
 o p29 (.cmp .eql t28 q3) <|
 .done) <|
 .cond t29 (.seq (.region <|
 m p30 t3 <|
 m p11 t30 <|
 .done) <|
 .seq (.region <|
 m p31 t4 <|
 m p12 t31 <|
 .done) <|
 .seq (.block n0 <| .loop <| .seq (.seq (.region <|
 m p32 t11 <|
 m p33 t12 <|
 o p34 (.cmp .lss t32 t33) <|
 .done) <|
 .cond t34 (.skip) <|
 .exit n0) <|
 .block n1 <| .seq (.region <|
 m p35 t11 <|
 m p36 t12 <|
 o p37 (.ar .add t35 t36) <|
 o p38 (.conv .u64 t37) <|
 o p39 (.ar .shr t38 q43) <|
 o p40 (.conv .i64 t39) <|
 m p13 t40 <|
 .done) <|
 .seq (.region <|
 m p41 t5 <|
 m p42 t1 <|
 m p43 t13 <|
 o p44 (.idxS n6 t42 t43) <|
 o p45 (.loadN n6 t44) <|
 m p46 t1 <|
 m p47 t2 <|
 o p48 (.idxS n6 t46 t47) <|
 o p49 (.loadN n6 t48) <|
 .step ⟨(some p50), none, .callv t41 [t45, t49]⟩ [] <|
 o p51 (.cmp .lss t50 q1) <|
 .done) <|
 .cond t51 (.region <|
 m p52 t13 <|
 o p53 (.ar .add t52 q3) <|
 m p11 t53 <|
 .done) <|
 .region <|
 m p54 t13 <|
 m p12 t54 <|
 .done) <|
 .seq (.seq (.region <|
 m p55 t2 <|
 m p14 t55 <|
 .done) <|
 .block n2 <| .loop <| .seq (.seq (.region <|
 m p56 t14 <|
 m p57 t11 <|
 o p58 (.ar .sub t57 q3) <|
 o p59 (.cmp .lss t56 t58) <|
 .done) <|
 .cond t59 (.skip) <|
 .exit n2) <|
 .seq (.block n3 <| .region <|
 m p62 t1 <|
 m p63 t14 <|
 m p64 t1 <|
 m p65 t14 <|
 o p66 (.ar .add t65 q3) <|
 m p67 t1 <|
 m p68 t14 <|
 o p69 (.ar .add t68 q3) <|
 o p70 (.idxS n6 t67 t69) <|
 o p71 (.loadN n6 t70) <|
 m p72 t1 <|
 m p73 t14 <|
 o p74 (.idxS n6 t72 t73) <|
 o p75 (.loadN n6 t74) <|
 o p76 (.idxS n6 t62 t63) <|
 e (.storeN n6 t76 t71) <|
 o p77 (.idxS n6 t64 t66) <|
 e (.storeN n6 t77 t75) <|
 .done) <|
 .region <|
 m p60 t14 <|
 o p61 (.ar .add t60 q3) <|
 m p14 t61 <|
 .done) <|
 .ret) <|
 .skip) <|
 .seq (.seq (.region <|
 m p78 t4 <|
 m p79 t3 <|
 o p80 (.ar .sub t78 t79) <|
 o p81 (.cmp .eql t80 q3) <|
 .done) <|
 .cond t81 (.seq (.region <|
 m p82 t2 <|
 m p15 t82 <|
 .done) <|
 .seq (.region <|
 m p83 t3 <|
 m p16 t83 <|
 .done) <|
 .seq (.block n4 <| .loop <| .seq (.seq (.region <|
 m p84 t15 <|
 m p85 t16 <|
 o p86 (.cmp .lss t84 t85) <|
 .done) <|
 .cond t86 (.skip) <|
 .exit n4) <|
 .block n5 <| .seq (.region <|
 m p87 t15 <|
 m p88 t16 <|
 o p89 (.ar .add t87 t88) <|
 o p90 (.conv .u64 t89) <|
 o p91 (.ar .shr t90 q43) <|
 o p92 (.conv .i64 t91) <|
 m p17 t92 <|
 .done) <|
 .seq (.region <|
 m p93 t5 <|
 m p94 t1 <|
 m p95 t3 <|
 o p96 (.idxS n6 t94 t95) <|
 o p97 (.loadN n6 t96) <|
 m p98 t1 <|
 m p99 t17 <|
 o p100 (.idxS n6 t98 t99) <|
 o p101 (.loadN n6 t100) <|
 .step ⟨(some p102), none, .callv t93 [t97, t101]⟩ [] <|
 o p103 (.cmp .lss t102 q1) <|
 o p104 (.not t103) <|
 .done) <|
 .cond t104 (.region <|
 m p105 t17 <|
 o p106 (.ar .add t105 q3) <|
 m p15 t106 <|
 .done) <|
 .region <|
 m p107 t17 <|
 m p16 t107 <|
 .done) <|
 .seq (.seq (.region <|
 m p108 t3 <|
 m p18 t108 <|
 .done) <|
 .block n6 <| .loop <| .seq (.seq (.region <|
 m p109 t18 <|
 m p110 t15 <|
 o p111 (.cmp .gtr t109 t110) <|
 .done) <|
 .cond t111 (.skip) <|
 .exit n6) <|
 .seq (.block n7 <| .region <|
 m p114 t1 <|
 m p115 t18 <|
 m p116 t1 <|
 m p117 t18 <|
 o p118 (.ar .sub t117 q3) <|
 m p119 t1 <|
 m p120 t18 <|
 o p121 (.ar .sub t120 q3) <|
 o p122 (.idxS n6 t119 t121) <|
 o p123 (.loadN n6 t122) <|
 m p124 t1 <|
 m p125 t18 <|
 o p126 (.idxS n6 t124 t125) <|
 o p127 (.loadN n6 t126) <|
 o p128 (.idxS n6 t114 t115) <|
 e (.storeN n6 t128 t123) <|
 o p129 (.idxS n6 t116 t118) <|
 e (.storeN n6 t129 t127) <|
 .done) <|
 .region <|
 m p112 t18 <|
 o p113 (.ar .sub t112 q3) <|
 m p18 t113 <|
 .done) <|
 .ret) <|
 .skip) <|
 .seq (.region <|
 m p130 t2 <|
 m p131 t4 <|
 o p132 (.ar .add t130 t131) <|
 o p133 (.conv .u64 t132) <|
 o p134 (.ar .shr t133 q43) <|
 o p135 (.conv .i64 t134) <|
 m p19 t135 <|
 .done) <|
 .seq (.region <|
 m p136 t19 <|
 m p137 t3 <|
 o p138 (.ar .add t136 t137) <|
 m p20 t138 <|
 .done) <|
 .seq (.region <|
 m p21 q1 <|
 m p22 q1 <|
 .done) <|
 .seq (.seq (.region <|
 m p139 t3 <|
 m p140 t19 <|
 o p141 (.cmp .gtr t139 t140) <|
 .done) <|
 .cond t141 (.seq (.region <|
 m p142 t20 <|
 m p143 t4 <|
 o p144 (.ar .sub t142 t143) <|
 m p21 t144 <|
 .done) <|
 .region <|
 m p145 t19 <|
 m p22 t145 <|
 .done) <|
 .seq (.region <|
 m p146 t2 <|
 m p21 t146 <|
 .done) <|
 .region <|
 m p147 t3 <|
 m p22 t147 <|
 .done) <|
 .seq (.region <|
 m p148 t20 <|
 o p149 (.ar .sub t148 q3) <|
 m p23 t149 <|
 .done) <|
 .seq (.block n8 <| .loop <| .seq (.seq (.region <|
 m p150 t21 <|
 m p151 t22 <|
 o p152 (.cmp .lss t150 t151) <|
 .done) <|
 .cond t152 (.skip) <|
 .exit n8) <|
 .block n9 <| .seq (.region <|
 m p153 t21 <|
 m p154 t22 <|
 o p155 (.ar .add t153 t154) <|
 o p156 (.conv .u64 t155) <|
 o p157 (.ar .shr t156 q43) <|
 o p158 (.conv .i64 t157) <|
 m p24 t158 <|
 .done) <|
 .seq (.region <|
 m p159 t5 <|
 m p160 t1 <|
 m p161 t23 <|
 m p162 t24 <|
 o p163 (.ar .sub t161 t162) <|
 o p164 (.idxS n6 t160 t163) <|
 o p165 (.loadN n6 t164) <|
 m p166 t1 <|
 m p167 t24 <|
 o p168 (.idxS n6 t166 t167) <|
 o p169 (.loadN n6 t168) <|
 .step ⟨(some p170), none, .callv t159 [t165, t169]⟩ [] <|
 o p171 (.cmp .lss t170 q1) <|
 o p172 (.not t171) <|
 .done) <|
 .cond t172 (.region <|
 m p173 t24 <|
 o p174 (.ar .add t173 q3) <|
 m p21 t174 <|
 .done) <|
 .region <|
 m p175 t24 <|
 m p22 t175 <|
 .done) <|
 .seq (.region <|
 m p176 t20 <|
 m p177 t21 <|
 o p178 (.ar .sub t176 t177) <|
 m p25 t178 <|
 .done) <|
 .seq (.seq (.region <|
 m p179 t21 <|
 m p180 t3 <|
 o p181 (.cmp .lss t179 t180) <|
 m p182 t181 <|
 .step ⟨(some p183), (some (p182, true)), .op (.move t3)⟩ [] <|
 .step ⟨(some p184), (some (p182, true)), .op (.move t25)⟩ [] <|
 .step ⟨(some p185), (some (p182, true)), .op (.cmp .lss t183 t184)⟩ [] <|
 o p186 (.pick t182 t185 q0) <|
 .done) <|
 .cond t186 (.region <|
 m p187 t1 <|
 m p188 t21 <|
 m p189 t3 <|
 m p190 t25 <|
 m p191 t5 <|
 a p192 n129 [t187, t188, t189, t190, t191] <|
 .done) <|
 .skip) <|
 .seq (.seq (.region <|
 m p193 t2 <|
 m p194 t21 <|
 o p195 (.cmp .lss t193 t194) <|
 m p196 t195 <|
 .step ⟨(some p197), (some (p196, true)), .op (.move t21)⟩ [] <|
 .step ⟨(some p198), (some (p196, true)), .op (.move t19)⟩ [] <|
 .step ⟨(some p199), (some (p196, true)), .op (.cmp .lss t197 t198)⟩ [] <|
 o p200 (.pick t196 t199 q0) <|
 .done) <|
 .cond t200 (.region <|
 m p201 t1 <|
 m p202 t2 <|
 m p203 t21 <|
 m p204 t19 <|
 m p205 t5 <|
 a p206 n103 [t201, t202, t203, t204, t205] <|
 .done) <|
 .skip) <|
 .seq (.region <|
 m p207 t19 <|
 m p208 t25 <|
 o p209 (.cmp .lss t207 t208) <|
 m p210 t209 <|
 .step ⟨(some p211), (some (p210, true)), .op (.move t25)⟩ [] <|
 .step ⟨(some p212), (some (p210, true)), .op (.move t4)⟩ [] <|
 .step ⟨(some p213), (some (p210, true)), .op (.cmp .lss t211 t212)⟩ [] <|
 o p214 (.pick t210 t213 q0) <|
 .done) <|
 .cond t214 (.region <|
 m p215 t1 <|
 m p216 t19 <|
 m p217 t25 <|
 m p218 t4 <|
 m p219 t5 <|
 a p220 n103 [t215, t216, t217, t218, t219] <|
 .done) <|
 .skip, []⟩
theorem c103 : compFn Tryz.prog pl103 Tryz.f103 = some F103 := by kernel_rfl

def pl104 : Plans := []
def F104 : CFun := ⟨n8, .seq (.region <|
 o p3 (.box t1) <|
 m p4 q0 <|
 .done) <|
 .seq (.region <|
 o p5 (.fieldA n0 t3) <|
 o p6 (.load1 t5) <|
 o p7 (.load1 t2) <|
 o p8 (.cmp .eql t6 t7) <|
 m p4 t8 <|
 .done) <|
 .ret, [.tmp p4]⟩
theorem c104 : compFn Tryz.prog pl104 Tryz.f104 = some F104 := by kernel_rfl

def pl105 : Plans := []
def F105 : CFun := ⟨n22, .seq (.region <|
 o p2 (.box t1) <|
 m p3 q0 <|
 .done) <|
 .seq (.region <|
 o p4 (.fieldA n0 t2) <|
 o p5 (.load1 t4) <|
 o p6 (.cmp .geq t5 q1) <|
 m p7 t6 <|
 .step ⟨(some p8), (some (p7, true)), .op (.fieldA n0 t2)⟩ [] <|
 .step ⟨(some p9), (some (p7, true)), .op (.load1 t8)⟩ [] <|
 .step ⟨(some p10), (some (p7, true)), .op (.cmp .leq t9 q19)⟩ [] <|
 o p11 (.pick t7 t10 q0) <|
 m p12 t11 <|
 .step ⟨(some p13), (some (p12, true)), .op (.fieldA n1 t2)⟩ [] <|
 .step ⟨(some p14), (some (p12, true)), .op (.loadN n2 t13)⟩ [] <|
 .step ⟨(some p15), (some (p12, true)), .call n77 [t14]⟩ [] <|
 o p16 (.pick t12 t15 q0) <|
 m p17 t16 <|
 .step ⟨(some p18), (some (p17, true)), .op (.fieldA n3 t2)⟩ [] <|
 .step ⟨(some p19), (some (p17, true)), .op (.sliceA n4 n2 t18 none none)⟩ [] <|
 .step ⟨(some p20), (some (p17, true)), .call n130 [t19, q44]⟩ [] <|
 .step ⟨(some p21), (some (p17, true)), .op (.not t20)⟩ [] <|
 o p22 (.pick t17 t21 q0) <|
 m p3 t22 <|
 .done) <|
 .ret, [.tmp p3]⟩
theorem c105 : compFn Tryz.prog pl105 Tryz.f105 = some F105 := by kernel_rfl

def pl106 : Plans := []
def F106 : CFun := ⟨n19, .seq (.region <|
 m p5 q1 <|
 .done) <|
 .seq (.seq (.region <|
 m p7 t1 <|
 o p8 (.len t7) <|
 m p9 q1 <|
 .done) <|
 .block n0 <| .loop <| .seq (.region <|
 o p10 (.cmp .lss t9 t8) <|
 .done) <|
 .seq (.cond t10 (.skip) <|
 .exit n0) <|
 .seq (.block n1 <| .seq (.region <|
 m p11 t9 <|
 m p6 t11 <|
 .done) <|
 .seq (.region <|
 m p12 t2 <|
 m p13 t1 <|
 m p14 t6 <|
 o p15 (.idxS n22 t13 t14) <|
 o p16 (.loadN n22 t15) <|
 .step ⟨(some p17), none, .callv t12 [t16]⟩ [] <|
 .done) <|
 .cond t17 (.seq (.region <|
 m p18 t6 <|
 m p5 t18 <|
 .done) <|
 .ret) <|
 .skip) <|
 .region <|
 o p19 (.ar .add t9 q3) <|
 m p9 t19 <|
 .done) <|
 .seq (.region <|
 m p5 q20 <|
 .done) <|
 .ret, [.tmp p5]⟩
theorem c106 : compFn Tryz.prog pl106 Tryz.f106 = some F106 := by kernel_rfl

def pl107 : Plans := []
def F107 : CFun := ⟨n7, .seq (.region <|
 o p2 (.box t1) <|
 o p3 (.alloc z14) <|
 .done) <|
 .seq (.seq (.region <|
 o p4 (.loadN n4 t2) <|
 a p5 n132 [t4] <|
 .done) <|
 .cond t5 (.seq (.region <|
 o p6 (.build z14 []) <|
 e (.storeN n4 t3 t6) <|
 .done) <|
 .ret) <|
 .skip) <|
 .seq (.region <|
 o p7 (.loadN n4 t2) <|
 e (.storeN n4 t3 t7) <|
 .done) <|
 .ret, [.cellN n4 p3]⟩
theorem c107 : compFn Tryz.prog pl107 Tryz.f107 = some F107 := by kernel_rfl

def pl108 : Plans := []
def F108 : CFun := ⟨n42, .seq (.region <|
 m p5 q7 <|
 .done) <|
 .seq (.region <|
 m p9 t1 <|
 m p10 t2 <|
 a p11 n133 [t9, t10] <|
 m p6 t11 <|
 .done) <|
 .seq (.seq (.region <|
 m p12 t6 <|
 o p13 (.cmp .eql t12 q20) <|
 .done) <|
 .cond t13 (.seq (.region <|
 m p14 t1 <|
 m p5 t14 <|
 .done) <|
 .ret) <|
 .skip) <|
 .seq (.seq (.region <|
 m p15 t6 <|
 o p16 (.ar .add t15 q3) <|
 m p7 t16 <|
 .done) <|
 .block n0 <| .loop <| .seq (.seq (.region <|
 m p17 t7 <|
 m p18 t1 <|
 o p19 (.len t18) <|
 o p20 (.cmp .lss t17 t19) <|
 .done) <|
 .cond t20 (.skip) <|
 .exit n0) <|
 .seq (.block n1 <| .seq (.region <|
 m p23 t1 <|
 m p24 t7 <|
 o p25 (.idxS n1 t23 t24) <|
 o p26 (.load1 t25) <|
 m p8 t26 <|
 .done) <|
 .seq (.region <|
 m p27 t2 <|
 m p28 t8 <|
 .step ⟨(some p29), none, .callv t27 [t28]⟩ [] <|
 o p30 (.not t29) <|
 .done) <|
 .cond t30 (.seq (.region <|
 m p31 t1 <|
 m p32 t6 <|
 m p33 t8 <|
 o p34 (.idxS n1 t31 t32) <|
 e (.store1 t34 t33) <|
 .done) <|
 .region <|
 m p35 t6 <|
 o p36 (.ar .add t35 q3) <|
 m p6 t36 <|
 .done) <|
 .skip) <|
 .region <|
 m p21 t7 <|
 o p22 (.ar .add t21 q3) <|
 m p7 t22 <|
 .done) <|
 .seq (.region <|
 m p37 t1 <|
 m p38 t6 <|
 o p39 (.slice n1 t37 (some t38) none none) <|
 e (.clear z21 t39) <|
 .done) <|
 .seq (.region <|
 m p40 t1 <|
 m p41 t6 <|
 o p42 (.slice n1 t40 none (some t41) none) <|
 m p5 t42 <|
 .done) <|
 .ret, [.tmp p5]⟩
theorem c108 : compFn Tryz.prog pl108 Tryz.f108 = some F108 := by kernel_rfl

def pl109 : Plans := []
def F109 : CFun := ⟨n7, .seq (.region <|
 m p4 q0 <|
 .done) <|
 .seq (.region <|
 m p5 t1 <|
 o p6 (.load1 t2) <|
 o p7 (.cmp .eql t5 t6) <|
 m p4 t7 <|
 .done) <|
 .ret, [.tmp p4]⟩
theorem c109 : compFn Tryz.prog pl109 Tryz.f109 = some F109 := by kernel_rfl

def pl110 : Plans := []
def F110 : CFun := ⟨n29, .seq (.region <|
 o p3 (.box t1) <|
 o p4 (.box t2) <|
 m p5 q1 <|
 .done) <|
 .seq (.region <|
 m p6 q1 <|
 .done) <|
 .seq (.seq (.region <|
 o p7 (.fieldA n0 t4) <|
 o p8 (.load1 t7) <|
 o p9 (.fieldA n0 t3) <|
 o p10 (.load1 t9) <|
 o p11 (.fieldA n2 t3) <|
 o p12 (.load1 t11) <|
 o p13 (.ar .add t10 t12) <|
 o p14 (.ar .quo t13 q2) <|
 o p15 (.cmp .geq t8 t14) <|
 .done) <|
 .cond t15 (.region <|
 m p16 t6 <|
 o p17 (.ar .add t16 q3) <|
 m p6 t17 <|
 .done) <|
 .skip) <|
 .seq (.seq (.region <|
 o p18 (.fieldA n1 t4) <|
 o p19 (.load1 t18) <|
 o p20 (.fieldA n1 t3) <|
 o p21 (.load1 t20) <|
 o p22 (.fieldA n3 t3) <|
 o p23 (.load1 t22) <|
 o p24 (.ar .add t21 t23) <|
 o p25 (.ar .quo t24 q2) <|
 o p26 (.cmp .geq t19 t25) <|
 .done) <|
 .cond t26 (.region <|
 m p27 t6 <|
 o p28 (.ar .add t27 q2) <|
 m p6 t28 <|
 .done) <|
 .skip) <|
 .seq (.region <|
 m p29 t6 <|
 m p5 t29 <|
 .done) <|
 .ret, [.tmp p5]⟩
theorem c110 : compFn Tryz.prog pl110 Tryz.f110 = some F110 := by kernel_rfl

def pl111 : Plans := [(2, [K [] [2] 14, K [0] [14] 15, K [] [5] 16, K [] [1] 17, K [3] [17] 18, K [2, 4] [16, 18] 19, K [1, 5] [15, 19] 20, K [] [2] 21, K [7] [21] 22, K [] [5] 23, K [] [1] 24, K [10] [24] 25, K [9, 11] [23, 25] 26, K [8, 12] [22, 26] 27, K (6 :: (r 0 7 [])) [20] 6, K (13 :: 14 :: (r 0 15 [])) [27] 7], [Q 0 1 [1, 6, 14, 15], Q 1 2 [6, 14, 15], Q 2 1 [5, 6, 14, 15], Q 3 1 [4, 5, 6, 14, 15], Q 4 1 [5, 6, 14, 15], Q 5 1 [6, 14, 15], Q 6 1 [14, 15], Q 7 1 [8, 13, 15], Q 8 2 [13, 15], Q 9 1 [12, 13, 15], Q 10 1 [11, 12, 13, 15], Q 11 1 [12, 13, 15], Q 12 1 [13, 15], Q 13 1 [15], Q 14 1 [15], Q 15 1 []], .node (Q 0 1 [1, 6, 14, 15]) <| .node (Q 1 2 [6, 14, 15]) <| .node (Q 2 1 [5, 6, 14, 15]) <| .node (Q 3 1 [4, 5, 6, 14, 15]) <| .node (Q 4 1 [5, 6, 14, 15]) <| .node (Q 5 1 [6, 14, 15]) <| .node (Q 6 1 [14, 15]) <| .node (Q 7 1 [8, 13, 15]) <| .node (Q 8 2 [13, 15]) <| .node (Q 9 1 [12, 13, 15]) <| .node (Q 10 1 [11, 12, 13, 15]) <| .node (Q 11 1 [12, 13, 15]) <| .node (Q 12 1 [13, 15]) <| .node (Q 13 1 [15]) <| .node (Q 14 1 [15]) <| .node (Q 15 1 []) <| .done)]
def F111 : CFun := ⟨n37, .seq (.region <|
 o p3 (.box t1) <|
 o p5 (.alloc z14) <|
 .done) <|
 .seq (.region <|
 o p9 (.fieldA n2 t3) <|
 o p10 (.load1 t9) <|
 o p11 (.fieldA n0 t3) <|
 o p12 (.load1 t11) <|
 o p13 (.ar .sub t10 t12) <|
 o p14 (.ar .quo t13 q2) <|
 m p6 t14 <|
 .done) <|
 .seq (.region <|
 o p15 (.fieldA n0 t3) <|
 o p16 (.load1 t15) <|
 m p17 t6 <|
 m p18 t2 <|
 o p19 (.ar .rem t18 q2) <|
 o p20 (.ar .mul t17 t19) <|
 o p21 (.ar .add t16 t20) <|
 o p22 (.fieldA n1 t3) <|
 o p23 (.load1 t22) <|
 m p24 t6 <|
 m p25 t2 <|
 o p26 (.ar .quo t25 q2) <|
 o p27 (.ar .mul t24 t26) <|
 o p28 (.ar .add t23 t27) <|
 m p7 t21 <|
 m p8 t28 <|
 .done) <|
 .seq (.region <|
 m p29 t7 <|
 m p30 t8 <|
 m p31 t7 <|
 m p32 t6 <|
 o p33 (.ar .add t31 t32) <|
 m p34 t8 <|
 m p35 t6 <|
 o p36 (.ar .add t34 t35) <|
 o p37 (.build z14 [(n0, n1, t29), (n1, n1, t30), (n2, n1, t33), (n3, n1, t36)]) <|
 e (.storeN n4 t5 t37) <|
 .done) <|
 .ret, [.cellN n4 p5]⟩
theorem c111 : compFn Tryz.prog pl111 Tryz.f111 = some F111 := by kernel_rfl

def pl112 : Plans := []
def F112 : CFun := ⟨n32, .seq (.region <|
 m p3 q7 <|
 .done) <|
 .seq (.region <|
 m p6 t1 <|
 o p7 (.nilchk t6) <|
 o p8 (.fieldA n1 t7) <|
 o p9 (.load1 t8) <|
 a p10 n134 [t9] <|
 m p4 t10 <|
 .done) <|
 .seq (.seq (.region <|
 m p5 q1 <|
 .done) <|
 .block n0 <| .loop <| .seq (.seq (.region <|
 m p11 t1 <|
 o p12 (.nilchk t11) <|
 o p13 (.fieldA n2 t12) <|
 o p14 (.load1 t13) <|
 o p15 (.eqnil true n0 t14 q13) <|
 m p16 t15 <|
 .step ⟨(some p17), (some (p16, true)), .op (.move t5)⟩ [] <|
 .step ⟨(some p18), (some (p16, true)), .op (.cmp .lss t17 q8)⟩ [] <|
 o p19 (.pick t16 t18 q0) <|
 .done) <|
 .cond t19 (.skip) <|
 .exit n0) <|
 .seq (.block n1 <| .region <|
 m p22 t4 <|
 m p23 t1 <|
 o p24 (.nilchk t23) <|
 o p25 (.fieldA n2 t24) <|
 o p26 (.load1 t25) <|
 m p27 t5 <|
 o p28 (.nilchk t26) <|
 o p29 (.idxA n4 n3 t28 t27) <|
 a p30 n112 [t29] <|
 o p31 (.append n8 n1 t22 t30) <|
 m p4 t31 <|
 .done) <|
 .region <|
 m p20 t5 <|
 o p21 (.ar .add t20 q3) <|
 m p5 t21 <|
 .done) <|
 .seq (.region <|
 m p32 t4 <|
 m p3 t32 <|
 .done) <|
 .ret, [.tmp p3]⟩
theorem c112 : compFn Tryz.prog pl112 Tryz.f112 = some F112 := by kernel_rfl

def pl113 : Plans := []
def F113 : CFun := ⟨n31, .seq (.region <|
 o p3 (.box t1) <|
 o p4 (.box t2) <|
 m p5 q0 <|
 .done) <|
 .seq (.region <|
 o p6 (.fieldA n0 t4) <|
 o p7 (.load1 t6) <|
 o p8 (.fieldA n0 t3) <|
 o p9 (.load1 t8) <|
 o p10 (.cmp .geq t7 t9) <|
 m p11 t10 <|
 .step ⟨(some p12), (some (p11, true)), .op (.fieldA n0 t4)⟩ [] <|
 .step ⟨(some p13), (some (p11, true)), .op (.load1 t12)⟩ [] <|
 .step ⟨(some p14), (some (p11, true)), .op (.fieldA n2 t3)⟩ [] <|
 .step ⟨(some p15), (some (p11, true)), .op (.load1 t14)⟩ [] <|
 .step ⟨(some p16), (some (p11, true)), .op (.cmp .lss t13 t15)⟩ [] <|
 o p17 (.pick t11 t16 q0) <|
 m p18 t17 <|
 .step ⟨(some p19), (some (p18, true)), .op (.fieldA n1 t4)⟩ [] <|
 .step ⟨(some p20), (some (p18, true)), .op (.load1 t19)⟩ [] <|
 .step ⟨(some p21), (some (p18, true)), .op (.fieldA n1 t3)⟩ [] <|
 .step ⟨(some p22), (some (p18, true)), .op (.load1 t21)⟩ [] <|
 .step ⟨(some p23), (some (p18, true)), .op (.cmp .geq t20 t22)⟩ [] <|
 o p24 (.pick t18 t23 q0) <|
 m p25 t24 <|
 .step ⟨(some p26), (some (p25, true)), .op (.fieldA n1 t4)⟩ [] <|
 .step ⟨(some p27), (some (p25, true)), .op (.load1 t26)⟩ [] <|
 .step ⟨(some p28), (some (p25, true)), .op (.fieldA n3 t3)⟩ [] <|
 .step ⟨(some p29), (some (p25, true)), .op (.load1 t28)⟩ [] <|
 .step ⟨(some p30), (some (p25, true)), .op (.cmp .lss t27 t29)⟩ [] <|
 o p31 (.pick t25 t30 q0) <|
 m p5 t31 <|
 .done) <|
 .ret, [.tmp p5]⟩
theorem c113 : compFn Tryz.prog pl113 Tryz.f113 = some F113 := by kernel_rfl

def pl115 : Plans := [(17, [K [] [1] 73, K [0] [73] 74, K [1] [74] 75, K [2] [0, 75] 76, K [2] [1, 75] 77, K [4, 2] [77, 75] 78, K [3, 5, 2] [76, 78, 75] 79, K [6, 2] [79, 75] 80, K [2] [0, 75] 81, K [2] [11, 75] 82, K [8, 9, 2] [81, 82, 75] 83, K [10, 2] [83, 75] 84, K [7, 11, 2, 2] [80, 84, 75] 85, K [12, 2] [85, 75] 86, K [2, 13] [75, 86] 87], [Q 0 1 (r 1 14 []), Q 1 1 (r 2 13 []), Q 2 1 (r 3 12 []), Q 3 1 [6, 7, 12, 13, 14], Q 4 1 [5, 6, 7, 12, 13, 14], Q 5 1 [6, 7, 12, 13, 14], Q 6 1 [7, 12, 13, 14], Q 7 2 [12, 13, 14], Q 8 1 (r 10 5 []), Q 9 1 (r 10 5 []), Q 10 1 [11, 12, 13, 14], Q 11 2 [12, 13, 14], Q 12 0 [], Q 13 1 [14], Q 14 1 []], .node (Q 0 1 (r 1 14 [])) <| .node (Q 1 1 (r 2 13 [])) <| .node (Q 2 1 (r 3 12 [])) <| .node (Q 3 1 [6, 7, 12, 13, 14]) <| .node (Q 4 1 [5, 6, 7, 12, 13, 14]) <| .node (Q 5 1 [6, 7, 12, 13, 14]) <| .node (Q 6 1 [7, 12, 13, 14]) <| .node (Q 7 2 [12, 13, 14]) <| .node (Q 8 1 (r 10 5 [])) <| .node (Q 9 1 (r 10 5 [])) <| .node (Q 10 1 [11, 12, 13, 14]) <| .node (Q 11 2 [12, 13, 14]) <| .node (Q 12 0 []) <| .node (Q 13 1 [14]) <| .node (Q 14 1 []) <| .done)]
def F115 : CFun := ⟨n134, .seq (.region <|
 m p9 q12 <|
 .done) <|
 .seq (.region <|
 m p10 q12 <|
 .done) <|
 .block n0 <| .loop <| .block n1 <| .seq (.region <|
 m p20 t3 <|
 m p21 t2 <|
 o p22 (.ar .sub t20 t21) <|
 m p11 t22 <|
 .done) <|
 .seq (.seq (.region <|
 m p23 t11 <|
 o p24 (.cmp .leq t23 q28) <|
 .done) <|
 .cond t24 (.seq (.region <|
 m p25 t1 <|
 m p26 t2 <|
 m p27 t3 <|
 a p28 n135 [t25, t26, t27] <|
 .done) <|
 .ret) <|
 .skip) <|
 .seq (.seq (.region <|
 m p29 t4 <|
 o p30 (.cmp .eql t29 q1) <|
 .done) <|
 .cond t30 (.seq (.region <|
 m p31 t1 <|
 m p32 t2 <|
 m p33 t3 <|
 a p34 n136 [t31, t32, t33] <|
 .done) <|
 .ret) <|
 .skip) <|
 .seq (.seq (.region <|
 m p35 t9 <|
 o p36 (.not t35) <|
 .done) <|
 .cond t36 (.seq (.region <|
 m p37 t1 <|
 m p38 t2 <|
 m p39 t3 <|
 a p40 n137 [t37, t38, t39] <|
 .done) <|
 .region <|
 m p41 t4 <|
 o p42 (.ar .sub t41 q3) <|
 m p4 t42 <|
 .done) <|
 .skip) <|
 .seq (.region <|
 m p44 t1 <|
 m p45 t2 <|
 m p46 t3 <|
 a p47 n138 [t44, t45, t46] <|
 m p43 t47 <|
 o p48 (.extract n0 t43) <|
 o p49 (.extract n1 t43) <|
 m p12 t48 <|
 m p13 t49 <|
 .done) <|
 .seq (.seq (.region <|
 m p50 t13 <|
 o p51 (.cmp .eql t50 q2) <|
 .done) <|
 .cond t51 (.seq (.region <|
 m p52 t1 <|
 m p53 t2 <|
 m p54 t3 <|
 a p55 n139 [t52, t53, t54] <|
 .done) <|
 .seq (.region <|
 m p56 t3 <|
 o p57 (.ar .sub t56 q3) <|
 m p58 t12 <|
 m p59 t2 <|
 o p60 (.ar .sub t58 t59) <|
 o p61 (.ar .sub t57 t60) <|
 m p12 t61 <|
 .done) <|
 .region <|
 m p13 q3 <|
 .done) <|
 .skip) <|
 .seq (.seq (.region <|
 m p62 t9 <|
 m p63 t62 <|
 .step ⟨(some p64), (some (p63, true)), .op (.move t10)⟩ [] <|
 o p65 (.pick t63 t64 q0) <|
 m p66 t65 <|
 .step ⟨(some p67), (some (p66, true)), .op (.move t13)⟩ [] <|
 .step ⟨(some p68), (some (p66, true)), .op (.cmp .eql t67 q3)⟩ [] <|
 o p69 (.pick t66 t68 q0) <|
 .done) <|
 .cond t69 (.seq (.region <|
 m p70 t1 <|
 m p71 t2 <|
 m p72 t3 <|
 a p73 n140 [t70, t71, t72] <|
 .done) <|
 .cond t73 (.ret) <|
 .skip) <|
 .skip) <|
 .seq (.seq (.region <|
 m p74 t2 <|
 o p75 (.cmp .gtr t74 q1) <|
 m p76 t75 <|
 .step ⟨(some p77), (some (p76, true)), .op (.move t1)⟩ [] <|
 .step ⟨(some p78), (some (p76, true)), .op (.move t2)⟩ [] <|
 .step ⟨(some p79), (some (p76, true)), .op (.ar .sub t78 q3)⟩ [] <|
 .step ⟨(some p80), (some (p76, true)), .op (.idxS n1 t77 t79)⟩ [] <|
 .step ⟨(some p81), (some (p76, true)), .op (.load1 t80)⟩ [] <|
 .step ⟨(some p82), (some (p76, true)), .op (.move t1)⟩ [] <|
 .step ⟨(some p83), (some (p76, true)), .op (.move t12)⟩ [] <|
 .step ⟨(some p84), (some (p76, true)), .op (.idxS n1 t82 t83)⟩ [] <|
 .step ⟨(some p85), (some (p76, true)), .op (.load1 t84)⟩ [] <|
 .step ⟨(some p86), (some (p76, true)), .call n141 [t81, t85]⟩ [] <|
 .step ⟨(some p87), (some (p76, true)), .op (.not t86)⟩ [] <|
 o p88 (.pick t76 t87 q0) <|
 .done) <|
 .cond t88 (.seq (.region <|
 m p89 t1 <|
 m p90 t2 <|
 m p91 t3 <|
 m p92 t12 <|
 a p93 n142 [t89, t90, t91, t92] <|
 m p14 t93 <|
 .done) <|
 .seq (.region <|
 m p94 t14 <|
 m p2 t94 <|
 .done) <|
 .exit n1) <|
 .skip) <|
 .seq (.region <|
 m p96 t1 <|
 m p97 t2 <|
 m p98 t3 <|
 m p99 t12 <|
 a p100 n143 [t96, t97, t98, t99] <|
 m p95 t100 <|
 o p101 (.extract n0 t95) <|
 o p102 (.extract n1 t95) <|
 m p15 t101 <|
 m p16 t102 <|
 .done) <|
 .seq (.region <|
 m p103 t16 <|
 m p10 t103 <|
 .done) <|
 .seq (.region <|
 m p104 t15 <|
 m p105 t2 <|
 o p106 (.ar .sub t104 t105) <|
 m p107 t3 <|
 m p108 t15 <|
 o p109 (.ar .sub t107 t108) <|
 m p17 t106 <|
 m p18 t109 <|
 .done) <|
 .seq (.region <|
 m p110 t11 <|
 o p111 (.ar .quo t110 q18) <|
 m p19 t111 <|
 .done) <|
 .seq (.region <|
 m p112 t17 <|
 m p113 t18 <|
 o p114 (.cmp .lss t112 t113) <|
 .done) <|
 .cond t114 (.seq (.region <|
 m p115 t17 <|
 m p116 t19 <|
 o p117 (.cmp .geq t115 t116) <|
 m p9 t117 <|
 .done) <|
 .seq (.region <|
 m p118 t1 <|
 m p119 t2 <|
 m p120 t15 <|
 m p121 t4 <|
 a p122 n115 [t118, t119, t120, t121] <|
 .done) <|
 .region <|
 m p123 t15 <|
 o p124 (.ar .add t123 q3) <|
 m p2 t124 <|
 .done) <|
 .seq (.region <|
 m p125 t18 <|
 m p126 t19 <|
 o p127 (.cmp .geq t125 t126) <|
 m p9 t127 <|
 .done) <|
 .seq (.region <|
 m p128 t1 <|
 m p129 t15 <|
 o p130 (.ar .add t129 q3) <|
 m p131 t3 <|
 m p132 t4 <|
 a p133 n115 [t128, t130, t131, t132] <|
 .done) <|
 .region <|
 m p134 t15 <|
 m p3 t134 <|
 .done, []⟩
theorem c115 : compFn Tryz.prog pl115 Tryz.f115 = some F115 := by kernel_rfl

def pl116 : Plans := [(6, [K [] [0] 37, K [] [9] 38, K [] [0] 39, K [] [9] 40, K [3] [40] 41, K [] [0] 42, K [] [9] 43, K [6] [43] 44, K [5, 7] [42, 44] 45, K [8] [45] 46, K [] [0] 47, K [] [9] 48, K [10, 11] [47, 48] 49, K [12] [49] 50, K (0 :: 1 :: 0 :: 1 :: (r 5 5 [13])) [37, 38] 51, J (14 :: 9 :: 0 :: 1 :: (r 5 5 [13])) [51, 46], K (2 :: 4 :: (r 0 16 [])) [39, 41] 52, J (16 :: 13 :: 15 :: (r 0 16 [])) [52, 50]], [Q 0 1 [14, 15, 16, 17], Q 1 1 [14, 15, 16, 17], Q 2 1 [16, 17], Q 3 1 [4, 16, 17], Q 4 1 [16, 17], Q 5 1 [8, 9, 14, 15, 16, 17], Q 6 1 [7, 8, 9, 14, 15, 16, 17], Q 7 1 [8, 9, 14, 15, 16, 17], Q 8 1 [9, 14, 15, 16, 17], Q 9 2 [14, 15, 16, 17], Q 10 1 (r 12 6 []), Q 11 1 (r 12 6 []), Q 12 1 (r 13 5 []), Q 13 2 [14, 15, 16, 17], Q 14 1 [15, 16, 17], Q 15 0 [], Q 16 1 [17], Q 17 0 []], .node (Q 0 1 [14, 15, 16, 17]) <| .node (Q 1 1 [14, 15, 16, 17]) <| .node (Q 2 1 [16, 17]) <| .node (Q 3 1 [4, 16, 17]) <| .node (Q 4 1 [16, 17]) <| .node (Q 5 1 [8, 9, 14, 15, 16, 17]) <| .node (Q 6 1 [7, 8, 9, 14, 15, 16, 17]) <| .node (Q 7 1 [8, 9, 14, 15, 16, 17]) <| .node (Q 8 1 [9, 14, 15, 16, 17]) <| .node (Q 9 2 [14, 15, 16, 17]) <| .node (Q 10 1 (r 12 6 [])) <| .node (Q 11 1 (r 12 6 [])) <| .node (Q 12 1 (r 13 5 [])) <| .node (Q 13 2 [14, 15, 16, 17]) <| .node (Q 14 1 [15, 16, 17]) <| .node (Q 15 0 []) <| .node (Q 16 1 [17]) <| .node (Q 17 0 []) <| .done),
  (4, [K [] [9] 18, K [] [1] 19, K [0, 1] [18, 19] 20, K [2] [20] 21, K [3] [3, 21] 22, K [3] [0, 21] 23, K [3] [9, 21] 24, K [5, 6, 3] [23, 24, 21] 25, K [7, 3] [25, 21] 26, K [3] [0, 21] 27, K [3] [9, 21] 28, K [10, 3] [28, 21] 29, K [9, 11, 3] [27, 29, 21] 30, K [12, 3] [30, 21] 31, K [4, 8, 13, 3, 3] [22, 26, 31, 21] 32, K [14, 3] [32, 21] 33, K [3, 15] [21, 33] 34], [Q 0 1 (r 2 15 []), Q 1 1 (r 2 15 []), Q 2 1 (r 3 14 []), Q 3 1 (r 4 13 []), Q 4 1 [14, 15, 16], Q 5 1 [7, 8, 14, 15, 16], Q 6 1 [7, 8, 14, 15, 16], Q 7 1 [8, 14, 15, 16], Q 8 2 [14, 15, 16], Q 9 1 (r 12 5 []), Q 10 1 (r 11 6 []), Q 11 1 (r 12 5 []), Q 12 1 [13, 14, 15, 16], Q 13 2 [14, 15, 16], Q 14 0 [], Q 15 1 [16], Q 16 1 []], .node (Q 0 1 (r 2 15 [])) <| .node (Q 1 1 (r 2 15 [])) <| .node (Q 2 1 (r 3 14 [])) <| .node (Q 3 1 (r 4 13 [])) <| .node (Q 4 1 [14, 15, 16]) <| .node (Q 5 1 [7, 8, 14, 15, 16]) <| .node (Q 6 1 [7, 8, 14, 15, 16]) <| .node (Q 7 1 [8, 14, 15, 16]) <| .node (Q 8 2 [14, 15, 16]) <| .node (Q 9 1 (r 12 5 [])) <| .node (Q 10 1 (r 11 6 [])) <| .node (Q 11 1 (r 12 5 [])) <| .node (Q 12 1 [13, 14, 15, 16]) <| .node (Q 13 2 [14, 15, 16]) <| .node (Q 14 0 []) <| .node (Q 15 1 [16]) <| .node (Q 16 1 []) <| .done)]
def F116 : CFun := ⟨n53, .seq (.region <|
 m p11 t2 <|
 o p12 (.ar .add t11 q3) <|
 m p9 t12 <|
 .done) <|
 .block n0 <| .loop <| .seq (.seq (.region <|
 m p13 t9 <|
 m p14 t3 <|
 o p15 (.cmp .lss t13 t14) <|
 .done) <|
 .cond t15 (.skip) <|
 .exit n0) <|
 .seq (.block n1 <| .seq (.region <|
 m p18 t9 <|
 m p10 t18 <|
 .done) <|
 .block n2 <| .loop <| .seq (.seq (.region <|
 m p19 t10 <|
 m p20 t2 <|
 o p21 (.cmp .gtr t19 t20) <|
 m p22 t21 <|
 .step ⟨(some p23), (some (p22, true)), .op (.move t4)⟩ [] <|
 .step ⟨(some p24), (some (p22, true)), .op (.move t1)⟩ [] <|
 .step ⟨(some p25), (some (p22, true)), .op (.move t10)⟩ [] <|
 .step ⟨(some p26), (some (p22, true)), .op (.idxS n2 t24 t25)⟩ [] <|
 .step ⟨(some p27), (some (p22, true)), .op (.loadN n2 t26)⟩ [] <|
 .step ⟨(some p28), (some (p22, true)), .op (.move t1)⟩ [] <|
 .step ⟨(some p29), (some (p22, true)), .op (.move t10)⟩ [] <|
 .step ⟨(some p30), (some (p22, true)), .op (.ar .sub t29 q3)⟩ [] <|
 .step ⟨(some p31), (some (p22, true)), .op (.idxS n2 t28 t30)⟩ [] <|
 .step ⟨(some p32), (some (p22, true)), .op (.loadN n2 t31)⟩ [] <|
 .step ⟨(some p33), (some (p22, true)), .callv t23 [t27, t32]⟩ [] <|
 .step ⟨(some p34), (some (p22, true)), .op (.cmp .lss t33 q1)⟩ [] <|
 o p35 (.pick t22 t34 q0) <|
 .done) <|
 .cond t35 (.skip) <|
 .exit n2) <|
 .seq (.block n3 <| .region <|
 m p38 t1 <|
 m p39 t10 <|
 m p40 t1 <|
 m p41 t10 <|
 o p42 (.ar .sub t41 q3) <|
 m p43 t1 <|
 m p44 t10 <|
 o p45 (.ar .sub t44 q3) <|
 o p46 (.idxS n2 t43 t45) <|
 o p47 (.loadN n2 t46) <|
 m p48 t1 <|
 m p49 t10 <|
 o p50 (.idxS n2 t48 t49) <|
 o p51 (.loadN n2 t50) <|
 o p52 (.idxS n2 t38 t39) <|
 e (.storeN n2 t52 t47) <|
 o p53 (.idxS n2 t40 t42) <|
 e (.storeN n2 t53 t51) <|
 .done) <|
 .region <|
 m p36 t10 <|
 o p37 (.ar .sub t36 q3) <|
 m p10 t37 <|
 .done) <|
 .region <|
 m p16 t9 <|
 o p17 (.ar .add t16 q3) <|
 m p9 t17 <|
 .done, []⟩
theorem c116 : compFn Tryz.prog pl116 Tryz.f116 = some F116 := by kernel_rfl

def pl117 : Plans := [(10, [K [] [0] 36, K [] [8] 37, K [] [0] 38, K [] [8] 39, K [] [12] 40, K [3, 4] [39, 40] 41, K [] [0] 42, K [] [8] 43, K [] [12] 44, K [7, 8] [43, 44] 45, K [6, 9] [42, 45] 46, K [10] [46] 47, K [] [0] 48, K [] [8] 49, K [12, 13] [48, 49] 50, K [14] [50] 51, K (0 :: 1 :: 0 :: 1 :: (r 6 6 [15])) [36, 37] 52, J (16 :: 11 :: 0 :: 1 :: (r 6 6 [15])) [52, 47], K (2 :: 5 :: (r 0 18 [])) [38, 41] 53, J (18 :: 15 :: 17 :: (r 0 18 [])) [53, 51]], [Q 0 1 [16, 17, 18, 19], Q 1 1 [16, 17, 18, 19], Q 2 1 [18, 19], Q 3 1 [5, 18, 19], Q 4 1 [5, 18, 19], Q 5 1 [18, 19], Q 6 1 [10, 11, 16, 17, 18, 19], Q 7 1 [9, 10, 11, 16, 17, 18, 19], Q 8 1 [9, 10, 11, 16, 17, 18, 19], Q 9 1 [10, 11, 16, 17, 18, 19], Q 10 1 [11, 16, 17, 18, 19], Q 11 2 [16, 17, 18, 19], Q 12 1 (r 14 6 []), Q 13 1 (r 14 6 []), Q 14 1 (r 15 5 []), Q 15 2 [16, 17, 18, 19], Q 16 1 [17, 18, 19], Q 17 0 [], Q 18 1 [19], Q 19 0 []], .node (Q 0 1 [16, 17, 18, 19]) <| .node (Q 1 1 [16, 17, 18, 19]) <| .node (Q 2 1 [18, 19]) <| .node (Q 3 1 [5, 18, 19]) <| .node (Q 4 1 [5, 18, 19]) <| .node (Q 5 1 [18, 19]) <| .node (Q 6 1 [10, 11, 16, 17, 18, 19]) <| .node (Q 7 1 [9, 10, 11, 16, 17, 18, 19]) <| .node (Q 8 1 [9, 10, 11, 16, 17, 18, 19]) <| .node (Q 9 1 [10, 11, 16, 17, 18, 19]) <| .node (Q 10 1 [11, 16, 17, 18, 19]) <| .node (Q 11 2 [16, 17, 18, 19]) <| .node (Q 12 1 (r 14 6 [])) <| .node (Q 13 1 (r 14 6 [])) <| .node (Q 14 1 (r 15 5 [])) <| .node (Q 15 2 [16, 17, 18, 19]) <| .node (Q 16 1 [17, 18, 19]) <| .node (Q 17 0 []) <| .node (Q 18 1 [19]) <| .node (Q 19 0 []) <| .done)]
def F117 : CFun := ⟨n60, .seq (.region <|
 m p14 t2 <|
 m p9 t14 <|
 .done) <|
 .seq (.region <|
 m p10 q1 <|
 .done) <|
 .seq (.region <|
 m p15 t3 <|
 m p16 t2 <|
 o p17 (.ar .sub t15 t16) <|
 m p11 t17 <|
 .done) <|
 .seq (.seq (.region <|
 m p18 t11 <|
 o p19 (.ar .sub t18 q3) <|
 o p20 (.ar .quo t19 q2) <|
 m p12 t20 <|
 .done) <|
 .block n0 <| .loop <| .seq (.seq (.region <|
 m p21 t12 <|
 o p22 (.cmp .geq t21 q1) <|
 .done) <|
 .cond t22 (.skip) <|
 .exit n0) <|
 .seq (.block n1 <| .region <|
 m p25 t1 <|
 m p26 t12 <|
 m p27 t11 <|
 m p28 t9 <|
 m p29 t4 <|
 a p30 n144 [t25, t26, t27, t28, t29] <|
 .done) <|
 .region <|
 m p23 t12 <|
 o p24 (.ar .sub t23 q3) <|
 m p12 t24 <|
 .done) <|
 .seq (.region <|
 m p31 t11 <|
 o p32 (.ar .sub t31 q3) <|
 m p13 t32 <|
 .done) <|
 .block n2 <| .loop <| .seq (.seq (.region <|
 m p33 t13 <|
 o p34 (.cmp .geq t33 q1) <|
 .done) <|
 .cond t34 (.skip) <|
 .exit n2) <|
 .seq (.block n3 <| .seq (.region <|
 m p37 t1 <|
 m p38 t9 <|
 m p39 t1 <|
 m p40 t9 <|
 m p41 t13 <|
 o p42 (.ar .add t40 t41) <|
 m p43 t1 <|
 m p44 t9 <|
 m p45 t13 <|
 o p46 (.ar .add t44 t45) <|
 o p47 (.idxS n2 t43 t46) <|
 o p48 (.loadN n2 t47) <|
 m p49 t1 <|
 m p50 t9 <|
 o p51 (.idxS n2 t49 t50) <|
 o p52 (.loadN n2 t51) <|
 o p53 (.idxS n2 t37 t38) <|
 e (.storeN n2 t53 t48) <|
 o p54 (.idxS n2 t39 t42) <|
 e (.storeN n2 t54 t52) <|
 .done) <|
 .region <|
 m p55 t1 <|
 m p56 t10 <|
 m p57 t13 <|
 m p58 t9 <|
 m p59 t4 <|
 a p60 n144 [t55, t56, t57, t58, t59] <|
 .done) <|
 .region <|
 m p35 t13 <|
 o p36 (.ar .sub t35 q3) <|
 m p13 t36 <|
 .done, []⟩
theorem c117 : compFn Tryz.prog pl117 Tryz.f117 = some F117 := by kernel_rfl

def pl118 : Plans := [(10, [K [] [0] 49, K [] [11] 50, K [] [0] 51, K [] [1] 52, K [] [12] 53, K [3, 4] [52, 53] 54, K [] [0] 55, K [] [1] 56, K [] [12] 57, K [7, 8] [56, 57] 58, K [6, 9] [55, 58] 59, K [10] [59] 60, K [] [0] 61, K [] [11] 62, K [12, 13] [61, 62] 63, K [14] [63] 64, K (0 :: 1 :: 0 :: 1 :: (r 6 6 [15])) [49, 50] 65, J (16 :: 11 :: 0 :: 1 :: (r 6 6 [15])) [65, 60], K (2 :: 5 :: (r 0 18 [])) [51, 54] 66, J (18 :: 15 :: 17 :: (r 0 18 [])) [66, 64]], [Q 0 1 [16, 17, 18, 19], Q 1 1 [16, 17, 18, 19], Q 2 1 [18, 19], Q 3 1 [5, 18, 19], Q 4 1 [5, 18, 19], Q 5 1 [18, 19], Q 6 1 [10, 11, 16, 17, 18, 19], Q 7 1 [9, 10, 11, 16, 17, 18, 19], Q 8 1 [9, 10, 11, 16, 17, 18, 19], Q 9 1 [10, 11, 16, 17, 18, 19], Q 10 1 [11, 16, 17, 18, 19], Q 11 2 [16, 17, 18, 19], Q 12 1 (r 14 6 []), Q 13 1 (r 14 6 []), Q 14 1 (r 15 5 []), Q 15 2 [16, 17, 18, 19], Q 16 1 [17, 18, 19], Q 17 0 [], Q 18 1 [19], Q 19 0 []], .node (Q 0 1 [16, 17, 18, 19]) <| .node (Q 1 1 [16, 17, 18, 19]) <| .node (Q 2 1 [18, 19]) <| .node (Q 3 1 [5, 18, 19]) <| .node (Q 4 1 [5, 18, 19]) <| .node (Q 5 1 [18, 19]) <| .node (Q 6 1 [10, 11, 16, 17, 18, 19]) <| .node (Q 7 1 [9, 10, 11, 16, 17, 18, 19]) <| .node (Q 8 1 [9, 10, 11, 16, 17, 18, 19]) <| .node (Q 9 1 [10, 11, 16, 17, 18, 19]) <| .node (Q 10 1 [11, 16, 17, 18, 19]) <| .node (Q 11 2 [16, 17, 18, 19]) <| .node (Q 12 1 (r 14 6 [])) <| .node (Q 13 1 (r 14 6 [])) <| .node (Q 14 1 (r 15 5 [])) <| .node (Q 15 2 [16, 17, 18, 19]) <| .node (Q 16 1 [17, 18, 19]) <| .node (Q 17 0 []) <| .node (Q 18 1 [19]) <| .node (Q 19 0 []) <| .done)]
def F118 : CFun := ⟨n67, .seq (.region <|
 m p14 t3 <|
 m p15 t2 <|
 o p16 (.ar .sub t14 t15) <|
 m p9 t16 <|
 .done) <|
 .seq (.region <|
 m p17 t9 <|
 o p18 (.cmp .geq t17 q18) <|
 .done) <|
 .cond t18 (.seq (.region <|
 m p19 t9 <|
 o p20 (.conv .u64 t19) <|
 o p10 (.alloc z23) <|
 e (.store1 t10 t20) <|
 .done) <|
 .seq (.region <|
 m p21 t9 <|
 a p22 n145 [t21] <|
 m p11 t22 <|
 .done) <|
 .seq (.region <|
 m p23 t2 <|
 m p24 t9 <|
 o p25 (.ar .quo t24 q8) <|
 o p26 (.ar .mul t25 q2) <|
 o p27 (.ar .add t23 t26) <|
 o p28 (.ar .sub t27 q3) <|
 m p12 t28 <|
 .done) <|
 .block n0 <| .loop <| .seq (.seq (.region <|
 m p29 t12 <|
 m p30 t2 <|
 m p31 t9 <|
 o p32 (.ar .quo t31 q8) <|
 o p33 (.ar .mul t32 q2) <|
 o p34 (.ar .add t30 t33) <|
 o p35 (.ar .add t34 q3) <|
 o p36 (.cmp .leq t29 t35) <|
 .done) <|
 .cond t36 (.skip) <|
 .exit n0) <|
 .seq (.block n1 <| .seq (.region <|
 a p39 n146 [t10] <|
 m p40 t11 <|
 o p41 (.ar .sub t40 q43) <|
 o p42 (.ar .and t39 t41) <|
 o p43 (.conv .i64 t42) <|
 m p13 t43 <|
 .done) <|
 .seq (.seq (.region <|
 m p44 t13 <|
 m p45 t9 <|
 o p46 (.cmp .geq t44 t45) <|
 .done) <|
 .cond t46 (.region <|
 m p47 t13 <|
 m p48 t9 <|
 o p49 (.ar .sub t47 t48) <|
 m p13 t49 <|
 .done) <|
 .skip) <|
 .region <|
 m p50 t1 <|
 m p51 t12 <|
 m p52 t1 <|
 m p53 t2 <|
 m p54 t13 <|
 o p55 (.ar .add t53 t54) <|
 m p56 t1 <|
 m p57 t2 <|
 m p58 t13 <|
 o p59 (.ar .add t57 t58) <|
 o p60 (.idxS n2 t56 t59) <|
 o p61 (.loadN n2 t60) <|
 m p62 t1 <|
 m p63 t12 <|
 o p64 (.idxS n2 t62 t63) <|
 o p65 (.loadN n2 t64) <|
 o p66 (.idxS n2 t50 t51) <|
 e (.storeN n2 t66 t61) <|
 o p67 (.idxS n2 t52 t55) <|
 e (.storeN n2 t67 t65) <|
 .done) <|
 .region <|
 m p37 t12 <|
 o p38 (.ar .add t37 q3) <|
 m p12 t38 <|
 .done) <|
 .skip, []⟩
theorem c118 : compFn Tryz.prog pl118 Tryz.f118 = some F118 := by kernel_rfl

def pl119 : Plans := []
def F119 : CFun := ⟨n63, .seq (.region <|
 m p9 q1 <|
 m p10 q1 <|
 .done) <|
 .seq (.region <|
 m p16 t3 <|
 m p17 t2 <|
 o p18 (.ar .sub t16 t17) <|
 m p11 t18 <|
 .done) <|
 .seq (.region <|
 o p12 (.alloc z21) <|
 .done) <|
 .seq (.region <|
 m p19 t2 <|
 m p20 t11 <|
 o p21 (.ar .quo t20 q8) <|
 o p22 (.ar .mul t21 q3) <|
 o p23 (.ar .add t19 t22) <|
 m p13 t23 <|
 .done) <|
 .seq (.region <|
 m p24 t2 <|
 m p25 t11 <|
 o p26 (.ar .quo t25 q8) <|
 o p27 (.ar .mul t26 q2) <|
 o p28 (.ar .add t24 t27) <|
 m p14 t28 <|
 .done) <|
 .seq (.region <|
 m p29 t2 <|
 m p30 t11 <|
 o p31 (.ar .quo t30 q8) <|
 o p32 (.ar .mul t31 q6) <|
 o p33 (.ar .add t29 t32) <|
 m p15 t33 <|
 .done) <|
 .seq (.seq (.region <|
 m p34 t11 <|
 o p35 (.cmp .geq t34 q18) <|
 .done) <|
 .cond t35 (.seq (.seq (.region <|
 m p36 t11 <|
 o p37 (.cmp .geq t36 q45) <|
 .done) <|
 .cond t37 (.seq (.region <|
 m p38 t1 <|
 m p39 t13 <|
 m p40 t4 <|
 a p41 n147 [t38, t39, t12, t40] <|
 m p13 t41 <|
 .done) <|
 .seq (.region <|
 m p42 t1 <|
 m p43 t14 <|
 m p44 t4 <|
 a p45 n147 [t42, t43, t12, t44] <|
 m p14 t45 <|
 .done) <|
 .region <|
 m p46 t1 <|
 m p47 t15 <|
 m p48 t4 <|
 a p49 n147 [t46, t47, t12, t48] <|
 m p15 t49 <|
 .done) <|
 .skip) <|
 .region <|
 m p50 t1 <|
 m p51 t13 <|
 m p52 t14 <|
 m p53 t15 <|
 m p54 t4 <|
 a p55 n148 [t50, t51, t52, t53, t12, t54] <|
 m p14 t55 <|
 .done) <|
 .skip) <|
 .seq (.region <|
 o p56 (.load1 t12) <|
 .done) <|
 .block n0 <| .seq (.region <|
 o p59 (.cmp .eql t56 q1) <|
 m p58 t59 <|
 .done) <|
 .cond t58 (.seq (.region <|
 m p60 t14 <|
 m p9 t60 <|
 m p10 q3 <|
 .done) <|
 .ret) <|
 .seq (.region <|
 o p62 (.cmp .eql t56 q28) <|
 m p61 t62 <|
 .done) <|
 .cond t61 (.seq (.region <|
 m p63 t14 <|
 m p9 t63 <|
 m p10 q2 <|
 .done) <|
 .ret) <|
 .seq (.region <|
 m p57 t14 <|
 m p9 t57 <|
 m p10 q1 <|
 .done) <|
 .ret, [.tmp p9, .tmp p10]⟩
theorem c119 : compFn Tryz.prog pl119 Tryz.f119 = some F119 := by kernel_rfl

def pl120 : Plans := [(3, [K [] [0] 16, K [] [8] 17, K [] [0] 18, K [] [9] 19, K [] [0] 20, K [] [9] 21, K [4, 5] [20, 21] 22, K [6] [22] 23, K [] [0] 24, K [] [8] 25, K [8, 9] [24, 25] 26, K [10] [26] 27, K [0, 1, 0, 1, 4, 5, 6, 7, 11] [16, 17] 28, J [12, 7, 0, 1, 4, 5, 6, 7, 11] [28, 23], K (2 :: 3 :: (r 0 14 [])) [18, 19] 29, J (14 :: 11 :: 13 :: (r 0 14 [])) [29, 27]], [Q 0 1 [12, 13, 14, 15], Q 1 1 [12, 13, 14, 15], Q 2 1 [14, 15], Q 3 1 [14, 15], Q 4 1 [6, 7, 12, 13, 14, 15], Q 5 1 [6, 7, 12, 13, 14, 15], Q 6 1 [7, 12, 13, 14, 15], Q 7 2 [12, 13, 14, 15], Q 8 1 (r 10 6 []), Q 9 1 (r 10 6 []), Q 10 1 (r 11 5 []), Q 11 2 [12, 13, 14, 15], Q 12 1 [13, 14, 15], Q 13 0 [], Q 14 1 [15], Q 15 0 []], .node (Q 0 1 [12, 13, 14, 15]) <| .node (Q 1 1 [12, 13, 14, 15]) <| .node (Q 2 1 [14, 15]) <| .node (Q 3 1 [14, 15]) <| .node (Q 4 1 [6, 7, 12, 13, 14, 15]) <| .node (Q 5 1 [6, 7, 12, 13, 14, 15]) <| .node (Q 6 1 [7, 12, 13, 14, 15]) <| .node (Q 7 2 [12, 13, 14, 15]) <| .node (Q 8 1 (r 10 6 [])) <| .node (Q 9 1 (r 10 6 [])) <| .node (Q 10 1 (r 11 5 [])) <| .node (Q 11 2 [12, 13, 14, 15]) <| .node (Q 12 1 [13, 14, 15]) <| .node (Q 13 0 []) <| .node (Q 14 1 [15]) <| .node (Q 15 0 []) <| .done)]
def F120 : CFun := ⟨n34, .seq (.region <|
 m p11 t2 <|
 m p9 t11 <|
 .done) <|
 .seq (.region <|
 m p12 t3 <|
 o p13 (.ar .sub t12 q3) <|
 m p10 t13 <|
 .done) <|
 .block n0 <| .loop <| .seq (.seq (.region <|
 m p14 t9 <|
 m p15 t10 <|
 o p16 (.cmp .lss t14 t15) <|
 .done) <|
 .cond t16 (.skip) <|
 .exit n0) <|
 .block n1 <| .seq (.region <|
 m p17 t1 <|
 m p18 t9 <|
 m p19 t1 <|
 m p20 t10 <|
 m p21 t1 <|
 m p22 t10 <|
 o p23 (.idxS n2 t21 t22) <|
 o p24 (.loadN n2 t23) <|
 m p25 t1 <|
 m p26 t9 <|
 o p27 (.idxS n2 t25 t26) <|
 o p28 (.loadN n2 t27) <|
 o p29 (.idxS n2 t17 t18) <|
 e (.storeN n2 t29 t24) <|
 o p30 (.idxS n2 t19 t20) <|
 e (.storeN n2 t30 t28) <|
 .done) <|
 .seq (.region <|
 m p31 t9 <|
 o p32 (.ar .add t31 q3) <|
 m p9 t32 <|
 .done) <|
 .region <|
 m p33 t10 <|
 o p34 (.ar .sub t33 q3) <|
 m p10 t34 <|
 .done, []⟩
theorem c120 : compFn Tryz.prog pl120 Tryz.f120 = some F120 := by kernel_rfl

def pl121 : Plans := [(23, [K [] [0] 125, K [] [12] 126, K [] [0] 127, K [] [12] 128, K [3] [128] 129, K [] [0] 130, K [] [12] 131, K [6] [131] 132, K [5, 7] [130, 132] 133, K [8] [133] 134, K [] [0] 135, K [] [12] 136, K [10, 11] [135, 136] 137, K [12] [137] 138, K (0 :: 1 :: 0 :: 1 :: (r 5 5 [13])) [125, 126] 139, J (14 :: 9 :: 0 :: 1 :: (r 5 5 [13])) [139, 134], K (2 :: 4 :: (r 0 16 [])) [127, 129] 140, J (16 :: 13 :: 15 :: (r 0 16 [])) [140, 138]], [Q 0 1 [14, 15, 16, 17], Q 1 1 [14, 15, 16, 17], Q 2 1 [16, 17], Q 3 1 [4, 16, 17], Q 4 1 [16, 17], Q 5 1 [8, 9, 14, 15, 16, 17], Q 6 1 [7, 8, 9, 14, 15, 16, 17], Q 7 1 [8, 9, 14, 15, 16, 17], Q 8 1 [9, 14, 15, 16, 17], Q 9 2 [14, 15, 16, 17], Q 10 1 (r 12 6 []), Q 11 1 (r 12 6 []), Q 12 1 (r 13 5 []), Q 13 2 [14, 15, 16, 17], Q 14 1 [15, 16, 17], Q 15 0 [], Q 16 1 [17], Q 17 0 []], .node (Q 0 1 [14, 15, 16, 17]) <| .node (Q 1 1 [14, 15, 16, 17]) <| .node (Q 2 1 [16, 17]) <| .node (Q 3 1 [4, 16, 17]) <| .node (Q 4 1 [16, 17]) <| .node (Q 5 1 [8, 9, 14, 15, 16, 17]) <| .node (Q 6 1 [7, 8, 9, 14, 15, 16, 17]) <| .node (Q 7 1 [8, 9, 14, 15, 16, 17]) <| .node (Q 8 1 [9, 14, 15, 16, 17]) <| .node (Q 9 2 [14, 15, 16, 17]) <| .node (Q 10 1 (r 12 6 [])) <| .node (Q 11 1 (r 12 6 [])) <| .node (Q 12 1 (r 13 5 [])) <| .node (Q 13 2 [14, 15, 16, 17]) <| .node (Q 14 1 [15, 16, 17]) <| .node (Q 15 0 []) <| .node (Q 16 1 [17]) <| .node (Q 17 0 []) <| .done),
  (22, [K [] [3] 112, K [] [0] 113, K [] [12] 114, K [1, 2] [113, 114] 115, K [3] [115] 116, K [] [0] 117, K [] [12] 118, K [6] [118] 119, K [5, 7] [117, 119] 120, K [8] [120] 121, K [0, 4, 9] [112, 116, 121] 122, K [10] [122] 123, K [11] [123] 124], [Q 0 1 [10, 11, 12], Q 1 1 [3, 4, 10, 11, 12], Q 2 1 [3, 4, 10, 11, 12], Q 3 1 [4, 10, 11, 12], Q 4 2 [10, 11, 12], Q 5 1 (r 8 5 []), Q 6 1 (r 7 6 []), Q 7 1 (r 8 5 []), Q 8 1 [9, 10, 11, 12], Q 9 2 [10, 11, 12], Q 10 0 [], Q 11 1 [12], Q 12 1 []], .node (Q 0 1 [10, 11, 12]) <| .node (Q 1 1 [3, 4, 10, 11, 12]) <| .node (Q 2 1 [3, 4, 10, 11, 12]) <| .node (Q 3 1 [4, 10, 11, 12]) <| .node (Q 4 2 [10, 11, 12]) <| .node (Q 5 1 (r 8 5 [])) <| .node (Q 6 1 (r 7 6 [])) <| .node (Q 7 1 (r 8 5 [])) <| .node (Q 8 1 [9, 10, 11, 12]) <| .node (Q 9 2 [10, 11, 12]) <| .node (Q 10 0 []) <| .node (Q 11 1 [12]) <| .node (Q 12 1 []) <| .done),
  (17, [K [] [0] 85, K [] [11] 86, K [] [0] 87, K [] [11] 88, K [3] [88] 89, K [] [0] 90, K [] [11] 91, K [6] [91] 92, K [5, 7] [90, 92] 93, K [8] [93] 94, K [] [0] 95, K [] [11] 96, K [10, 11] [95, 96] 97, K [12] [97] 98, K (0 :: 1 :: 0 :: 1 :: (r 5 5 [13])) [85, 86] 99, J (14 :: 9 :: 0 :: 1 :: (r 5 5 [13])) [99, 94], K (2 :: 4 :: (r 0 16 [])) [87, 89] 100, J (16 :: 13 :: 15 :: (r 0 16 [])) [100, 98]], [Q 0 1 [14, 15, 16, 17], Q 1 1 [14, 15, 16, 17], Q 2 1 [16, 17], Q 3 1 [4, 16, 17], Q 4 1 [16, 17], Q 5 1 [8, 9, 14, 15, 16, 17], Q 6 1 [7, 8, 9, 14, 15, 16, 17], Q 7 1 [8, 9, 14, 15, 16, 17], Q 8 1 [9, 14, 15, 16, 17], Q 9 2 [14, 15, 16, 17], Q 10 1 (r 12 6 []), Q 11 1 (r 12 6 []), Q 12 1 (r 13 5 []), Q 13 2 [14, 15, 16, 17], Q 14 1 [15, 16, 17], Q 15 0 [], Q 16 1 [17], Q 17 0 []], .node (Q 0 1 [14, 15, 16, 17]) <| .node (Q 1 1 [14, 15, 16, 17]) <| .node (Q 2 1 [16, 17]) <| .node (Q 3 1 [4, 16, 17]) <| .node (Q 4 1 [16, 17]) <| .node (Q 5 1 [8, 9, 14, 15, 16, 17]) <| .node (Q 6 1 [7, 8, 9, 14, 15, 16, 17]) <| .node (Q 7 1 [8, 9, 14, 15, 16, 17]) <| .node (Q 8 1 [9, 14, 15, 16, 17]) <| .node (Q 9 2 [14, 15, 16, 17]) <| .node (Q 10 1 (r 12 6 [])) <| .node (Q 11 1 (r 12 6 [])) <| .node (Q 12 1 (r 13 5 [])) <| .node (Q 13 2 [14, 15, 16, 17]) <| .node (Q 14 1 [15, 16, 17]) <| .node (Q 15 0 []) <| .node (Q 16 1 [17]) <| .node (Q 17 0 []) <| .done),
  (16, [K [] [3] 72, K [] [0] 73, K [] [11] 74, K [1, 2] [73, 74] 75, K [3] [75] 76, K [] [0] 77, K [] [11] 78, K [6] [78] 79, K [5, 7] [77, 79] 80, K [8] [80] 81, K [0, 4, 9] [72, 76, 81] 82, K [10] [82] 83, K [11] [83] 84], [Q 0 1 [10, 11, 12], Q 1 1 [3, 4, 10, 11, 12], Q 2 1 [3, 4, 10, 11, 12], Q 3 1 [4, 10, 11, 12], Q 4 2 [10, 11, 12], Q 5 1 (r 8 5 []), Q 6 1 (r 7 6 []), Q 7 1 (r 8 5 []), Q 8 1 [9, 10, 11, 12], Q 9 2 [10, 11, 12], Q 10 0 [], Q 11 1 [12], Q 12 1 []], .node (Q 0 1 [10, 11, 12]) <| .node (Q 1 1 [3, 4, 10, 11, 12]) <| .node (Q 2 1 [3, 4, 10, 11, 12]) <| .node (Q 3 1 [4, 10, 11, 12]) <| .node (Q 4 2 [10, 11, 12]) <| .node (Q 5 1 (r 8 5 [])) <| .node (Q 6 1 (r 7 6 [])) <| .node (Q 7 1 (r 8 5 [])) <| .node (Q 8 1 [9, 10, 11, 12]) <| .node (Q 9 2 [10, 11, 12]) <| .node (Q 10 0 []) <| .node (Q 11 1 [12]) <| .node (Q 12 1 []) <| .done),
  (11, [K [] [0] 46, K [] [9] 47, K [] [0] 48, K [] [9] 49, K [3] [49] 50, K [] [0] 51, K [] [9] 52, K [6] [52] 53, K [5, 7] [51, 53] 54, K [8] [54] 55, K [] [0] 56, K [] [9] 57, K [10, 11] [56, 57] 58, K [12] [58] 59, K (0 :: 1 :: 0 :: 1 :: (r 5 5 [13])) [46, 47] 60, J (14 :: 9 :: 0 :: 1 :: (r 5 5 [13])) [60, 55], K (2 :: 4 :: (r 0 16 [])) [48, 50] 61, J (16 :: 13 :: 15 :: (r 0 16 [])) [61, 59]], [Q 0 1 [14, 15, 16, 17], Q 1 1 [14, 15, 16, 17], Q 2 1 [16, 17], Q 3 1 [4, 16, 17], Q 4 1 [16, 17], Q 5 1 [8, 9, 14, 15, 16, 17], Q 6 1 [7, 8, 9, 14, 15, 16, 17], Q 7 1 [8, 9, 14, 15, 16, 17], Q 8 1 [9, 14, 15, 16, 17], Q 9 2 [14, 15, 16, 17], Q 10 1 (r 12 6 []), Q 11 1 (r 12 6 []), Q 12 1 (r 13 5 []), Q 13 2 [14, 15, 16, 17], Q 14 1 [15, 16, 17], Q 15 0 [], Q 16 1 [17], Q 17 0 []], .node (Q 0 1 [14, 15, 16, 17]) <| .node (Q 1 1 [14, 15, 16, 17]) <| .node (Q 2 1 [16, 17]) <| .node (Q 3 1 [4, 16, 17]) <| .node (Q 4 1 [16, 17]) <| .node (Q 5 1 [8, 9, 14, 15, 16, 17]) <| .node (Q 6 1 [7, 8, 9, 14, 15, 16, 17]) <| .node (Q 7 1 [8, 9, 14, 15, 16, 17]) <| .node (Q 8 1 [9, 14, 15, 16, 17]) <| .node (Q 9 2 [14, 15, 16, 17]) <| .node (Q 10 1 (r 12 6 [])) <| .node (Q 11 1 (r 12 6 [])) <| .node (Q 12 1 (r 13 5 [])) <| .node (Q 13 2 [14, 15, 16, 17]) <| .node (Q 14 1 [15, 16, 17]) <| .node (Q 15 0 []) <| .node (Q 16 1 [17]) <| .node (Q 17 0 []) <| .done),
  (5, [K [] [9] 19, K [] [2] 20, K [0, 1] [19, 20] 21, K [2] [21] 22, K [3] [3, 22] 23, K [3] [0, 22] 24, K [3] [9, 22] 25, K [5, 6, 3] [24, 25, 22] 26, K [7, 3] [26, 22] 27, K [3] [0, 22] 28, K [3] [9, 22] 29, K [10, 3] [29, 22] 30, K [9, 11, 3] [28, 30, 22] 31, K [12, 3] [31, 22] 32, K [4, 8, 13, 3, 3] [23, 27, 32, 22] 33, K [14, 3] [33, 22] 34, K [15, 3] [34, 22] 35, K [3, 16] [22, 35] 36], [Q 0 1 (r 2 16 []), Q 1 1 (r 2 16 []), Q 2 1 (r 3 15 []), Q 3 1 (r 4 14 []), Q 4 1 [14, 15, 16, 17], Q 5 1 [7, 8, 14, 15, 16, 17], Q 6 1 [7, 8, 14, 15, 16, 17], Q 7 1 [8, 14, 15, 16, 17], Q 8 2 [14, 15, 16, 17], Q 9 1 (r 12 6 []), Q 10 1 (r 11 7 []), Q 11 1 (r 12 6 []), Q 12 1 (r 13 5 []), Q 13 2 [14, 15, 16, 17], Q 14 0 [], Q 15 1 [16, 17], Q 16 1 [17], Q 17 1 []], .node (Q 0 1 (r 2 16 [])) <| .node (Q 1 1 (r 2 16 [])) <| .node (Q 2 1 (r 3 15 [])) <| .node (Q 3 1 (r 4 14 [])) <| .node (Q 4 1 [14, 15, 16, 17]) <| .node (Q 5 1 [7, 8, 14, 15, 16, 17]) <| .node (Q 6 1 [7, 8, 14, 15, 16, 17]) <| .node (Q 7 1 [8, 14, 15, 16, 17]) <| .node (Q 8 2 [14, 15, 16, 17]) <| .node (Q 9 1 (r 12 6 [])) <| .node (Q 10 1 (r 11 7 [])) <| .node (Q 11 1 (r 12 6 [])) <| .node (Q 12 1 (r 13 5 [])) <| .node (Q 13 2 [14, 15, 16, 17]) <| .node (Q 14 0 []) <| .node (Q 15 1 [16, 17]) <| .node (Q 16 1 [17]) <| .node (Q 17 1 []) <| .done)]
def F121 : CFun := ⟨n141, .seq (.region <|
 m p9 q0 <|
 .done) <|
 .seq (.region <|
 m p14 t2 <|
 o p15 (.ar .add t14 q3) <|
 m p10 t15 <|
 .done) <|
 .seq (.seq (.region <|
 m p11 q1 <|
 .done) <|
 .block n0 <| .loop <| .seq (.seq (.region <|
 m p16 t11 <|
 o p17 (.cmp .lss t16 q17) <|
 .done) <|
 .cond t17 (.skip) <|
 .exit n0) <|
 .seq (.block n1 <| .seq (.block n2 <| .loop <| .seq (.seq (.region <|
 m p20 t10 <|
 m p21 t3 <|
 o p22 (.cmp .lss t20 t21) <|
 m p23 t22 <|
 .step ⟨(some p24), (some (p23, true)), .op (.move t4)⟩ [] <|
 .step ⟨(some p25), (some (p23, true)), .op (.move t1)⟩ [] <|
 .step ⟨(some p26), (some (p23, true)), .op (.move t10)⟩ [] <|
 .step ⟨(some p27), (some (p23, true)), .op (.idxS n2 t25 t26)⟩ [] <|
 .step ⟨(some p28), (some (p23, true)), .op (.loadN n2 t27)⟩ [] <|
 .step ⟨(some p29), (some (p23, true)), .op (.move t1)⟩ [] <|
 .step ⟨(some p30), (some (p23, true)), .op (.move t10)⟩ [] <|
 .step ⟨(some p31), (some (p23, true)), .op (.ar .sub t30 q3)⟩ [] <|
 .step ⟨(some p32), (some (p23, true)), .op (.idxS n2 t29 t31)⟩ [] <|
 .step ⟨(some p33), (some (p23, true)), .op (.loadN n2 t32)⟩ [] <|
 .step ⟨(some p34), (some (p23, true)), .callv t24 [t28, t33]⟩ [] <|
 .step ⟨(some p35), (some (p23, true)), .op (.cmp .lss t34 q1)⟩ [] <|
 .step ⟨(some p36), (some (p23, true)), .op (.not t35)⟩ [] <|
 o p37 (.pick t23 t36 q0) <|
 .done) <|
 .cond t37 (.skip) <|
 .exit n2) <|
 .block n3 <| .region <|
 m p38 t10 <|
 o p39 (.ar .add t38 q3) <|
 m p10 t39 <|
 .done) <|
 .seq (.seq (.region <|
 m p40 t10 <|
 m p41 t3 <|
 o p42 (.cmp .eql t40 t41) <|
 .done) <|
 .cond t42 (.seq (.region <|
 m p9 q12 <|
 .done) <|
 .ret) <|
 .skip) <|
 .seq (.seq (.region <|
 m p43 t3 <|
 m p44 t2 <|
 o p45 (.ar .sub t43 t44) <|
 o p46 (.cmp .lss t45 q45) <|
 .done) <|
 .cond t46 (.seq (.region <|
 m p9 q0 <|
 .done) <|
 .ret) <|
 .skip) <|
 .seq (.region <|
 m p47 t1 <|
 m p48 t10 <|
 m p49 t1 <|
 m p50 t10 <|
 o p51 (.ar .sub t50 q3) <|
 m p52 t1 <|
 m p53 t10 <|
 o p54 (.ar .sub t53 q3) <|
 o p55 (.idxS n2 t52 t54) <|
 o p56 (.loadN n2 t55) <|
 m p57 t1 <|
 m p58 t10 <|
 o p59 (.idxS n2 t57 t58) <|
 o p60 (.loadN n2 t59) <|
 o p61 (.idxS n2 t47 t48) <|
 e (.storeN n2 t61 t56) <|
 o p62 (.idxS n2 t49 t51) <|
 e (.storeN n2 t62 t60) <|
 .done) <|
 .seq (.seq (.region <|
 m p63 t10 <|
 m p64 t2 <|
 o p65 (.ar .sub t63 t64) <|
 o p66 (.cmp .geq t65 q2) <|
 .done) <|
 .cond t66 (.seq (.region <|
 m p67 t10 <|
 o p68 (.ar .sub t67 q3) <|
 m p12 t68 <|
 .done) <|
 .block n4 <| .loop <| .seq (.seq (.region <|
 m p69 t12 <|
 o p70 (.cmp .geq t69 q3) <|
 .done) <|
 .cond t70 (.skip) <|
 .exit n4) <|
 .seq (.block n5 <| .seq (.seq (.region <|
 m p73 t4 <|
 m p74 t1 <|
 m p75 t12 <|
 o p76 (.idxS n2 t74 t75) <|
 o p77 (.loadN n2 t76) <|
 m p78 t1 <|
 m p79 t12 <|
 o p80 (.ar .sub t79 q3) <|
 o p81 (.idxS n2 t78 t80) <|
 o p82 (.loadN n2 t81) <|
 .step ⟨(some p83), none, .callv t73 [t77, t82]⟩ [] <|
 o p84 (.cmp .lss t83 q1) <|
 o p85 (.not t84) <|
 .done) <|
 .cond t85 (.exit n4) <|
 .skip) <|
 .region <|
 m p86 t1 <|
 m p87 t12 <|
 m p88 t1 <|
 m p89 t12 <|
 o p90 (.ar .sub t89 q3) <|
 m p91 t1 <|
 m p92 t12 <|
 o p93 (.ar .sub t92 q3) <|
 o p94 (.idxS n2 t91 t93) <|
 o p95 (.loadN n2 t94) <|
 m p96 t1 <|
 m p97 t12 <|
 o p98 (.idxS n2 t96 t97) <|
 o p99 (.loadN n2 t98) <|
 o p100 (.idxS n2 t86 t87) <|
 e (.storeN n2 t100 t95) <|
 o p101 (.idxS n2 t88 t90) <|
 e (.storeN n2 t101 t99) <|
 .done) <|
 .region <|
 m p71 t12 <|
 o p72 (.ar .sub t71 q3) <|
 m p12 t72 <|
 .done) <|
 .skip) <|
 .seq (.region <|
 m p102 t3 <|
 m p103 t10 <|
 o p104 (.ar .sub t102 t103) <|
 o p105 (.cmp .geq t104 q2) <|
 .done) <|
 .cond t105 (.seq (.region <|
 m p106 t10 <|
 o p107 (.ar .add t106 q3) <|
 m p13 t107 <|
 .done) <|
 .block n6 <| .loop <| .seq (.seq (.region <|
 m p108 t13 <|
 m p109 t3 <|
 o p110 (.cmp .lss t108 t109) <|
 .done) <|
 .cond t110 (.skip) <|
 .exit n6) <|
 .seq (.block n7 <| .seq (.seq (.region <|
 m p113 t4 <|
 m p114 t1 <|
 m p115 t13 <|
 o p116 (.idxS n2 t114 t115) <|
 o p117 (.loadN n2 t116) <|
 m p118 t1 <|
 m p119 t13 <|
 o p120 (.ar .sub t119 q3) <|
 o p121 (.idxS n2 t118 t120) <|
 o p122 (.loadN n2 t121) <|
 .step ⟨(some p123), none, .callv t113 [t117, t122]⟩ [] <|
 o p124 (.cmp .lss t123 q1) <|
 o p125 (.not t124) <|
 .done) <|
 .cond t125 (.exit n6) <|
 .skip) <|
 .region <|
 m p126 t1 <|
 m p127 t13 <|
 m p128 t1 <|
 m p129 t13 <|
 o p130 (.ar .sub t129 q3) <|
 m p131 t1 <|
 m p132 t13 <|
 o p133 (.ar .sub t132 q3) <|
 o p134 (.idxS n2 t131 t133) <|
 o p135 (.loadN n2 t134) <|
 m p136 t1 <|
 m p137 t13 <|
 o p138 (.idxS n2 t136 t137) <|
 o p139 (.loadN n2 t138) <|
 o p140 (.idxS n2 t126 t127) <|
 e (.storeN n2 t140 t135) <|
 o p141 (.idxS n2 t128 t130) <|
 e (.storeN n2 t141 t139) <|
 .done) <|
 .region <|
 m p111 t13 <|
 o p112 (.ar .add t111 q3) <|
 m p13 t112 <|
 .done) <|
 .skip) <|
 .region <|
 m p18 t11 <|
 o p19 (.ar .add t18 q3) <|
 m p11 t19 <|
 .done) <|
 .seq (.region <|
 m p9 q0 <|
 .done) <|
 .ret, [.tmp p9]⟩
theorem c121 : compFn Tryz.prog pl121 Tryz.f121 = some F121 := by kernel_rfl

def pl122 : Plans := [(8, [K [] [0] 71, K [] [11] 72, K [] [0] 73, K [] [12] 74, K [] [0] 75, K [] [12] 76, K [4, 5] [75, 76] 77, K [6] [77] 78, K [] [0] 79, K [] [11] 80, K [8, 9] [79, 80] 81, K [10] [81] 82, K [0, 1, 0, 1, 4, 5, 6, 7, 11] [71, 72] 83, J [12, 7, 0, 1, 4, 5, 6, 7, 11] [83, 78], K (2 :: 3 :: (r 0 14 [])) [73, 74] 84, J (14 :: 11 :: 13 :: (r 0 14 [])) [84, 82]], [Q 0 1 [12, 13, 14, 15], Q 1 1 [12, 13, 14, 15], Q 2 1 [14, 15], Q 3 1 [14, 15], Q 4 1 [6, 7, 12, 13, 14, 15], Q 5 1 [6, 7, 12, 13, 14, 15], Q 6 1 [7, 12, 13, 14, 15], Q 7 2 [12, 13, 14, 15], Q 8 1 (r 10 6 []), Q 9 1 (r 10 6 []), Q 10 1 (r 11 5 []), Q 11 2 [12, 13, 14, 15], Q 12 1 [13, 14, 15], Q 13 0 [], Q 14 1 [15], Q 15 0 []], .node (Q 0 1 [12, 13, 14, 15]) <| .node (Q 1 1 [12, 13, 14, 15]) <| .node (Q 2 1 [14, 15]) <| .node (Q 3 1 [14, 15]) <| .node (Q 4 1 [6, 7, 12, 13, 14, 15]) <| .node (Q 5 1 [6, 7, 12, 13, 14, 15]) <| .node (Q 6 1 [7, 12, 13, 14, 15]) <| .node (Q 7 2 [12, 13, 14, 15]) <| .node (Q 8 1 (r 10 6 [])) <| .node (Q 9 1 (r 10 6 [])) <| .node (Q 10 1 (r 11 5 [])) <| .node (Q 11 2 [12, 13, 14, 15]) <| .node (Q 12 1 [13, 14, 15]) <| .node (Q 13 0 []) <| .node (Q 14 1 [15]) <| .node (Q 15 0 []) <| .done),
  (5, [K [] [11] 50, K [] [12] 51, K [0, 1] [50, 51] 52, K [2] [52] 53, K [3] [4, 53] 54, K [3] [0, 53] 55, K [3] [1, 53] 56, K [5, 6, 3] [55, 56, 53] 57, K [7, 3] [57, 53] 58, K [3] [0, 53] 59, K [3] [12, 53] 60, K [9, 10, 3] [59, 60, 53] 61, K [11, 3] [61, 53] 62, K [4, 8, 12, 3, 3] [54, 58, 62, 53] 63, K [13, 3] [63, 53] 64, K [3, 14] [53, 64] 65], [Q 0 1 (r 2 14 []), Q 1 1 (r 2 14 []), Q 2 1 (r 3 13 []), Q 3 1 (r 4 12 []), Q 4 1 [13, 14, 15], Q 5 1 [7, 8, 13, 14, 15], Q 6 1 [7, 8, 13, 14, 15], Q 7 1 [8, 13, 14, 15], Q 8 2 [13, 14, 15], Q 9 1 (r 11 5 []), Q 10 1 (r 11 5 []), Q 11 1 [12, 13, 14, 15], Q 12 2 [13, 14, 15], Q 13 0 [], Q 14 1 [15], Q 15 1 []], .node (Q 0 1 (r 2 14 [])) <| .node (Q 1 1 (r 2 14 [])) <| .node (Q 2 1 (r 3 13 [])) <| .node (Q 3 1 (r 4 12 [])) <| .node (Q 4 1 [13, 14, 15]) <| .node (Q 5 1 [7, 8, 13, 14, 15]) <| .node (Q 6 1 [7, 8, 13, 14, 15]) <| .node (Q 7 1 [8, 13, 14, 15]) <| .node (Q 8 2 [13, 14, 15]) <| .node (Q 9 1 (r 11 5 [])) <| .node (Q 10 1 (r 11 5 [])) <| .node (Q 11 1 [12, 13, 14, 15]) <| .node (Q 12 2 [13, 14, 15]) <| .node (Q 13 0 []) <| .node (Q 14 1 [15]) <| .node (Q 15 1 []) <| .done),
  (3, [K [] [11] 31, K [] [12] 32, K [0, 1] [31, 32] 33, K [2] [33] 34, K [3] [4, 34] 35, K [3] [0, 34] 36, K [3] [1, 34] 37, K [5, 6, 3] [36, 37, 34] 38, K [7, 3] [38, 34] 39, K [3] [0, 34] 40, K [3] [11, 34] 41, K [9, 10, 3] [40, 41, 34] 42, K [11, 3] [42, 34] 43, K [4, 8, 12, 3, 3] [35, 39, 43, 34] 44, K [13, 3] [44, 34] 45, K [14, 3] [45, 34] 46, K [3, 15] [34, 46] 47], [Q 0 1 (r 2 15 []), Q 1 1 (r 2 15 []), Q 2 1 (r 3 14 []), Q 3 1 (r 4 13 []), Q 4 1 [13, 14, 15, 16], Q 5 1 [7, 8, 13, 14, 15, 16], Q 6 1 [7, 8, 13, 14, 15, 16], Q 7 1 [8, 13, 14, 15, 16], Q 8 2 [13, 14, 15, 16], Q 9 1 (r 11 6 []), Q 10 1 (r 11 6 []), Q 11 1 (r 12 5 []), Q 12 2 [13, 14, 15, 16], Q 13 0 [], Q 14 1 [15, 16], Q 15 1 [16], Q 16 1 []], .node (Q 0 1 (r 2 15 [])) <| .node (Q 1 1 (r 2 15 [])) <| .node (Q 2 1 (r 3 14 [])) <| .node (Q 3 1 (r 4 13 [])) <| .node (Q 4 1 [13, 14, 15, 16]) <| .node (Q 5 1 [7, 8, 13, 14, 15, 16]) <| .node (Q 6 1 [7, 8, 13, 14, 15, 16]) <| .node (Q 7 1 [8, 13, 14, 15, 16]) <| .node (Q 8 2 [13, 14, 15, 16]) <| .node (Q 9 1 (r 11 6 [])) <| .node (Q 10 1 (r 11 6 [])) <| .node (Q 11 1 (r 12 5 [])) <| .node (Q 12 2 [13, 14, 15, 16]) <| .node (Q 13 0 []) <| .node (Q 14 1 [15, 16]) <| .node (Q 15 1 [16]) <| .node (Q 16 1 []) <| .done),
  (1, [K [] [0] 13, K [] [1] 14, K [] [0] 15, K [] [3] 16, K [] [0] 17, K [] [3] 18, K [4, 5] [17, 18] 19, K [6] [19] 20, K [] [0] 21, K [] [1] 22, K [8, 9] [21, 22] 23, K [10] [23] 24, K [0, 1, 0, 1, 4, 5, 6, 7, 11] [13, 14] 25, J [12, 7, 0, 1, 4, 5, 6, 7, 11] [25, 20], K (2 :: 3 :: (r 0 14 [])) [15, 16] 26, J (14 :: 11 :: 13 :: (r 0 14 [])) [26, 24]], [Q 0 1 [12, 13, 14, 15], Q 1 1 [12, 13, 14, 15], Q 2 1 [14, 15], Q 3 1 [14, 15], Q 4 1 [6, 7, 12, 13, 14, 15], Q 5 1 [6, 7, 12, 13, 14, 15], Q 6 1 [7, 12, 13, 14, 15], Q 7 2 [12, 13, 14, 15], Q 8 1 (r 10 6 []), Q 9 1 (r 10 6 []), Q 10 1 (r 11 5 []), Q 11 2 [12, 13, 14, 15], Q 12 1 [13, 14, 15], Q 13 0 [], Q 14 1 [15], Q 15 0 []], .node (Q 0 1 [12, 13, 14, 15]) <| .node (Q 1 1 [12, 13, 14, 15]) <| .node (Q 2 1 [14, 15]) <| .node (Q 3 1 [14, 15]) <| .node (Q 4 1 [6, 7, 12, 13, 14, 15]) <| .node (Q 5 1 [6, 7, 12, 13, 14, 15]) <| .node (Q 6 1 [7, 12, 13, 14, 15]) <| .node (Q 7 2 [12, 13, 14, 15]) <| .node (Q 8 1 (r 10 6 [])) <| .node (Q 9 1 (r 10 6 [])) <| .node (Q 10 1 (r 11 5 [])) <| .node (Q 11 2 [12, 13, 14, 15]) <| .node (Q 12 1 [13, 14, 15]) <| .node (Q 13 0 []) <| .node (Q 14 1 [15]) <| .node (Q 15 0 []) <| .done)]
def F122 : CFun := ⟨n90, .seq (.region <|
 m p11 q1 <|
 .done) <|
 .seq (.region <|
 m p14 t1 <|
 m p15 t2 <|
 m p16 t1 <|
 m p17 t4 <|
 m p18 t1 <|
 m p19 t4 <|
 o p20 (.idxS n2 t18 t19) <|
 o p21 (.loadN n2 t20) <|
 m p22 t1 <|
 m p23 t2 <|
 o p24 (.idxS n2 t22 t23) <|
 o p25 (.loadN n2 t24) <|
 o p26 (.idxS n2 t14 t15) <|
 e (.storeN n2 t26 t21) <|
 o p27 (.idxS n2 t16 t17) <|
 e (.storeN n2 t27 t25) <|
 .done) <|
 .seq (.region <|
 m p28 t2 <|
 o p29 (.ar .add t28 q3) <|
 m p30 t3 <|
 o p31 (.ar .sub t30 q3) <|
 m p12 t29 <|
 m p13 t31 <|
 .done) <|
 .seq (.block n0 <| .loop <| .block n1 <| .seq (.block n2 <| .loop <| .seq (.seq (.region <|
 m p32 t12 <|
 m p33 t13 <|
 o p34 (.cmp .leq t32 t33) <|
 m p35 t34 <|
 .step ⟨(some p36), (some (p35, true)), .op (.move t5)⟩ [] <|
 .step ⟨(some p37), (some (p35, true)), .op (.move t1)⟩ [] <|
 .step ⟨(some p38), (some (p35, true)), .op (.move t2)⟩ [] <|
 .step ⟨(some p39), (some (p35, true)), .op (.idxS n2 t37 t38)⟩ [] <|
 .step ⟨(some p40), (some (p35, true)), .op (.loadN n2 t39)⟩ [] <|
 .step ⟨(some p41), (some (p35, true)), .op (.move t1)⟩ [] <|
 .step ⟨(some p42), (some (p35, true)), .op (.move t12)⟩ [] <|
 .step ⟨(some p43), (some (p35, true)), .op (.idxS n2 t41 t42)⟩ [] <|
 .step ⟨(some p44), (some (p35, true)), .op (.loadN n2 t43)⟩ [] <|
 .step ⟨(some p45), (some (p35, true)), .callv t36 [t40, t44]⟩ [] <|
 .step ⟨(some p46), (some (p35, true)), .op (.cmp .lss t45 q1)⟩ [] <|
 .step ⟨(some p47), (some (p35, true)), .op (.not t46)⟩ [] <|
 o p48 (.pick t35 t47 q0) <|
 .done) <|
 .cond t48 (.skip) <|
 .exit n2) <|
 .block n3 <| .region <|
 m p49 t12 <|
 o p50 (.ar .add t49 q3) <|
 m p12 t50 <|
 .done) <|
 .seq (.block n4 <| .loop <| .seq (.seq (.region <|
 m p51 t12 <|
 m p52 t13 <|
 o p53 (.cmp .leq t51 t52) <|
 m p54 t53 <|
 .step ⟨(some p55), (some (p54, true)), .op (.move t5)⟩ [] <|
 .step ⟨(some p56), (some (p54, true)), .op (.move t1)⟩ [] <|
 .step ⟨(some p57), (some (p54, true)), .op (.move t2)⟩ [] <|
 .step ⟨(some p58), (some (p54, true)), .op (.idxS n2 t56 t57)⟩ [] <|
 .step ⟨(some p59), (some (p54, true)), .op (.loadN n2 t58)⟩ [] <|
 .step ⟨(some p60), (some (p54, true)), .op (.move t1)⟩ [] <|
 .step ⟨(some p61), (some (p54, true)), .op (.move t13)⟩ [] <|
 .step ⟨(some p62), (some (p54, true)), .op (.idxS n2 t60 t61)⟩ [] <|
 .step ⟨(some p63), (some (p54, true)), .op (.loadN n2 t62)⟩ [] <|
 .step ⟨(some p64), (some (p54, true)), .callv t55 [t59, t63]⟩ [] <|
 .step ⟨(some p65), (some (p54, true)), .op (.cmp .lss t64 q1)⟩ [] <|
 o p66 (.pick t54 t65 q0) <|
 .done) <|
 .cond t66 (.skip) <|
 .exit n4) <|
 .block n5 <| .region <|
 m p67 t13 <|
 o p68 (.ar .sub t67 q3) <|
 m p13 t68 <|
 .done) <|
 .seq (.seq (.region <|
 m p69 t12 <|
 m p70 t13 <|
 o p71 (.cmp .gtr t69 t70) <|
 .done) <|
 .cond t71 (.exit n0) <|
 .skip) <|
 .seq (.region <|
 m p72 t1 <|
 m p73 t12 <|
 m p74 t1 <|
 m p75 t13 <|
 m p76 t1 <|
 m p77 t13 <|
 o p78 (.idxS n2 t76 t77) <|
 o p79 (.loadN n2 t78) <|
 m p80 t1 <|
 m p81 t12 <|
 o p82 (.idxS n2 t80 t81) <|
 o p83 (.loadN n2 t82) <|
 o p84 (.idxS n2 t72 t73) <|
 e (.storeN n2 t84 t79) <|
 o p85 (.idxS n2 t74 t75) <|
 e (.storeN n2 t85 t83) <|
 .done) <|
 .seq (.region <|
 m p86 t12 <|
 o p87 (.ar .add t86 q3) <|
 m p12 t87 <|
 .done) <|
 .region <|
 m p88 t13 <|
 o p89 (.ar .sub t88 q3) <|
 m p13 t89 <|
 .done) <|
 .seq (.region <|
 m p90 t12 <|
 m p11 t90 <|
 .done) <|
 .ret, [.tmp p11]⟩
theorem c122 : compFn Tryz.prog pl122 Tryz.f122 = some F122 := by kernel_rfl

def pl123 : Plans := [(21, [K [] [0] 163, K [] [13] 164, K [] [0] 165, K [] [1] 166, K [] [0] 167, K [] [1] 168, K [4, 5] [167, 168] 169, K [6] [169] 170, K [] [0] 171, K [] [13] 172, K [8, 9] [171, 172] 173, K [10] [173] 174, K [0, 1, 0, 1, 4, 5, 6, 7, 11] [163, 164] 175, J [12, 7, 0, 1, 4, 5, 6, 7, 11] [175, 170], K (2 :: 3 :: (r 0 14 [])) [165, 166] 176, J (14 :: 11 :: 13 :: (r 0 14 [])) [176, 174]], [Q 0 1 [12, 13, 14, 15], Q 1 1 [12, 13, 14, 15], Q 2 1 [14, 15], Q 3 1 [14, 15], Q 4 1 [6, 7, 12, 13, 14, 15], Q 5 1 [6, 7, 12, 13, 14, 15], Q 6 1 [7, 12, 13, 14, 15], Q 7 2 [12, 13, 14, 15], Q 8 1 (r 10 6 []), Q 9 1 (r 10 6 []), Q 10 1 (r 11 5 []), Q 11 2 [12, 13, 14, 15], Q 12 1 [13, 14, 15], Q 13 0 [], Q 14 1 [15], Q 15 0 []], .node (Q 0 1 [12, 13, 14, 15]) <| .node (Q 1 1 [12, 13, 14, 15]) <| .node (Q 2 1 [14, 15]) <| .node (Q 3 1 [14, 15]) <| .node (Q 4 1 [6, 7, 12, 13, 14, 15]) <| .node (Q 5 1 [6, 7, 12, 13, 14, 15]) <| .node (Q 6 1 [7, 12, 13, 14, 15]) <| .node (Q 7 2 [12, 13, 14, 15]) <| .node (Q 8 1 (r 10 6 [])) <| .node (Q 9 1 (r 10 6 [])) <| .node (Q 10 1 (r 11 5 [])) <| .node (Q 11 2 [12, 13, 14, 15]) <| .node (Q 12 1 [13, 14, 15]) <| .node (Q 13 0 []) <| .node (Q 14 1 [15]) <| .node (Q 15 0 []) <| .done),
  (18, [K [] [0] 145, K [] [12] 146, K [] [0] 147, K [] [13] 148, K [] [0] 149, K [] [13] 150, K [4, 5] [149, 150] 151, K [6] [151] 152, K [] [0] 153, K [] [12] 154, K [8, 9] [153, 154] 155, K [10] [155] 156, K [0, 1, 0, 1, 4, 5, 6, 7, 11] [145, 146] 157, J [12, 7, 0, 1, 4, 5, 6, 7, 11] [157, 152], K (2 :: 3 :: (r 0 14 [])) [147, 148] 158, J (14 :: 11 :: 13 :: (r 0 14 [])) [158, 156]], [Q 0 1 [12, 13, 14, 15], Q 1 1 [12, 13, 14, 15], Q 2 1 [14, 15], Q 3 1 [14, 15], Q 4 1 [6, 7, 12, 13, 14, 15], Q 5 1 [6, 7, 12, 13, 14, 15], Q 6 1 [7, 12, 13, 14, 15], Q 7 2 [12, 13, 14, 15], Q 8 1 (r 10 6 []), Q 9 1 (r 10 6 []), Q 10 1 (r 11 5 []), Q 11 2 [12, 13, 14, 15], Q 12 1 [13, 14, 15], Q 13 0 [], Q 14 1 [15], Q 15 0 []], .node (Q 0 1 [12, 13, 14, 15]) <| .node (Q 1 1 [12, 13, 14, 15]) <| .node (Q 2 1 [14, 15]) <| .node (Q 3 1 [14, 15]) <| .node (Q 4 1 [6, 7, 12, 13, 14, 15]) <| .node (Q 5 1 [6, 7, 12, 13, 14, 15]) <| .node (Q 6 1 [7, 12, 13, 14, 15]) <| .node (Q 7 2 [12, 13, 14, 15]) <| .node (Q 8 1 (r 10 6 [])) <| .node (Q 9 1 (r 10 6 [])) <| .node (Q 10 1 (r 11 5 [])) <| .node (Q 11 2 [12, 13, 14, 15]) <| .node (Q 12 1 [13, 14, 15]) <| .node (Q 13 0 []) <| .node (Q 14 1 [15]) <| .node (Q 15 0 []) <| .done),
  (15, [K [] [12] 123, K [] [13] 124, K [0, 1] [123, 124] 125, K [2] [125] 126, K [3] [4, 126] 127, K [3] [0, 126] 128, K [3] [13, 126] 129, K [5, 6, 3] [128, 129, 126] 130, K [7, 3] [130, 126] 131, K [3] [0, 126] 132, K [3] [1, 126] 133, K [9, 10, 3] [132, 133, 126] 134, K [11, 3] [134, 126] 135, K [4, 8, 12, 3, 3] [127, 131, 135, 126] 136, K [13, 3] [136, 126] 137, K [14, 3] [137, 126] 138, K [3, 15] [126, 138] 139], [Q 0 1 (r 2 15 []), Q 1 1 (r 2 15 []), Q 2 1 (r 3 14 []), Q 3 1 (r 4 13 []), Q 4 1 [13, 14, 15, 16], Q 5 1 [7, 8, 13, 14, 15, 16], Q 6 1 [7, 8, 13, 14, 15, 16], Q 7 1 [8, 13, 14, 15, 16], Q 8 2 [13, 14, 15, 16], Q 9 1 (r 11 6 []), Q 10 1 (r 11 6 []), Q 11 1 (r 12 5 []), Q 12 2 [13, 14, 15, 16], Q 13 0 [], Q 14 1 [15, 16], Q 15 1 [16], Q 16 1 []], .node (Q 0 1 (r 2 15 [])) <| .node (Q 1 1 (r 2 15 [])) <| .node (Q 2 1 (r 3 14 [])) <| .node (Q 3 1 (r 4 13 [])) <| .node (Q 4 1 [13, 14, 15, 16]) <| .node (Q 5 1 [7, 8, 13, 14, 15, 16]) <| .node (Q 6 1 [7, 8, 13, 14, 15, 16]) <| .node (Q 7 1 [8, 13, 14, 15, 16]) <| .node (Q 8 2 [13, 14, 15, 16]) <| .node (Q 9 1 (r 11 6 [])) <| .node (Q 10 1 (r 11 6 [])) <| .node (Q 11 1 (r 12 5 [])) <| .node (Q 12 2 [13, 14, 15, 16]) <| .node (Q 13 0 []) <| .node (Q 14 1 [15, 16]) <| .node (Q 15 1 [16]) <| .node (Q 16 1 []) <| .done),
  (13, [K [] [12] 105, K [] [13] 106, K [0, 1] [105, 106] 107, K [2] [107] 108, K [3] [4, 108] 109, K [3] [0, 108] 110, K [3] [12, 108] 111, K [5, 6, 3] [110, 111, 108] 112, K [7, 3] [112, 108] 113, K [3] [0, 108] 114, K [3] [1, 108] 115, K [9, 10, 3] [114, 115, 108] 116, K [11, 3] [116, 108] 117, K [4, 8, 12, 3, 3] [109, 113, 117, 108] 118, K [13, 3] [118, 108] 119, K [3, 14] [108, 119] 120], [Q 0 1 (r 2 14 []), Q 1 1 (r 2 14 []), Q 2 1 (r 3 13 []), Q 3 1 (r 4 12 []), Q 4 1 [13, 14, 15], Q 5 1 [7, 8, 13, 14, 15], Q 6 1 [7, 8, 13, 14, 15], Q 7 1 [8, 13, 14, 15], Q 8 2 [13, 14, 15], Q 9 1 (r 11 5 []), Q 10 1 (r 11 5 []), Q 11 1 [12, 13, 14, 15], Q 12 2 [13, 14, 15], Q 13 0 [], Q 14 1 [15], Q 15 1 []], .node (Q 0 1 (r 2 14 [])) <| .node (Q 1 1 (r 2 14 [])) <| .node (Q 2 1 (r 3 13 [])) <| .node (Q 3 1 (r 4 12 [])) <| .node (Q 4 1 [13, 14, 15]) <| .node (Q 5 1 [7, 8, 13, 14, 15]) <| .node (Q 6 1 [7, 8, 13, 14, 15]) <| .node (Q 7 1 [8, 13, 14, 15]) <| .node (Q 8 2 [13, 14, 15]) <| .node (Q 9 1 (r 11 5 [])) <| .node (Q 10 1 (r 11 5 [])) <| .node (Q 11 1 [12, 13, 14, 15]) <| .node (Q 12 2 [13, 14, 15]) <| .node (Q 13 0 []) <| .node (Q 14 1 [15]) <| .node (Q 15 1 []) <| .done),
  (10, [K [] [0] 87, K [] [12] 88, K [] [0] 89, K [] [13] 90, K [] [0] 91, K [] [13] 92, K [4, 5] [91, 92] 93, K [6] [93] 94, K [] [0] 95, K [] [12] 96, K [8, 9] [95, 96] 97, K [10] [97] 98, K [0, 1, 0, 1, 4, 5, 6, 7, 11] [87, 88] 99, J [12, 7, 0, 1, 4, 5, 6, 7, 11] [99, 94], K (2 :: 3 :: (r 0 14 [])) [89, 90] 100, J (14 :: 11 :: 13 :: (r 0 14 [])) [100, 98]], [Q 0 1 [12, 13, 14, 15], Q 1 1 [12, 13, 14, 15], Q 2 1 [14, 15], Q 3 1 [14, 15], Q 4 1 [6, 7, 12, 13, 14, 15], Q 5 1 [6, 7, 12, 13, 14, 15], Q 6 1 [7, 12, 13, 14, 15], Q 7 2 [12, 13, 14, 15], Q 8 1 (r 10 6 []), Q 9 1 (r 10 6 []), Q 10 1 (r 11 5 []), Q 11 2 [12, 13, 14, 15], Q 12 1 [13, 14, 15], Q 13 0 [], Q 14 1 [15], Q 15 0 []], .node (Q 0 1 [12, 13, 14, 15]) <| .node (Q 1 1 [12, 13, 14, 15]) <| .node (Q 2 1 [14, 15]) <| .node (Q 3 1 [14, 15]) <| .node (Q 4 1 [6, 7, 12, 13, 14, 15]) <| .node (Q 5 1 [6, 7, 12, 13, 14, 15]) <| .node (Q 6 1 [7, 12, 13, 14, 15]) <| .node (Q 7 2 [12, 13, 14, 15]) <| .node (Q 8 1 (r 10 6 [])) <| .node (Q 9 1 (r 10 6 [])) <| .node (Q 10 1 (r 11 5 [])) <| .node (Q 11 2 [12, 13, 14, 15]) <| .node (Q 12 1 [13, 14, 15]) <| .node (Q 13 0 []) <| .node (Q 14 1 [15]) <| .node (Q 15 0 []) <| .done),
  (8, [K [] [0] 72, K [] [13] 73, K [] [0] 74, K [] [1] 75, K [] [0] 76, K [] [1] 77, K [4, 5] [76, 77] 78, K [6] [78] 79, K [] [0] 80, K [] [13] 81, K [8, 9] [80, 81] 82, K [10] [82] 83, K [0, 1, 0, 1, 4, 5, 6, 7, 11] [72, 73] 84, J [12, 7, 0, 1, 4, 5, 6, 7, 11] [84, 79], K (2 :: 3 :: (r 0 14 [])) [74, 75] 85, J (14 :: 11 :: 13 :: (r 0 14 [])) [85, 83]], [Q 0 1 [12, 13, 14, 15], Q 1 1 [12, 13, 14, 15], Q 2 1 [14, 15], Q 3 1 [14, 15], Q 4 1 [6, 7, 12, 13, 14, 15], Q 5 1 [6, 7, 12, 13, 14, 15], Q 6 1 [7, 12, 13, 14, 15], Q 7 2 [12, 13, 14, 15], Q 8 1 (r 10 6 []), Q 9 1 (r 10 6 []), Q 10 1 (r 11 5 []), Q 11 2 [12, 13, 14, 15], Q 12 1 [13, 14, 15], Q 13 0 [], Q 14 1 [15], Q 15 0 []], .node (Q 0 1 [12, 13, 14, 15]) <| .node (Q 1 1 [12, 13, 14, 15]) <| .node (Q 2 1 [14, 15]) <| .node (Q 3 1 [14, 15]) <| .node (Q 4 1 [6, 7, 12, 13, 14, 15]) <| .node (Q 5 1 [6, 7, 12, 13, 14, 15]) <| .node (Q 6 1 [7, 12, 13, 14, 15]) <| .node (Q 7 2 [12, 13, 14, 15]) <| .node (Q 8 1 (r 10 6 [])) <| .node (Q 9 1 (r 10 6 [])) <| .node (Q 10 1 (r 11 5 [])) <| .node (Q 11 2 [12, 13, 14, 15]) <| .node (Q 12 1 [13, 14, 15]) <| .node (Q 13 0 []) <| .node (Q 14 1 [15]) <| .node (Q 15 0 []) <| .done),
  (5, [K [] [12] 50, K [] [13] 51, K [0, 1] [50, 51] 52, K [2] [52] 53, K [3] [4, 53] 54, K [3] [0, 53] 55, K [3] [13, 53] 56, K [5, 6, 3] [55, 56, 53] 57, K [7, 3] [57, 53] 58, K [3] [0, 53] 59, K [3] [1, 53] 60, K [9, 10, 3] [59, 60, 53] 61, K [11, 3] [61, 53] 62, K [4, 8, 12, 3, 3] [54, 58, 62, 53] 63, K [13, 3] [63, 53] 64, K [14, 3] [64, 53] 65, K [3, 15] [53, 65] 66], [Q 0 1 (r 2 15 []), Q 1 1 (r 2 15 []), Q 2 1 (r 3 14 []), Q 3 1 (r 4 13 []), Q 4 1 [13, 14, 15, 16], Q 5 1 [7, 8, 13, 14, 15, 16], Q 6 1 [7, 8, 13, 14, 15, 16], Q 7 1 [8, 13, 14, 15, 16], Q 8 2 [13, 14, 15, 16], Q 9 1 (r 11 6 []), Q 10 1 (r 11 6 []), Q 11 1 (r 12 5 []), Q 12 2 [13, 14, 15, 16], Q 13 0 [], Q 14 1 [15, 16], Q 15 1 [16], Q 16 1 []], .node (Q 0 1 (r 2 15 [])) <| .node (Q 1 1 (r 2 15 [])) <| .node (Q 2 1 (r 3 14 [])) <| .node (Q 3 1 (r 4 13 [])) <| .node (Q 4 1 [13, 14, 15, 16]) <| .node (Q 5 1 [7, 8, 13, 14, 15, 16]) <| .node (Q 6 1 [7, 8, 13, 14, 15, 16]) <| .node (Q 7 1 [8, 13, 14, 15, 16]) <| .node (Q 8 2 [13, 14, 15, 16]) <| .node (Q 9 1 (r 11 6 [])) <| .node (Q 10 1 (r 11 6 [])) <| .node (Q 11 1 (r 12 5 [])) <| .node (Q 12 2 [13, 14, 15, 16]) <| .node (Q 13 0 []) <| .node (Q 14 1 [15, 16]) <| .node (Q 15 1 [16]) <| .node (Q 16 1 []) <| .done),
  (3, [K [] [12] 32, K [] [13] 33, K [0, 1] [32, 33] 34, K [2] [34] 35, K [3] [4, 35] 36, K [3] [0, 35] 37, K [3] [12, 35] 38, K [5, 6, 3] [37, 38, 35] 39, K [7, 3] [39, 35] 40, K [3] [0, 35] 41, K [3] [1, 35] 42, K [9, 10, 3] [41, 42, 35] 43, K [11, 3] [43, 35] 44, K [4, 8, 12, 3, 3] [36, 40, 44, 35] 45, K [13, 3] [45, 35] 46, K [3, 14] [35, 46] 47], [Q 0 1 (r 2 14 []), Q 1 1 (r 2 14 []), Q 2 1 (r 3 13 []), Q 3 1 (r 4 12 []), Q 4 1 [13, 14, 15], Q 5 1 [7, 8, 13, 14, 15], Q 6 1 [7, 8, 13, 14, 15], Q 7 1 [8, 13, 14, 15], Q 8 2 [13, 14, 15], Q 9 1 (r 11 5 []), Q 10 1 (r 11 5 []), Q 11 1 [12, 13, 14, 15], Q 12 2 [13, 14, 15], Q 13 0 [], Q 14 1 [15], Q 15 1 []], .node (Q 0 1 (r 2 14 [])) <| .node (Q 1 1 (r 2 14 [])) <| .node (Q 2 1 (r 3 13 [])) <| .node (Q 3 1 (r 4 12 [])) <| .node (Q 4 1 [13, 14, 15]) <| .node (Q 5 1 [7, 8, 13, 14, 15]) <| .node (Q 6 1 [7, 8, 13, 14, 15]) <| .node (Q 7 1 [8, 13, 14, 15]) <| .node (Q 8 2 [13, 14, 15]) <| .node (Q 9 1 (r 11 5 [])) <| .node (Q 10 1 (r 11 5 [])) <| .node (Q 11 1 [12, 13, 14, 15]) <| .node (Q 12 2 [13, 14, 15]) <| .node (Q 13 0 []) <| .node (Q 14 1 [15]) <| .node (Q 15 1 []) <| .done),
  (1, [K [] [0] 14, K [] [1] 15, K [] [0] 16, K [] [3] 17, K [] [0] 18, K [] [3] 19, K [4, 5] [18, 19] 20, K [6] [20] 21, K [] [0] 22, K [] [1] 23, K [8, 9] [22, 23] 24, K [10] [24] 25, K [0, 1, 0, 1, 4, 5, 6, 7, 11] [14, 15] 26, J [12, 7, 0, 1, 4, 5, 6, 7, 11] [26, 21], K (2 :: 3 :: (r 0 14 [])) [16, 17] 27, J (14 :: 11 :: 13 :: (r 0 14 [])) [27, 25]], [Q 0 1 [12, 13, 14, 15], Q 1 1 [12, 13, 14, 15], Q 2 1 [14, 15], Q 3 1 [14, 15], Q 4 1 [6, 7, 12, 13, 14, 15], Q 5 1 [6, 7, 12, 13, 14, 15], Q 6 1 [7, 12, 13, 14, 15], Q 7 2 [12, 13, 14, 15], Q 8 1 (r 10 6 []), Q 9 1 (r 10 6 []), Q 10 1 (r 11 5 []), Q 11 2 [12, 13, 14, 15], Q 12 1 [13, 14, 15], Q 13 0 [], Q 14 1 [15], Q 15 0 []], .node (Q 0 1 [12, 13, 14, 15]) <| .node (Q 1 1 [12, 13, 14, 15]) <| .node (Q 2 1 [14, 15]) <| .node (Q 3 1 [14, 15]) <| .node (Q 4 1 [6, 7, 12, 13, 14, 15]) <| .node (Q 5 1 [6, 7, 12, 13, 14, 15]) <| .node (Q 6 1 [7, 12, 13, 14, 15]) <| .node (Q 7 2 [12, 13, 14, 15]) <| .node (Q 8 1 (r 10 6 [])) <| .node (Q 9 1 (r 10 6 [])) <| .node (Q 10 1 (r 11 5 [])) <| .node (Q 11 2 [12, 13, 14, 15]) <| .node (Q 12 1 [13, 14, 15]) <| .node (Q 13 0 []) <| .node (Q 14 1 [15]) <| .node (Q 15 0 []) <| .done)]
def F123 : CFun := ⟨n178, .seq (.region <|
 m p11 q1 <|
 m p12 q0 <|
 .done) <|
 .seq (.region <|
 m p15 t1 <|
 m p16 t2 <|
 m p17 t1 <|
 m p18 t4 <|
 m p19 t1 <|
 m p20 t4 <|
 o p21 (.idxS n2 t19 t20) <|
 o p22 (.loadN n2 t21) <|
 m p23 t1 <|
 m p24 t2 <|
 o p25 (.idxS n2 t23 t24) <|
 o p26 (.loadN n2 t25) <|
 o p27 (.idxS n2 t15 t16) <|
 e (.storeN n2 t27 t22) <|
 o p28 (.idxS n2 t17 t18) <|
 e (.storeN n2 t28 t26) <|
 .done) <|
 .seq (.region <|
 m p29 t2 <|
 o p30 (.ar .add t29 q3) <|
 m p31 t3 <|
 o p32 (.ar .sub t31 q3) <|
 m p13 t30 <|
 m p14 t32 <|
 .done) <|
 .seq (.block n0 <| .loop <| .seq (.seq (.region <|
 m p33 t13 <|
 m p34 t14 <|
 o p35 (.cmp .leq t33 t34) <|
 m p36 t35 <|
 .step ⟨(some p37), (some (p36, true)), .op (.move t5)⟩ [] <|
 .step ⟨(some p38), (some (p36, true)), .op (.move t1)⟩ [] <|
 .step ⟨(some p39), (some (p36, true)), .op (.move t13)⟩ [] <|
 .step ⟨(some p40), (some (p36, true)), .op (.idxS n2 t38 t39)⟩ [] <|
 .step ⟨(some p41), (some (p36, true)), .op (.loadN n2 t40)⟩ [] <|
 .step ⟨(some p42), (some (p36, true)), .op (.move t1)⟩ [] <|
 .step ⟨(some p43), (some (p36, true)), .op (.move t2)⟩ [] <|
 .step ⟨(some p44), (some (p36, true)), .op (.idxS n2 t42 t43)⟩ [] <|
 .step ⟨(some p45), (some (p36, true)), .op (.loadN n2 t44)⟩ [] <|
 .step ⟨(some p46), (some (p36, true)), .callv t37 [t41, t45]⟩ [] <|
 .step ⟨(some p47), (some (p36, true)), .op (.cmp .lss t46 q1)⟩ [] <|
 o p48 (.pick t36 t47 q0) <|
 .done) <|
 .cond t48 (.skip) <|
 .exit n0) <|
 .block n1 <| .region <|
 m p49 t13 <|
 o p50 (.ar .add t49 q3) <|
 m p13 t50 <|
 .done) <|
 .seq (.block n2 <| .loop <| .seq (.seq (.region <|
 m p51 t13 <|
 m p52 t14 <|
 o p53 (.cmp .leq t51 t52) <|
 m p54 t53 <|
 .step ⟨(some p55), (some (p54, true)), .op (.move t5)⟩ [] <|
 .step ⟨(some p56), (some (p54, true)), .op (.move t1)⟩ [] <|
 .step ⟨(some p57), (some (p54, true)), .op (.move t14)⟩ [] <|
 .step ⟨(some p58), (some (p54, true)), .op (.idxS n2 t56 t57)⟩ [] <|
 .step ⟨(some p59), (some (p54, true)), .op (.loadN n2 t58)⟩ [] <|
 .step ⟨(some p60), (some (p54, true)), .op (.move t1)⟩ [] <|
 .step ⟨(some p61), (some (p54, true)), .op (.move t2)⟩ [] <|
 .step ⟨(some p62), (some (p54, true)), .op (.idxS n2 t60 t61)⟩ [] <|
 .step ⟨(some p63), (some (p54, true)), .op (.loadN n2 t62)⟩ [] <|
 .step ⟨(some p64), (some (p54, true)), .callv t55 [t59, t63]⟩ [] <|
 .step ⟨(some p65), (some (p54, true)), .op (.cmp .lss t64 q1)⟩ [] <|
 .step ⟨(some p66), (some (p54, true)), .op (.not t65)⟩ [] <|
 o p67 (.pick t54 t66 q0) <|
 .done) <|
 .cond t67 (.skip) <|
 .exit n2) <|
 .block n3 <| .region <|
 m p68 t14 <|
 o p69 (.ar .sub t68 q3) <|
 m p14 t69 <|
 .done) <|
 .seq (.seq (.region <|
 m p70 t13 <|
 m p71 t14 <|
 o p72 (.cmp .gtr t70 t71) <|
 .done) <|
 .cond t72 (.seq (.region <|
 m p73 t1 <|
 m p74 t14 <|
 m p75 t1 <|
 m p76 t2 <|
 m p77 t1 <|
 m p78 t2 <|
 o p79 (.idxS n2 t77 t78) <|
 o p80 (.loadN n2 t79) <|
 m p81 t1 <|
 m p82 t14 <|
 o p83 (.idxS n2 t81 t82) <|
 o p84 (.loadN n2 t83) <|
 o p85 (.idxS n2 t73 t74) <|
 e (.storeN n2 t85 t80) <|
 o p86 (.idxS n2 t75 t76) <|
 e (.storeN n2 t86 t84) <|
 .done) <|
 .seq (.region <|
 m p87 t14 <|
 m p11 t87 <|
 m p12 q12 <|
 .done) <|
 .ret) <|
 .skip) <|
 .seq (.region <|
 m p88 t1 <|
 m p89 t13 <|
 m p90 t1 <|
 m p91 t14 <|
 m p92 t1 <|
 m p93 t14 <|
 o p94 (.idxS n2 t92 t93) <|
 o p95 (.loadN n2 t94) <|
 m p96 t1 <|
 m p97 t13 <|
 o p98 (.idxS n2 t96 t97) <|
 o p99 (.loadN n2 t98) <|
 o p100 (.idxS n2 t88 t89) <|
 e (.storeN n2 t100 t95) <|
 o p101 (.idxS n2 t90 t91) <|
 e (.storeN n2 t101 t99) <|
 .done) <|
 .seq (.region <|
 m p102 t13 <|
 o p103 (.ar .add t102 q3) <|
 m p13 t103 <|
 .done) <|
 .seq (.region <|
 m p104 t14 <|
 o p105 (.ar .sub t104 q3) <|
 m p14 t105 <|
 .done) <|
 .seq (.block n4 <| .loop <| .block n5 <| .seq (.block n6 <| .loop <| .seq (.seq (.region <|
 m p106 t13 <|
 m p107 t14 <|
 o p108 (.cmp .leq t106 t107) <|
 m p109 t108 <|
 .step ⟨(some p110), (some (p109, true)), .op (.move t5)⟩ [] <|
 .step ⟨(some p111), (some (p109, true)), .op (.move t1)⟩ [] <|
 .step ⟨(some p112), (some (p109, true)), .op (.move t13)⟩ [] <|
 .step ⟨(some p113), (some (p109, true)), .op (.idxS n2 t111 t112)⟩ [] <|
 .step ⟨(some p114), (some (p109, true)), .op (.loadN n2 t113)⟩ [] <|
 .step ⟨(some p115), (some (p109, true)), .op (.move t1)⟩ [] <|
 .step ⟨(some p116), (some (p109, true)), .op (.move t2)⟩ [] <|
 .step ⟨(some p117), (some (p109, true)), .op (.idxS n2 t115 t116)⟩ [] <|
 .step ⟨(some p118), (some (p109, true)), .op (.loadN n2 t117)⟩ [] <|
 .step ⟨(some p119), (some (p109, true)), .callv t110 [t114, t118]⟩ [] <|
 .step ⟨(some p120), (some (p109, true)), .op (.cmp .lss t119 q1)⟩ [] <|
 o p121 (.pick t109 t120 q0) <|
 .done) <|
 .cond t121 (.skip) <|
 .exit n6) <|
 .block n7 <| .region <|
 m p122 t13 <|
 o p123 (.ar .add t122 q3) <|
 m p13 t123 <|
 .done) <|
 .seq (.block n8 <| .loop <| .seq (.seq (.region <|
 m p124 t13 <|
 m p125 t14 <|
 o p126 (.cmp .leq t124 t125) <|
 m p127 t126 <|
 .step ⟨(some p128), (some (p127, true)), .op (.move t5)⟩ [] <|
 .step ⟨(some p129), (some (p127, true)), .op (.move t1)⟩ [] <|
 .step ⟨(some p130), (some (p127, true)), .op (.move t14)⟩ [] <|
 .step ⟨(some p131), (some (p127, true)), .op (.idxS n2 t129 t130)⟩ [] <|
 .step ⟨(some p132), (some (p127, true)), .op (.loadN n2 t131)⟩ [] <|
 .step ⟨(some p133), (some (p127, true)), .op (.move t1)⟩ [] <|
 .step ⟨(some p134), (some (p127, true)), .op (.move t2)⟩ [] <|
 .step ⟨(some p135), (some (p127, true)), .op (.idxS n2 t133 t134)⟩ [] <|
 .step ⟨(some p136), (some (p127, true)), .op (.loadN n2 t135)⟩ [] <|
 .step ⟨(some p137), (some (p127, true)), .callv t128 [t132, t136]⟩ [] <|
 .step ⟨(some p138), (some (p127, true)), .op (.cmp .lss t137 q1)⟩ [] <|
 .step ⟨(some p139), (some (p127, true)), .op (.not t138)⟩ [] <|
 o p140 (.pick t127 t139 q0) <|
 .done) <|
 .cond t140 (.skip) <|
 .exit n8) <|
 .block n9 <| .region <|
 m p141 t14 <|
 o p142 (.ar .sub t141 q3) <|
 m p14 t142 <|
 .done) <|
 .seq (.seq (.region <|
 m p143 t13 <|
 m p144 t14 <|
 o p145 (.cmp .gtr t143 t144) <|
 .done) <|
 .cond t145 (.exit n4) <|
 .skip) <|
 .seq (.region <|
 m p146 t1 <|
 m p147 t13 <|
 m p148 t1 <|
 m p149 t14 <|
 m p150 t1 <|
 m p151 t14 <|
 o p152 (.idxS n2 t150 t151) <|
 o p153 (.loadN n2 t152) <|
 m p154 t1 <|
 m p155 t13 <|
 o p156 (.idxS n2 t154 t155) <|
 o p157 (.loadN n2 t156) <|
 o p158 (.idxS n2 t146 t147) <|
 e (.storeN n2 t158 t153) <|
 o p159 (.idxS n2 t148 t149) <|
 e (.storeN n2 t159 t157) <|
 .done) <|
 .seq (.region <|
 m p160 t13 <|
 o p161 (.ar .add t160 q3) <|
 m p13 t161 <|
 .done) <|
 .region <|
 m p162 t14 <|
 o p163 (.ar .sub t162 q3) <|
 m p14 t163 <|
 .done) <|
 .seq (.region <|
 m p164 t1 <|
 m p165 t14 <|
 m p166 t1 <|
 m p167 t2 <|
 m p168 t1 <|
 m p169 t2 <|
 o p170 (.idxS n2 t168 t169) <|
 o p171 (.loadN n2 t170) <|
 m p172 t1 <|
 m p173 t14 <|
 o p174 (.idxS n2 t172 t173) <|
 o p175 (.loadN n2 t174) <|
 o p176 (.idxS n2 t164 t165) <|
 e (.storeN n2 t176 t171) <|
 o p177 (.idxS n2 t166 t167) <|
 e (.storeN n2 t177 t175) <|
 .done) <|
 .seq (.region <|
 m p178 t14 <|
 m p11 t178 <|
 m p12 q0 <|
 .done) <|
 .ret, [.tmp p11, .tmp p12]⟩
theorem c123 : compFn Tryz.prog pl123 Tryz.f123 = some F123 := by kernel_rfl

end Go.Ev.Fs
