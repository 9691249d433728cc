/- Printed by compact.py: functions in the evaluator's form. -/
import Derived.Test.YtgkjbkkbjlhafaaGreatEvWd
import Derived.Test.YtgkjbkkbjlhafaaGreatProg
set_option maxRecDepth 100000
namespace Go.Ev.Fs
open Go Go.Proofs Go.Ev

def pl3 : Plans := [(16, [K [] [11] 123, K [0] [123] 124, K [1] [124] 125, K [2] [13, 125] 126, K [3, 2] [126, 125] 127, K [2, 4] [125, 127] 128, K [5, 2] [128] 129, K [6] [15, 129] 130, K [7, 6] [130, 129] 131, K [6, 8] [129, 131] 132, K [9, 6] [132] 133, K [10] [18, 133] 134, K [11, 10] [134, 133] 135, K [10, 12] [133, 135] 136, K [13, 10] [136] 137, K [14] [21, 137] 138, K [15, 14] [138, 137] 139, K [14, 16] [137, 139] 140, K [17, 14] [140] 141, K [18] [23, 141] 142, K [19, 18] [142, 141] 143, K [18, 20] [141, 143] 144, K [21, 18] [144] 145, K [22] [25, 145] 146, K [23, 22] [146, 145] 147, K [22, 24] [145, 147] 148, K [25, 22] [148] 149, K [26] [28, 149] 150, K [27, 26] [150, 149] 151, K [26, 28] [149, 151] 152, K [29, 26] [152] 153, K [30] [31, 153] 154, K [31, 30] [154, 153] 155, K [30, 32] [153, 155] 156, K [33, 30] [156] 157, K [34] [16, 157] 158, K [35, 34] [158, 157] 159, K [36, 34] [159, 157] 160, K [37, 34] [160, 157] 161, K [34, 38] [157, 161] 162, K [39, 34] [162] 163, K [40] [32, 163] 164, K [41, 40] [164, 163] 165, K [42, 40] [165, 163] 166, K [40, 43] [163, 166] 167, K [44, 40] [167] 168, K [45] [32, 168] 169, K [46, 45] [169, 168] 170, K [47, 45] [170, 168] 171, K [48, 45] [171, 168] 172, K [45] [10, 168] 173, K [49, 50, 45] [172, 173, 168] 174, K [45, 51] [168, 174] 175, K [52, 45] [175] 176, K [53] [32, 176] 177, K [54, 53] [177, 176] 178, K [55, 53] [178, 176] 179, K [56, 53] [179, 176] 180, K [53] [9, 176] 181, K [57, 58, 53] [180, 181, 176] 182, K [53, 59] [176, 182] 183, K [60, 53] [183] 184, K [61] [32, 184] 185, K [62, 61] [185, 184] 186, K [63, 61] [186, 184] 187, K [64, 61] [187, 184] 188, K [65, 61] [188, 184] 189, K [66, 61] [189, 184] 190, K [61] [2, 184] 191, K [68, 61] [191, 184] 192, K [67, 69, 61] [190, 192, 184] 193, K [61, 70] [184, 193] 194, K [71, 61] [194] 195, K [72] [34, 195] 196, K [73, 72] [196, 195] 197, K [72, 74] [195, 197] 198, K (75 :: 72 :: (r 0 76 [])) [198] 6], [Q 0 1 (r 1 76 []), Q 1 1 (r 2 75 []), Q 2 1 (r 3 74 []), Q 3 1 (r 4 73 []), Q 4 1 (r 5 72 []), Q 5 1 (r 6 71 []), Q 6 1 (r 7 70 []), Q 7 1 (r 8 69 []), Q 8 1 (r 9 68 []), Q 9 1 (r 10 67 []), Q 10 1 (r 11 66 []), Q 11 1 (r 12 65 []), Q 12 1 (r 13 64 []), Q 13 1 (r 14 63 []), Q 14 1 (r 15 62 []), Q 15 1 (r 16 61 []), Q 16 1 (r 17 60 []), Q 17 1 (r 18 59 []), Q 18 1 (r 19 58 []), Q 19 1 (r 20 57 []), Q 20 1 (r 21 56 []), Q 21 1 (r 22 55 []), Q 22 1 (r 23 54 []), Q 23 1 (r 24 53 []), Q 24 1 (r 25 52 []), Q 25 1 (r 26 51 []), Q 26 1 (r 27 50 []), Q 27 1 (r 28 49 []), Q 28 1 (r 29 48 []), Q 29 1 (r 30 47 []), Q 30 1 (r 31 46 []), Q 31 1 (r 32 45 []), Q 32 1 (r 33 44 []), Q 33 1 (r 34 43 []), Q 34 1 (r 35 42 []), Q 35 1 (r 36 41 []), Q 36 2 (r 37 40 []), Q 37 1 (r 38 39 []), Q 38 1 (r 39 38 []), Q 39 1 (r 40 37 []), Q 40 1 (r 41 36 []), Q 41 1 (r 42 35 []), Q 42 1 (r 43 34 []), Q 43 1 (r 44 33 []), Q 44 1 (r 45 32 []), Q 45 1 (r 46 31 []), Q 46 1 (47 :: 48 :: 49 :: (r 51 26 [])), Q 47 1 (48 :: 49 :: (r 51 26 [])), Q 48 1 (49 :: (r 51 26 [])), Q 49 2 (r 51 26 []), Q 50 1 (r 51 26 []), Q 51 1 (r 52 25 []), Q 52 1 (r 53 24 []), Q 53 1 (r 54 23 []), Q 54 1 (55 :: 56 :: 57 :: (r 59 18 [])), Q 55 1 (56 :: 57 :: (r 59 18 [])), Q 56 1 (57 :: (r 59 18 [])), Q 57 2 (r 59 18 []), Q 58 2 (r 59 18 []), Q 59 1 (r 60 17 []), Q 60 1 (r 61 16 []), Q 61 1 (r 62 15 []), Q 62 1 (r 63 5 (r 70 7 [])), Q 63 1 (64 :: 65 :: 66 :: 67 :: (r 70 7 [])), Q 64 1 (65 :: 66 :: 67 :: (r 70 7 [])), Q 65 1 (66 :: 67 :: (r 70 7 [])), Q 66 1 (67 :: (r 70 7 [])), Q 67 2 (r 70 7 []), Q 68 1 (r 69 8 []), Q 69 1 (r 70 7 []), Q 70 1 (r 71 6 []), Q 71 1 (r 72 5 []), Q 72 1 [73, 74, 75, 76], Q 73 1 [74, 75, 76], Q 74 1 [75, 76], Q 75 1 [76], Q 76 1 []], .node (Q 0 1 (r 1 76 [])) <| .node (Q 1 1 (r 2 75 [])) <| .node (Q 2 1 (r 3 74 [])) <| .node (Q 3 1 (r 4 73 [])) <| .node (Q 4 1 (r 5 72 [])) <| .node (Q 5 1 (r 6 71 [])) <| .node (Q 6 1 (r 7 70 [])) <| .node (Q 7 1 (r 8 69 [])) <| .node (Q 8 1 (r 9 68 [])) <| .node (Q 9 1 (r 10 67 [])) <| .node (Q 10 1 (r 11 66 [])) <| .node (Q 11 1 (r 12 65 [])) <| .node (Q 12 1 (r 13 64 [])) <| .node (Q 13 1 (r 14 63 [])) <| .node (Q 14 1 (r 15 62 [])) <| .node (Q 15 1 (r 16 61 [])) <| .node (Q 16 1 (r 17 60 [])) <| .node (Q 17 1 (r 18 59 [])) <| .node (Q 18 1 (r 19 58 [])) <| .node (Q 19 1 (r 20 57 [])) <| .node (Q 20 1 (r 21 56 [])) <| .node (Q 21 1 (r 22 55 [])) <| .node (Q 22 1 (r 23 54 [])) <| .node (Q 23 1 (r 24 53 [])) <| .node (Q 24 1 (r 25 52 [])) <| .node (Q 25 1 (r 26 51 [])) <| .node (Q 26 1 (r 27 50 [])) <| .node (Q 27 1 (r 28 49 [])) <| .node (Q 28 1 (r 29 48 [])) <| .node (Q 29 1 (r 30 47 [])) <| .node (Q 30 1 (r 31 46 [])) <| .node (Q 31 1 (r 32 45 [])) <| .node (Q 32 1 (r 33 44 [])) <| .node (Q 33 1 (r 34 43 [])) <| .node (Q 34 1 (r 35 42 [])) <| .node (Q 35 1 (r 36 41 [])) <| .node (Q 36 2 (r 37 40 [])) <| .node (Q 37 1 (r 38 39 [])) <| .node (Q 38 1 (r 39 38 [])) <| .node (Q 39 1 (r 40 37 [])) <| .node (Q 40 1 (r 41 36 [])) <| .node (Q 41 1 (r 42 35 [])) <| .node (Q 42 1 (r 43 34 [])) <| .node (Q 43 1 (r 44 33 [])) <| .node (Q 44 1 (r 45 32 [])) <| .node (Q 45 1 (r 46 31 [])) <| .node (Q 46 1 (47 :: 48 :: 49 :: (r 51 26 []))) <| .node (Q 47 1 (48 :: 49 :: (r 51 26 []))) <| .node (Q 48 1 (49 :: (r 51 26 []))) <| .node (Q 49 2 (r 51 26 [])) <| .node (Q 50 1 (r 51 26 [])) <| .node (Q 51 1 (r 52 25 [])) <| .node (Q 52 1 (r 53 24 [])) <| .node (Q 53 1 (r 54 23 [])) <| .node (Q 54 1 (55 :: 56 :: 57 :: (r 59 18 []))) <| .node (Q 55 1 (56 :: 57 :: (r 59 18 []))) <| .node (Q 56 1 (57 :: (r 59 18 []))) <| .node (Q 57 2 (r 59 18 [])) <| .node (Q 58 2 (r 59 18 [])) <| .node (Q 59 1 (r 60 17 [])) <| .node (Q 60 1 (r 61 16 [])) <| .node (Q 61 1 (r 62 15 [])) <| .node (Q 62 1 (r 63 5 (r 70 7 []))) <| .node (Q 63 1 (64 :: 65 :: 66 :: 67 :: (r 70 7 []))) <| .node (Q 64 1 (65 :: 66 :: 67 :: (r 70 7 []))) <| .node (Q 65 1 (66 :: 67 :: (r 70 7 []))) <| .node (Q 66 1 (67 :: (r 70 7 []))) <| .node (Q 67 2 (r 70 7 [])) <| .node (Q 68 1 (r 69 8 [])) <| .node (Q 69 1 (r 70 7 [])) <| .node (Q 70 1 (r 71 6 [])) <| .node (Q 71 1 (r 72 5 [])) <| .node (Q 72 1 [73, 74, 75, 76]) <| .node (Q 73 1 [74, 75, 76]) <| .node (Q 74 1 [75, 76]) <| .node (Q 75 1 [76]) <| .node (Q 76 1 []) <| .done)]
def F3 : CFun := ⟨n199, .seq (.region <|
 m p7 q0 <|
 .done) <|
 .seq (.seq (.region <|
 a p36 n6 [] <|
 o p37 (.not t36) <|
 .done) <|
 .cond t37 (.seq (.region <|
 m p7 q0 <|
 .done) <|
 .ret) <|
 .skip) <|
 .seq (.region <|
 a p38 n7 [q1, q2] <|
 a p39 n7 [q3, q2] <|
 m p8 t38 <|
 m p9 t39 <|
 .done) <|
 .seq (.region <|
 m p40 t1 <|
 o p41 (.ar .rem t40 q4) <|
 o p42 (.conv .i64 t41) <|
 o p43 (.ar .add q5 t42) <|
 m p44 t2 <|
 o p45 (.ar .rem t44 q4) <|
 o p46 (.conv .i64 t45) <|
 o p47 (.build z0 [(n0, n1, t43), (n1, n1, t46)]) <|
 o p10 (.alloc z0) <|
 e (.storeN n2 t10 t47) <|
 .done) <|
 .seq (.region <|
 m p49 t8 <|
 o p50 (.build z0 [(n0, n1, q3)]) <|
 o p51 (.build z1 [(n0, n1, q3), (n4, n2, t50)]) <|
 a p52 n8 [t49, t51] <|
 m p48 t52 <|
 o p53 (.extract n0 t48) <|
 o p54 (.extract n1 t48) <|
 m p11 t53 <|
 m p12 t54 <|
 .done) <|
 .seq (.region <|
 m p56 t8 <|
 m p57 t11 <|
 o p58 (.loadN n2 t10) <|
 o p59 (.build z1 [(n0, n1, q2), (n1, n1, t57), (n4, n2, t58)]) <|
 a p60 n8 [t56, t59] <|
 m p55 t60 <|
 o p61 (.extract n0 t55) <|
 o p62 (.extract n1 t55) <|
 m p13 t61 <|
 m p14 t62 <|
 .done) <|
 .seq (.region <|
 m p64 t8 <|
 m p65 t11 <|
 m p66 t3 <|
 o p67 (.conv .i64 t66) <|
 o p68 (.build z2 [(n0, n1, t67)]) <|
 o p69 (.build z1 [(n0, n1, q6), (n1, n1, t65), (n14, n2, t68)]) <|
 a p70 n8 [t64, t69] <|
 m p63 t70 <|
 o p71 (.extract n0 t63) <|
 o p72 (.extract n1 t63) <|
 m p15 t71 <|
 m p16 t72 <|
 .done) <|
 .seq (.region <|
 m p74 t8 <|
 a p75 n9 [t74, q7] <|
 m p73 t75 <|
 o p76 (.extract n0 t73) <|
 o p77 (.extract n1 t73) <|
 o p78 (.extract n2 t73) <|
 o p17 (.alloc z3) <|
 e (.storeN n6 t17 t76) <|
 m p18 t77 <|
 m p19 t78 <|
 .done) <|
 .seq (.region <|
 m p80 t9 <|
 a p81 n9 [t80, q7] <|
 m p79 t81 <|
 o p82 (.extract n0 t79) <|
 o p83 (.extract n1 t79) <|
 o p84 (.extract n2 t79) <|
 o p20 (.alloc z3) <|
 e (.storeN n6 t20 t82) <|
 m p21 t83 <|
 m p22 t84 <|
 .done) <|
 .seq (.region <|
 m p86 t8 <|
 m p87 t11 <|
 o p88 (.build z1 [(n0, n1, q8), (n1, n1, t87)]) <|
 a p89 n8 [t86, t88] <|
 m p85 t89 <|
 o p90 (.extract n0 t85) <|
 o p91 (.extract n1 t85) <|
 m p23 t90 <|
 m p24 t91 <|
 .done) <|
 .seq (.region <|
 m p93 t9 <|
 m p94 t11 <|
 o p95 (.build z1 [(n0, n1, q8), (n1, n1, t94)]) <|
 a p96 n8 [t93, t95] <|
 m p92 t96 <|
 o p97 (.extract n0 t92) <|
 o p98 (.extract n1 t92) <|
 m p25 t97 <|
 m p26 t98 <|
 .done) <|
 .seq (.region <|
 m p100 t8 <|
 o p101 (.loadN n6 t20) <|
 o p102 (.bslice z3 n6 n1 [(n0, n6, t101)]) <|
 a p103 n9 [t100, t102] <|
 m p99 t103 <|
 o p104 (.extract n0 t99) <|
 o p105 (.extract n1 t99) <|
 o p106 (.extract n2 t99) <|
 o p27 (.alloc z3) <|
 e (.storeN n6 t27 t104) <|
 m p28 t105 <|
 m p29 t106 <|
 .done) <|
 .seq (.region <|
 m p108 t9 <|
 o p109 (.loadN n6 t17) <|
 o p110 (.bslice z3 n6 n1 [(n0, n6, t109)]) <|
 a p111 n9 [t108, t110] <|
 m p107 t111 <|
 o p112 (.extract n0 t107) <|
 o p113 (.extract n1 t107) <|
 o p114 (.extract n2 t107) <|
 o p30 (.alloc z3) <|
 e (.storeN n6 t30 t112) <|
 m p31 t113 <|
 m p32 t114 <|
 .done) <|
 .seq (.region <|
 m p115 t9 <|
 a p116 n10 [t115] <|
 m p33 t116 <|
 .done) <|
 .seq (.region <|
 m p118 t9 <|
 m p119 t11 <|
 o p120 (.build z1 [(n0, n1, q8), (n1, n1, t119)]) <|
 a p121 n8 [t118, t120] <|
 m p117 t121 <|
 o p122 (.extract n0 t117) <|
 o p123 (.extract n1 t117) <|
 m p34 t122 <|
 m p35 t123 <|
 .done) <|
 .seq (.region <|
 m p124 t12 <|
 o p125 (.cmp .eql t124 q1) <|
 m p126 t125 <|
 .step ⟨(some p127), (some (p126, true)), .op (.move t14)⟩ [] <|
 .step ⟨(some p128), (some (p126, true)), .op (.cmp .eql t127 q1)⟩ [] <|
 o p129 (.pick t126 t128 q0) <|
 m p130 t129 <|
 .step ⟨(some p131), (some (p130, true)), .op (.move t16)⟩ [] <|
 .step ⟨(some p132), (some (p130, true)), .op (.cmp .eql t131 q1)⟩ [] <|
 o p133 (.pick t130 t132 q0) <|
 m p134 t133 <|
 .step ⟨(some p135), (some (p134, true)), .op (.move t19)⟩ [] <|
 .step ⟨(some p136), (some (p134, true)), .op (.cmp .eql t135 q1)⟩ [] <|
 o p137 (.pick t134 t136 q0) <|
 m p138 t137 <|
 .step ⟨(some p139), (some (p138, true)), .op (.move t22)⟩ [] <|
 .step ⟨(some p140), (some (p138, true)), .op (.cmp .eql t139 q1)⟩ [] <|
 o p141 (.pick t138 t140 q0) <|
 m p142 t141 <|
 .step ⟨(some p143), (some (p142, true)), .op (.move t24)⟩ [] <|
 .step ⟨(some p144), (some (p142, true)), .op (.cmp .eql t143 q9)⟩ [] <|
 o p145 (.pick t142 t144 q0) <|
 m p146 t145 <|
 .step ⟨(some p147), (some (p146, true)), .op (.move t26)⟩ [] <|
 .step ⟨(some p148), (some (p146, true)), .op (.cmp .eql t147 q9)⟩ [] <|
 o p149 (.pick t146 t148 q0) <|
 m p150 t149 <|
 .step ⟨(some p151), (some (p150, true)), .op (.move t29)⟩ [] <|
 .step ⟨(some p152), (some (p150, true)), .op (.cmp .eql t151 q1)⟩ [] <|
 o p153 (.pick t150 t152 q0) <|
 m p154 t153 <|
 .step ⟨(some p155), (some (p154, true)), .op (.move t32)⟩ [] <|
 .step ⟨(some p156), (some (p154, true)), .op (.cmp .eql t155 q1)⟩ [] <|
 o p157 (.pick t154 t156 q0) <|
 m p158 t157 <|
 .step ⟨(some p159), (some (p158, true)), .op (.fieldA n2 t17)⟩ [] <|
 .step ⟨(some p160), (some (p158, true)), .op (.load1 t159)⟩ [] <|
 .step ⟨(some p161), (some (p158, true)), .op (.len t160)⟩ [] <|
 .step ⟨(some p162), (some (p158, true)), .op (.cmp .eql t161 q3)⟩ [] <|
 o p163 (.pick t158 t162 q0) <|
 m p164 t163 <|
 .step ⟨(some p165), (some (p164, true)), .op (.move t33)⟩ [] <|
 .step ⟨(some p166), (some (p164, true)), .op (.len t165)⟩ [] <|
 .step ⟨(some p167), (some (p164, true)), .op (.cmp .eql t166 q3)⟩ [] <|
 o p168 (.pick t164 t167 q0) <|
 m p169 t168 <|
 .step ⟨(some p170), (some (p169, true)), .op (.move t33)⟩ [] <|
 .step ⟨(some p171), (some (p169, true)), .op (.idxS n11 t170 q1)⟩ [] <|
 .step ⟨(some p172), (some (p169, true)), .op (.fieldA n0 t171)⟩ [] <|
 .step ⟨(some p173), (some (p169, true)), .op (.load1 t172)⟩ [] <|
 .step ⟨(some p174), (some (p169, true)), .op (.move t11)⟩ [] <|
 .step ⟨(some p175), (some (p169, true)), .op (.cmp .eql t173 t174)⟩ [] <|
 o p176 (.pick t169 t175 q0) <|
 m p177 t176 <|
 .step ⟨(some p178), (some (p177, true)), .op (.move t33)⟩ [] <|
 .step ⟨(some p179), (some (p177, true)), .op (.idxS n11 t178 q1)⟩ [] <|
 .step ⟨(some p180), (some (p177, true)), .op (.fieldA n1 t179)⟩ [] <|
 .step ⟨(some p181), (some (p177, true)), .op (.loadN n2 t180)⟩ [] <|
 .step ⟨(some p182), (some (p177, true)), .op (.loadN n2 t10)⟩ [] <|
 .step ⟨(some p183), (some (p177, true)), .op (.eqagg false k0 t181 t182)⟩ [] <|
 o p184 (.pick t177 t183 q0) <|
 m p185 t184 <|
 .step ⟨(some p186), (some (p185, true)), .op (.move t33)⟩ [] <|
 .step ⟨(some p187), (some (p185, true)), .op (.idxS n11 t186 q1)⟩ [] <|
 .step ⟨(some p188), (some (p185, true)), .op (.fieldA n3 t187)⟩ [] <|
 .step ⟨(some p189), (some (p185, true)), .op (.idxA n4 n2 t188 q1)⟩ [] <|
 .step ⟨(some p190), (some (p185, true)), .op (.fieldA n0 t189)⟩ [] <|
 .step ⟨(some p191), (some (p185, true)), .op (.load1 t190)⟩ [] <|
 .step ⟨(some p192), (some (p185, true)), .op (.move t3)⟩ [] <|
 .step ⟨(some p193), (some (p185, true)), .op (.conv .i64 t192)⟩ [] <|
 .step ⟨(some p194), (some (p185, true)), .op (.cmp .eql t191 t193)⟩ [] <|
 o p195 (.pick t185 t194 q0) <|
 m p196 t195 <|
 .step ⟨(some p197), (some (p196, true)), .op (.move t35)⟩ [] <|
 .step ⟨(some p198), (some (p196, true)), .op (.cmp .eql t197 q1)⟩ [] <|
 o p199 (.pick t196 t198 q0) <|
 m p7 t199 <|
 .done) <|
 .ret, [.tmp p7]⟩
theorem c3 : compFn Tryz.prog pl3 Tryz.f3 = some F3 := by kernel_rfl

def pl4 : Plans := []
def F4 : CFun := ⟨n101, .seq (.region <|
 m p7 q0 <|
 .done) <|
 .seq (.seq (.region <|
 a p20 n6 [] <|
 o p21 (.not t20) <|
 .done) <|
 .cond t21 (.seq (.region <|
 m p7 q0 <|
 .done) <|
 .ret) <|
 .skip) <|
 .seq (.region <|
 a p22 n7 [q1, q2] <|
 m p8 t22 <|
 .done) <|
 .seq (.region <|
 m p24 t8 <|
 o p25 (.build z0 [(n0, n1, q3)]) <|
 o p26 (.build z1 [(n0, n1, q3), (n4, n2, t25)]) <|
 a p27 n8 [t24, t26] <|
 m p23 t27 <|
 o p28 (.extract n0 t23) <|
 o p29 (.extract n1 t23) <|
 m p9 t28 <|
 m p10 t29 <|
 .done) <|
 .seq (.region <|
 m p30 t1 <|
 o p31 (.ar .rem t30 q4) <|
 o p32 (.conv .i64 t31) <|
 m p33 t2 <|
 o p34 (.ar .rem t33 q4) <|
 o p35 (.conv .i64 t34) <|
 o p36 (.build z0 [(n0, n1, t32), (n1, n1, t35)]) <|
 o p11 (.alloc z0) <|
 e (.storeN n2 t11 t36) <|
 .done) <|
 .seq (.seq (.region <|
 m p12 q1 <|
 .done) <|
 .block n0 <| .loop <| .seq (.seq (.region <|
 m p37 t12 <|
 m p38 t3 <|
 o p39 (.ar .rem t38 q10) <|
 o p40 (.conv .i64 t39) <|
 o p41 (.cmp .lss t37 t40) <|
 .done) <|
 .cond t41 (.skip) <|
 .exit n0) <|
 .seq (.block n1 <| .seq (.region <|
 m p45 t8 <|
 m p46 t9 <|
 m p47 t12 <|
 o p48 (.build z0 [(n0, n1, q11), (n1, n1, t47)]) <|
 o p49 (.build z1 [(n0, n1, q2), (n1, n1, t46), (n4, n2, t48)]) <|
 a p50 n8 [t45, t49] <|
 m p44 t50 <|
 o p51 (.extract n0 t44) <|
 o p52 (.extract n1 t44) <|
 m p13 t51 <|
 m p14 t52 <|
 .done) <|
 .seq (.region <|
 m p54 t8 <|
 m p55 t9 <|
 o p56 (.loadN n2 t11) <|
 o p57 (.build z1 [(n0, n1, q2), (n1, n1, t55), (n4, n2, t56)]) <|
 a p58 n8 [t54, t57] <|
 m p53 t58 <|
 o p59 (.extract n0 t53) <|
 o p60 (.extract n1 t53) <|
 m p15 t59 <|
 m p16 t60 <|
 .done) <|
 .seq (.region <|
 m p61 t14 <|
 o p62 (.cmp .neq t61 q1) <|
 m p63 t62 <|
 .step ⟨(some p64), (some (p63, false)), .op (.move t16)⟩ [] <|
 .step ⟨(some p65), (some (p63, false)), .op (.cmp .neq t64 q1)⟩ [] <|
 o p66 (.pick t63 q12 t65) <|
 .done) <|
 .cond t66 (.seq (.region <|
 m p7 q0 <|
 .done) <|
 .ret) <|
 .skip) <|
 .region <|
 m p42 t12 <|
 o p43 (.ar .add t42 q3) <|
 m p12 t43 <|
 .done) <|
 .seq (.region <|
 m p68 t8 <|
 a p69 n9 [t68, q7] <|
 m p67 t69 <|
 o p70 (.extract n0 t67) <|
 o p71 (.extract n1 t67) <|
 o p72 (.extract n2 t67) <|
 o p17 (.alloc z3) <|
 e (.storeN n6 t17 t70) <|
 m p18 t71 <|
 m p19 t72 <|
 .done) <|
 .seq (.region <|
 m p73 t10 <|
 o p74 (.cmp .eql t73 q1) <|
 m p75 t74 <|
 .step ⟨(some p76), (some (p75, true)), .op (.move t19)⟩ [] <|
 .step ⟨(some p77), (some (p75, true)), .op (.cmp .eql t76 q1)⟩ [] <|
 o p78 (.pick t75 t77 q0) <|
 m p79 t78 <|
 .step ⟨(some p80), (some (p79, true)), .op (.fieldA n2 t17)⟩ [] <|
 .step ⟨(some p81), (some (p79, true)), .op (.load1 t80)⟩ [] <|
 .step ⟨(some p82), (some (p79, true)), .op (.len t81)⟩ [] <|
 .step ⟨(some p83), (some (p79, true)), .op (.cmp .eql t82 q1)⟩ [] <|
 o p84 (.pick t79 t83 q0) <|
 m p85 t84 <|
 .step ⟨(some p86), (some (p85, true)), .op (.move t8)⟩ [] <|
 .step ⟨(some p87), (some (p85, true)), .call n10 [t86]⟩ [] <|
 .step ⟨(some p88), (some (p85, true)), .op (.len t87)⟩ [] <|
 .step ⟨(some p89), (some (p85, true)), .op (.cmp .eql t88 q3)⟩ [] <|
 o p90 (.pick t85 t89 q0) <|
 m p91 t90 <|
 .step ⟨(some p92), (some (p91, true)), .op (.move t8)⟩ [] <|
 .step ⟨(some p93), (some (p91, true)), .call n11 [t92]⟩ [] <|
 .step ⟨(some p94), (some (p91, true)), .op (.len t93)⟩ [] <|
 .step ⟨(some p95), (some (p91, true)), .op (.move t3)⟩ [] <|
 .step ⟨(some p96), (some (p91, true)), .op (.ar .rem t95 q10)⟩ [] <|
 .step ⟨(some p97), (some (p91, true)), .op (.conv .i64 t96)⟩ [] <|
 .step ⟨(some p98), (some (p91, true)), .op (.ar .mul q2 t97)⟩ [] <|
 .step ⟨(some p99), (some (p91, true)), .op (.ar .add q3 t98)⟩ [] <|
 .step ⟨(some p100), (some (p91, true)), .op (.cmp .eql t94 t99)⟩ [] <|
 o p101 (.pick t91 t100 q0) <|
 m p7 t101 <|
 .done) <|
 .ret, [.tmp p7]⟩
theorem c4 : compFn Tryz.prog pl4 Tryz.f4 = some F4 := by kernel_rfl

def pl6 : Plans := []
def F6 : CFun := ⟨n148, .seq (.region <|
 m p1 q0 <|
 .done) <|
 .seq (.region <|
 a p17 n7 [q1, q2] <|
 m p2 t17 <|
 .done) <|
 .seq (.seq (.region <|
 m p18 t2 <|
 o p19 (.eqnil false n0 t18 q13) <|
 m p20 t19 <|
 .step ⟨(some p21), (some (p20, false)), .op (.move t2)⟩ [] <|
 .step ⟨(some p22), (some (p20, false)), .call n14 [t21, q1]⟩ [] <|
 .step ⟨(some p23), (some (p20, false)), .op (.not t22)⟩ [] <|
 o p24 (.pick t20 q12 t23) <|
 m p25 t24 <|
 .step ⟨(some p26), (some (p25, false)), .op (.move t2)⟩ [] <|
 .step ⟨(some p27), (some (p25, false)), .call n14 [t26, q3]⟩ [] <|
 o p28 (.pick t25 q12 t27) <|
 .done) <|
 .cond t28 (.seq (.region <|
 m p1 q0 <|
 .done) <|
 .ret) <|
 .skip) <|
 .seq (.region <|
 m p30 t2 <|
 o p31 (.build z1 [(n0, n1, q3)]) <|
 a p32 n8 [t30, t31] <|
 m p29 t32 <|
 o p33 (.extract n0 t29) <|
 o p34 (.extract n1 t29) <|
 m p3 t33 <|
 m p4 t34 <|
 .done) <|
 .seq (.region <|
 m p36 t2 <|
 o p37 (.build z0 [(n0, n1, q5)]) <|
 o p38 (.build z1 [(n0, n1, q3), (n4, n2, t37)]) <|
 a p39 n8 [t36, t38] <|
 m p35 t39 <|
 o p40 (.extract n0 t35) <|
 o p41 (.extract n1 t35) <|
 m p5 t40 <|
 m p6 t41 <|
 .done) <|
 .seq (.region <|
 m p43 t2 <|
 m p44 t3 <|
 o p45 (.build z0 [(n0, n1, q5)]) <|
 o p46 (.build z1 [(n0, n1, q2), (n1, n1, t44), (n4, n2, t45)]) <|
 a p47 n8 [t43, t46] <|
 m p42 t47 <|
 o p48 (.extract n0 t42) <|
 o p49 (.extract n1 t42) <|
 m p7 t48 <|
 m p8 t49 <|
 .done) <|
 .seq (.region <|
 m p51 t2 <|
 o p52 (.build z3 [(n0, n1, q3)]) <|
 o p53 (.bslice z3 n6 n1 [(n0, n6, t52)]) <|
 a p54 n9 [t51, t53] <|
 m p50 t54 <|
 o p55 (.extract n0 t50) <|
 o p56 (.extract n1 t50) <|
 o p57 (.extract n2 t50) <|
 o p9 (.alloc z3) <|
 e (.storeN n6 t9 t55) <|
 m p10 t56 <|
 m p11 t57 <|
 .done) <|
 .seq (.region <|
 m p59 t2 <|
 a p60 n9 [t59, q7] <|
 m p58 t60 <|
 o p61 (.extract n0 t58) <|
 o p62 (.extract n1 t58) <|
 o p63 (.extract n2 t58) <|
 o p12 (.alloc z3) <|
 e (.storeN n6 t12 t61) <|
 m p13 t62 <|
 m p14 t63 <|
 .done) <|
 .seq (.region <|
 m p65 t2 <|
 a p66 n15 [t65] <|
 m p64 t66 <|
 o p67 (.extract n0 t64) <|
 o p68 (.extract n1 t64) <|
 o p15 (.alloc z3) <|
 e (.storeN n6 t15 t67) <|
 m p16 t68 <|
 .done) <|
 .seq (.region <|
 m p69 t4 <|
 o p70 (.cmp .eql t69 q1) <|
 m p71 t70 <|
 .step ⟨(some p72), (some (p71, true)), .op (.move t3)⟩ [] <|
 .step ⟨(some p73), (some (p71, true)), .op (.cmp .eql t72 q1)⟩ [] <|
 o p74 (.pick t71 t73 q0) <|
 m p75 t74 <|
 .step ⟨(some p76), (some (p75, true)), .op (.move t6)⟩ [] <|
 .step ⟨(some p77), (some (p75, true)), .op (.cmp .eql t76 q11)⟩ [] <|
 o p78 (.pick t75 t77 q0) <|
 m p79 t78 <|
 .step ⟨(some p80), (some (p79, true)), .op (.move t8)⟩ [] <|
 .step ⟨(some p81), (some (p79, true)), .op (.cmp .eql t80 q1)⟩ [] <|
 o p82 (.pick t79 t81 q0) <|
 m p83 t82 <|
 .step ⟨(some p84), (some (p83, true)), .op (.move t11)⟩ [] <|
 .step ⟨(some p85), (some (p83, true)), .op (.cmp .eql t84 q14)⟩ [] <|
 o p86 (.pick t83 t85 q0) <|
 m p87 t86 <|
 .step ⟨(some p88), (some (p87, true)), .op (.move t14)⟩ [] <|
 .step ⟨(some p89), (some (p87, true)), .op (.cmp .eql t88 q1)⟩ [] <|
 o p90 (.pick t87 t89 q0) <|
 m p91 t90 <|
 .step ⟨(some p92), (some (p91, true)), .op (.fieldA n2 t12)⟩ [] <|
 .step ⟨(some p93), (some (p91, true)), .op (.load1 t92)⟩ [] <|
 .step ⟨(some p94), (some (p91, true)), .op (.len t93)⟩ [] <|
 .step ⟨(some p95), (some (p91, true)), .op (.cmp .eql t94 q3)⟩ [] <|
 o p96 (.pick t91 t95 q0) <|
 m p97 t96 <|
 .step ⟨(some p98), (some (p97, true)), .op (.move t13)⟩ [] <|
 .step ⟨(some p99), (some (p97, true)), .op (.len t98)⟩ [] <|
 .step ⟨(some p100), (some (p97, true)), .op (.cmp .eql t99 q1)⟩ [] <|
 o p101 (.pick t97 t100 q0) <|
 m p102 t101 <|
 .step ⟨(some p103), (some (p102, true)), .op (.move t16)⟩ [] <|
 o p104 (.pick t102 t103 q0) <|
 m p105 t104 <|
 .step ⟨(some p106), (some (p105, true)), .op (.loadN n6 t12)⟩ [] <|
 .step ⟨(some p107), (some (p105, true)), .op (.loadN n6 t15)⟩ [] <|
 .step ⟨(some p108), (some (p105, true)), .call n16 [t106, t107]⟩ [] <|
 o p109 (.pick t105 t108 q0) <|
 m p110 t109 <|
 .step ⟨(some p111), (some (p110, true)), .op (.move t2)⟩ [] <|
 .step ⟨(some p112), (some (p110, true)), .call n13 [t111]⟩ [] <|
 .step ⟨(some p113), (some (p110, true)), .op (.cmp .eql t112 q3)⟩ [] <|
 o p114 (.pick t110 t113 q0) <|
 m p115 t114 <|
 .step ⟨(some p116), (some (p115, true)), .op (.move t2)⟩ [] <|
 .step ⟨(some p117), (some (p115, true)), .call n10 [t116]⟩ [] <|
 .step ⟨(some p118), (some (p115, true)), .op (.len t117)⟩ [] <|
 .step ⟨(some p119), (some (p115, true)), .op (.cmp .eql t118 q1)⟩ [] <|
 o p120 (.pick t115 t119 q0) <|
 m p121 t120 <|
 .step ⟨(some p122), (some (p121, true)), .op (.move t2)⟩ [] <|
 .step ⟨(some p123), (some (p121, true)), .call n11 [t122]⟩ [] <|
 .step ⟨(some p124), (some (p121, true)), .op (.len t123)⟩ [] <|
 .step ⟨(some p125), (some (p121, true)), .op (.cmp .eql t124 q2)⟩ [] <|
 o p126 (.pick t121 t125 q0) <|
 m p127 t126 <|
 .step ⟨(some p128), (some (p127, true)), .op (.move t2)⟩ [] <|
 .step ⟨(some p129), (some (p127, true)), .call n17 [t128]⟩ [] <|
 .step ⟨(some p130), (some (p127, true)), .op (.len t129)⟩ [] <|
 .step ⟨(some p131), (some (p127, true)), .op (.cmp .eql t130 q5)⟩ [] <|
 o p132 (.pick t127 t131 q0) <|
 m p133 t132 <|
 .step ⟨(some p134), (some (p133, true)), .op (.move t2)⟩ [] <|
 .step ⟨(some p135), (some (p133, true)), .call n18 [t134]⟩ [] <|
 .step ⟨(some p136), (some (p133, true)), .op (.cmp .eql t135 q1)⟩ [] <|
 o p137 (.pick t133 t136 q0) <|
 m p138 t137 <|
 .step ⟨(some p139), (some (p138, true)), .op (.move t2)⟩ [] <|
 .step ⟨(some p140), (some (p138, true)), .call n19 [t139]⟩ [] <|
 .step ⟨(some p141), (some (p138, true)), .op (.cmp .eql t140 q2)⟩ [] <|
 o p142 (.pick t138 t141 q0) <|
 m p143 t142 <|
 .step ⟨(some p144), (some (p143, true)), .op (.move t2)⟩ [] <|
 .step ⟨(some p145), (some (p143, true)), .call n12 [t144]⟩ [] <|
 .step ⟨(some p146), (some (p143, true)), .call n13 [t145]⟩ [] <|
 .step ⟨(some p147), (some (p143, true)), .op (.cmp .eql t146 q3)⟩ [] <|
 o p148 (.pick t143 t147 q0) <|
 m p1 t148 <|
 .done) <|
 .ret, [.tmp p1]⟩
theorem c6 : compFn Tryz.prog pl6 Tryz.f6 = some F6 := by kernel_rfl

def pl7 : Plans := []
def F7 : CFun := ⟨n23, .seq (.region <|
 m p5 q13 <|
 .done) <|
 .seq (.region <|
 m p7 t2 <|
 o p8 (.mx t7 q3) <|
 o p9 (.mn t8 q8) <|
 m p2 t9 <|
 .done) <|
 .seq (.region <|
 m p10 t2 <|
 a p11 n20 [t10] <|
 m p6 t11 <|
 .done) <|
 .seq (.region <|
 m p12 t1 <|
 o p13 (.mx t12 q1) <|
 m p14 t2 <|
 o p15 (.ar .sub t14 q3) <|
 o p16 (.mn t13 t15) <|
 m p17 t2 <|
 o p18 (.build z4 [(n0, n1, t16), (n1, n1, t17)]) <|
 a p19 n21 [] <|
 m p20 t6 <|
 a p21 n22 [] <|
 o p22 (.build z5 [(n0, n45, t18), (n45, n1, t19), (n46, n1, t20), (n47, n1, t21)]) <|
 o p23 (.box t22) <|
 m p5 t23 <|
 .done) <|
 .ret, [.tmp p5]⟩
theorem c7 : compFn Tryz.prog pl7 Tryz.f7 = some F7 := by kernel_rfl

def pl8 : Plans := [(14, [K [] [0] 50, K [] [0] 51, K [1] [51] 52, K [2] [52] 53, K [3] [53] 54, K [4] [54] 55, K [] [0] 56, K [6] [56] 57, K [7] [57] 58, K [8] [58] 59, K [9] [59] 60, K [] [0] 61, K [11] [61] 62, K [12] [62] 63, K [13] [63] 64, K [14] [64] 65, K [] [6] 66, K [] [3] 67, K [10, 15, 16, 17] [60, 65, 66, 67] 68, K [18] [68] 69, K [5, 19] [55, 69] 70, K (0 :: (r 0 21 [])) [50] 71, K (21 :: (r 0 21 [])) [71] 72, K (22 :: (r 0 21 [])) [72] 73, J (23 :: 20 :: 20 :: (r 0 21 [])) [73, 70]], [Q 0 1 [21, 22, 23, 24], Q 1 1 (2 :: 3 :: 4 :: 5 :: (r 20 5 [])), Q 2 1 (3 :: 4 :: 5 :: (r 20 5 [])), Q 3 1 (4 :: 5 :: (r 20 5 [])), Q 4 1 (5 :: (r 20 5 [])), Q 5 2 (r 20 5 []), Q 6 1 (7 :: 8 :: 9 :: 10 :: (r 18 7 [])), Q 7 1 (8 :: 9 :: 10 :: (r 18 7 [])), Q 8 1 (9 :: 10 :: (r 18 7 [])), Q 9 1 (10 :: (r 18 7 [])), Q 10 2 (r 18 7 []), Q 11 1 (12 :: 13 :: 14 :: 15 :: (r 18 7 [])), Q 12 1 (13 :: 14 :: 15 :: (r 18 7 [])), Q 13 1 (14 :: 15 :: (r 18 7 [])), Q 14 1 (15 :: (r 18 7 [])), Q 15 2 (r 18 7 []), Q 16 1 (r 18 7 []), Q 17 2 (r 18 7 []), Q 18 1 (r 19 6 []), Q 19 0 [], Q 20 0 [], Q 21 1 [22, 23, 24], Q 22 1 [23, 24], Q 23 1 [24], Q 24 0 []], .node (Q 0 1 [21, 22, 23, 24]) <| .node (Q 1 1 (2 :: 3 :: 4 :: 5 :: (r 20 5 []))) <| .node (Q 2 1 (3 :: 4 :: 5 :: (r 20 5 []))) <| .node (Q 3 1 (4 :: 5 :: (r 20 5 []))) <| .node (Q 4 1 (5 :: (r 20 5 []))) <| .node (Q 5 2 (r 20 5 [])) <| .node (Q 6 1 (7 :: 8 :: 9 :: 10 :: (r 18 7 []))) <| .node (Q 7 1 (8 :: 9 :: 10 :: (r 18 7 []))) <| .node (Q 8 1 (9 :: 10 :: (r 18 7 []))) <| .node (Q 9 1 (10 :: (r 18 7 []))) <| .node (Q 10 2 (r 18 7 [])) <| .node (Q 11 1 (12 :: 13 :: 14 :: 15 :: (r 18 7 []))) <| .node (Q 12 1 (13 :: 14 :: 15 :: (r 18 7 []))) <| .node (Q 13 1 (14 :: 15 :: (r 18 7 []))) <| .node (Q 14 1 (15 :: (r 18 7 []))) <| .node (Q 15 2 (r 18 7 [])) <| .node (Q 16 1 (r 18 7 [])) <| .node (Q 17 2 (r 18 7 [])) <| .node (Q 18 1 (r 19 6 [])) <| .node (Q 19 0 []) <| .node (Q 20 0 []) <| .node (Q 21 1 [22, 23, 24]) <| .node (Q 22 1 [23, 24]) <| .node (Q 23 1 [24]) <| .node (Q 24 0 []) <| .done)]
def F8 : CFun := ⟨n75, .seq (.region <|
 o p4 (.box t2) <|
 m p5 q1 <|
 m p6 q1 <|
 .done) <|
 .seq (.block n0 <| .seq (.region <|
 o p10 (.loadN n22 t4) <|
 a p11 n23 [t10] <|
 o p12 (.not t11) <|
 m p9 t12 <|
 .done) <|
 .cond t9 (.seq (.region <|
 m p5 q1 <|
 m p6 q15 <|
 .done) <|
 .ret) <|
 .seq (.region <|
 m p14 t1 <|
 o p15 (.nilchk t14) <|
 o p16 (.fieldA n0 t15) <|
 o p17 (.fieldA n37 t16) <|
 o p18 (.load1 t17) <|
 o p19 (.cmp .geq t18 q16) <|
 m p13 t19 <|
 .done) <|
 .cond t13 (.seq (.region <|
 m p5 q1 <|
 m p6 q5 <|
 .done) <|
 .ret) <|
 .skip) <|
 .seq (.region <|
 m p7 q1 <|
 m p8 q1 <|
 .done) <|
 .seq (.block n1 <| .seq (.region <|
 o p27 (.loadN n22 t4) <|
 a p28 n24 [t27] <|
 m p26 t28 <|
 .done) <|
 .cond t26 (.region <|
 m p29 t1 <|
 o p30 (.loadN n22 t4) <|
 a p31 n25 [t29, t30] <|
 m p8 t31 <|
 .done) <|
 .seq (.region <|
 o p33 (.fieldA n0 t4) <|
 o p34 (.load1 t33) <|
 o p35 (.cmp .eql t34 q17) <|
 m p32 t35 <|
 .done) <|
 .cond t32 (.region <|
 m p36 t1 <|
 o p37 (.loadN n22 t4) <|
 a p38 n26 [t36, t37] <|
 m p8 t38 <|
 .done) <|
 .region <|
 m p21 t1 <|
 o p22 (.loadN n22 t4) <|
 a p23 n27 [t21, t22] <|
 m p20 t23 <|
 o p24 (.extract n0 t20) <|
 o p25 (.extract n1 t20) <|
 m p7 t24 <|
 m p8 t25 <|
 .done) <|
 .seq (.seq (.region <|
 m p39 t8 <|
 o p40 (.cmp .neq t39 q1) <|
 .done) <|
 .cond t40 (.seq (.region <|
 m p41 t8 <|
 m p5 q1 <|
 m p6 t41 <|
 .done) <|
 .ret) <|
 .skip) <|
 .seq (.region <|
 m p42 t1 <|
 o p43 (.nilchk t42) <|
 o p44 (.fieldA n0 t43) <|
 o p45 (.fieldA n37 t44) <|
 o p46 (.load1 t45) <|
 o p47 (.ar .add t46 q3) <|
 o p48 (.nilchk t42) <|
 o p49 (.fieldA n0 t48) <|
 o p50 (.fieldA n37 t49) <|
 e (.store1 t50 t47) <|
 .done) <|
 .seq (.region <|
 m p51 t1 <|
 m p52 t1 <|
 o p53 (.nilchk t52) <|
 o p54 (.fieldA n0 t53) <|
 o p55 (.fieldA n38 t54) <|
 o p56 (.load1 t55) <|
 m p57 t1 <|
 o p58 (.nilchk t57) <|
 o p59 (.fieldA n0 t58) <|
 o p60 (.fieldA n2 t59) <|
 o p61 (.load1 t60) <|
 m p62 t1 <|
 o p63 (.nilchk t62) <|
 o p64 (.fieldA n0 t63) <|
 o p65 (.fieldA n0 t64) <|
 o p66 (.load1 t65) <|
 m p67 t7 <|
 o p68 (.loadN n22 t4) <|
 o p69 (.build z6 [(n0, n1, t61), (n1, n1, t66), (n2, n1, t67), (n3, n22, t68)]) <|
 .step ⟨(some p70), none, .op (.bslice z6 n25 n1 [(n0, n25, t69)])⟩ [⟨(some p56), none, .op (.load1 t55)⟩] <|
 o p71 (.append n240 n25 t56 t70) <|
 o p72 (.nilchk t51) <|
 o p73 (.fieldA n0 t72) <|
 o p74 (.fieldA n38 t73) <|
 e (.store1 t74 t71) <|
 .done) <|
 .seq (.region <|
 m p75 t7 <|
 m p5 t75 <|
 m p6 q1 <|
 .done) <|
 .ret, [.tmp p5, .tmp p6]⟩
theorem c8 : compFn Tryz.prog pl8 Tryz.f8 = some F8 := by kernel_rfl

def pl9 : Plans := [(35, [K [] [0] 123, K [] [9] 124, K [] [18] 125, K [2] [125] 126, K [0, 1, 3, 3] [123, 124, 126] 127, K (4 :: 4 :: (r 0 5 [])) [127] 23], [Q 0 1 [4, 5], Q 1 2 [4, 5], Q 2 1 [3, 4, 5], Q 3 0 [], Q 4 0 [], Q 5 1 []], .node (Q 0 1 [4, 5]) <| .node (Q 1 2 [4, 5]) <| .node (Q 2 1 [3, 4, 5]) <| .node (Q 3 0 []) <| .node (Q 4 0 []) <| .node (Q 5 1 []) <| .done),
  (33, [K [] [0] 116, K [0] [116] 117, K [1] [117] 118, K [2] [118] 119, K [] [22] 120, K [3, 4] [119, 120] 121], [Q 0 1 [1, 2, 3, 5], Q 1 1 [2, 3, 5], Q 2 1 [3, 5], Q 3 2 [5], Q 4 2 [5], Q 5 0 []], .node (Q 0 1 [1, 2, 3, 5]) <| .node (Q 1 1 [2, 3, 5]) <| .node (Q 2 1 [3, 5]) <| .node (Q 3 2 [5]) <| .node (Q 4 2 [5]) <| .node (Q 5 0 []) <| .done),
  (20, [K [] [0] 77, K [0] [77] 78, K [1] [78] 79, K [2] [79] 80, K [] [17] 81, K [4] [81] 82, K [] [15] 83, K [6] [83] 84, K [] [17] 85, K [8] [85] 86, K [3, 5, 7, 9] [80, 82, 84, 86] 87], [Q 0 1 [1, 2, 3, 10], Q 1 1 [2, 3, 10], Q 2 1 [3, 10], Q 3 2 [10], Q 4 1 [5, 10], Q 5 2 [10], Q 6 1 [7, 10], Q 7 2 [10], Q 8 1 [9, 10], Q 9 2 [10], Q 10 0 []], .node (Q 0 1 [1, 2, 3, 10]) <| .node (Q 1 1 [2, 3, 10]) <| .node (Q 2 1 [3, 10]) <| .node (Q 3 2 [10]) <| .node (Q 4 1 [5, 10]) <| .node (Q 5 2 [10]) <| .node (Q 6 1 [7, 10]) <| .node (Q 7 2 [10]) <| .node (Q 8 1 [9, 10]) <| .node (Q 9 2 [10]) <| .node (Q 10 0 []) <| .done),
  (11, [K [] [0] 51, K [0] [51] 52, K [1] [52] 53, K [2] [53] 54, K [] [13] 55, K [] [0] 56, K [5] [56] 57, K [6] [57] 58, K [7] [58] 59, K [8] [59] 60, K [3, 4, 9] [54, 55, 60] 61], [Q 0 1 [1, 2, 3, 10], Q 1 1 [2, 3, 10], Q 2 1 [3, 10], Q 3 2 [10], Q 4 2 [10], Q 5 1 (r 6 5 []), Q 6 1 [7, 8, 9, 10], Q 7 1 [8, 9, 10], Q 8 1 [9, 10], Q 9 2 [10], Q 10 0 []], .node (Q 0 1 [1, 2, 3, 10]) <| .node (Q 1 1 [2, 3, 10]) <| .node (Q 2 1 [3, 10]) <| .node (Q 3 2 [10]) <| .node (Q 4 2 [10]) <| .node (Q 5 1 (r 6 5 [])) <| .node (Q 6 1 [7, 8, 9, 10]) <| .node (Q 7 1 [8, 9, 10]) <| .node (Q 8 1 [9, 10]) <| .node (Q 9 2 [10]) <| .node (Q 10 0 []) <| .done)]
def F9 : CFun := ⟨n132, .seq (.region <|
 o p5 (.alloc z3) <|
 m p6 q7 <|
 m p7 q1 <|
 .done) <|
 .seq (.region <|
 m p26 t1 <|
 m p27 t2 <|
 a p28 n28 [t26, t27] <|
 m p25 t28 <|
 o p29 (.extract n0 t25) <|
 o p30 (.extract n1 t25) <|
 m p8 t29 <|
 m p9 t30 <|
 .done) <|
 .seq (.seq (.region <|
 m p31 t9 <|
 o p32 (.not t31) <|
 .done) <|
 .cond t32 (.seq (.region <|
 o p33 (.build z3 []) <|
 e (.storeN n6 t5 t33) <|
 m p6 q7 <|
 m p7 q14 <|
 .done) <|
 .ret) <|
 .skip) <|
 .seq (.region <|
 m p34 t1 <|
 o p35 (.nilchk t34) <|
 o p36 (.fieldA n47 t35) <|
 o p37 (.load1 t36) <|
 a p38 n29 [t37] <|
 o p10 (.alloc z7) <|
 e (.storeN n28 t10 t38) <|
 .done) <|
 .seq (.seq (.region <|
 m p39 t8 <|
 o p40 (.len t39) <|
 m p41 q1 <|
 .done) <|
 .block n0 <| .loop <| .seq (.region <|
 o p42 (.cmp .lss t41 t40) <|
 .done) <|
 .seq (.cond t42 (.skip) <|
 .exit n0) <|
 .seq (.block n1 <| .seq (.region <|
 o p43 (.idxS n6 t39 t41) <|
 o p44 (.loadN n6 t43) <|
 o p12 (.alloc z3) <|
 e (.storeN n6 t12 t44) <|
 .done) <|
 .seq (.region <|
 o p45 (.fieldA n5 t12) <|
 o p46 (.load1 t45) <|
 o p47 (.len t46) <|
 m p48 q1 <|
 .done) <|
 .block n2 <| .loop <| .seq (.region <|
 o p49 (.cmp .lss t48 t47) <|
 .done) <|
 .seq (.cond t49 (.skip) <|
 .exit n2) <|
 .seq (.block n3 <| .seq (.region <|
 o p50 (.idxS n22 t46 t48) <|
 o p51 (.loadN n22 t50) <|
 o p14 (.alloc z1) <|
 e (.storeN n22 t14 t51) <|
 .done) <|
 .region <|
 m p52 t1 <|
 o p53 (.nilchk t52) <|
 o p54 (.fieldA n47 t53) <|
 o p55 (.load1 t54) <|
 o p56 (.loadN n22 t14) <|
 m p57 t1 <|
 o p58 (.nilchk t57) <|
 o p59 (.fieldA n0 t58) <|
 o p60 (.fieldA n2 t59) <|
 o p61 (.load1 t60) <|
 a p62 n30 [t55, t56, t61] <|
 .done) <|
 .region <|
 o p63 (.ar .add t48 q3) <|
 m p48 t63 <|
 .done) <|
 .region <|
 o p64 (.ar .add t41 q3) <|
 m p41 t64 <|
 .done) <|
 .seq (.seq (.region <|
 m p65 t8 <|
 o p66 (.len t65) <|
 m p67 q1 <|
 .done) <|
 .block n4 <| .loop <| .seq (.region <|
 o p68 (.cmp .lss t67 t66) <|
 .done) <|
 .seq (.cond t68 (.skip) <|
 .exit n4) <|
 .seq (.block n5 <| .seq (.region <|
 o p69 (.idxS n6 t65 t67) <|
 o p70 (.loadN n6 t69) <|
 o p16 (.alloc z3) <|
 e (.storeN n6 t16 t70) <|
 .done) <|
 .seq (.region <|
 o p71 (.fieldA n3 t16) <|
 o p72 (.load1 t71) <|
 o p73 (.len t72) <|
 m p74 q1 <|
 .done) <|
 .block n6 <| .loop <| .seq (.region <|
 o p75 (.cmp .lss t74 t73) <|
 .done) <|
 .seq (.cond t75 (.skip) <|
 .exit n6) <|
 .seq (.block n7 <| .seq (.region <|
 o p76 (.idxS n2 t72 t74) <|
 o p77 (.loadN n2 t76) <|
 o p18 (.alloc z0) <|
 e (.storeN n2 t18 t77) <|
 .done) <|
 .region <|
 m p78 t1 <|
 o p79 (.nilchk t78) <|
 o p80 (.fieldA n46 t79) <|
 o p81 (.load1 t80) <|
 o p82 (.fieldA n0 t18) <|
 o p83 (.load1 t82) <|
 o p84 (.fieldA n0 t16) <|
 o p85 (.load1 t84) <|
 o p86 (.fieldA n1 t18) <|
 o p87 (.load1 t86) <|
 a p88 n31 [t81, t83, t85, t87] <|
 .done) <|
 .region <|
 o p89 (.ar .add t74 q3) <|
 m p74 t89 <|
 .done) <|
 .region <|
 o p90 (.ar .add t67 q3) <|
 m p67 t90 <|
 .done) <|
 .seq (.region <|
 a p91 n21 [] <|
 m p19 t91 <|
 .done) <|
 .seq (.seq (.region <|
 m p92 t1 <|
 o p93 (.nilchk t92) <|
 o p94 (.fieldA n0 t93) <|
 o p95 (.fieldA n4 t94) <|
 o p96 (.load1 t95) <|
 o p97 (.len t96) <|
 m p98 q1 <|
 .done) <|
 .block n8 <| .loop <| .seq (.region <|
 o p99 (.cmp .lss t98 t97) <|
 .done) <|
 .seq (.cond t99 (.skip) <|
 .exit n8) <|
 .seq (.block n9 <| .seq (.region <|
 o p100 (.idxS n11 t96 t98) <|
 o p101 (.loadN n11 t100) <|
 o p21 (.alloc z8) <|
 e (.storeN n11 t21 t101) <|
 .done) <|
 .region <|
 m p102 t19 <|
 o p103 (.loadN n11 t21) <|
 a p104 n32 [t102, t103] <|
 .done) <|
 .region <|
 o p105 (.ar .add t98 q3) <|
 m p98 t105 <|
 .done) <|
 .seq (.seq (.region <|
 m p106 t1 <|
 m p107 t8 <|
 a p108 n33 [t106, t107] <|
 o p109 (.len t108) <|
 m p110 q1 <|
 .done) <|
 .block n10 <| .loop <| .seq (.region <|
 o p111 (.cmp .lss t110 t109) <|
 .done) <|
 .seq (.cond t111 (.skip) <|
 .exit n10) <|
 .seq (.block n11 <| .seq (.region <|
 o p112 (.idxS n11 t108 t110) <|
 o p113 (.loadN n11 t112) <|
 o p23 (.alloc z8) <|
 e (.storeN n11 t23 t113) <|
 .done) <|
 .seq (.region <|
 m p114 t19 <|
 o p115 (.loadN n11 t23) <|
 a p116 n32 [t114, t115] <|
 .done) <|
 .region <|
 m p117 t1 <|
 o p118 (.nilchk t117) <|
 o p119 (.fieldA n45 t118) <|
 o p120 (.load1 t119) <|
 o p121 (.loadN n11 t23) <|
 a p122 n32 [t120, t121] <|
 .done) <|
 .region <|
 o p123 (.ar .add t110 q3) <|
 m p110 t123 <|
 .done) <|
 .seq (.region <|
 m p124 t1 <|
 o p125 (.loadN n28 t10) <|
 m p126 t19 <|
 .step ⟨(some p127), none, .call n35 [t126]⟩ [⟨(some p125), none, .op (.loadN n28 t10)⟩] <|
 a p128 n34 [t124, t125, t127] <|
 m p24 t128 <|
 .done) <|
 .seq (.region <|
 m p129 t1 <|
 a p130 n37 [t129] <|
 a p131 n36 [t130] <|
 m p132 t24 <|
 e (.storeN n6 t5 t131) <|
 m p6 t132 <|
 m p7 q1 <|
 .done) <|
 .ret, [.cellN n6 p5, .tmp p6, .tmp p7]⟩
theorem c9 : compFn Tryz.prog pl9 Tryz.f9 = some F9 := by kernel_rfl

def pl10 : Plans := []
def F10 : CFun := ⟨n8, .seq (.region <|
 m p3 q7 <|
 .done) <|
 .seq (.region <|
 m p4 t1 <|
 o p5 (.nilchk t4) <|
 o p6 (.fieldA n45 t5) <|
 o p7 (.load1 t6) <|
 a p8 n35 [t7] <|
 m p3 t8 <|
 .done) <|
 .ret, [.tmp p3]⟩
theorem c10 : compFn Tryz.prog pl10 Tryz.f10 = some F10 := by kernel_rfl

def pl11 : Plans := []
def F11 : CFun := ⟨n9, .seq (.region <|
 m p3 q7 <|
 .done) <|
 .seq (.region <|
 m p4 t1 <|
 o p5 (.nilchk t4) <|
 o p6 (.fieldA n0 t5) <|
 o p7 (.fieldA n38 t6) <|
 o p8 (.load1 t7) <|
 a p9 n38 [t8] <|
 m p3 t9 <|
 .done) <|
 .ret, [.tmp p3]⟩
theorem c11 : compFn Tryz.prog pl11 Tryz.f11 = some F11 := by kernel_rfl

def pl12 : Plans := []
def F12 : CFun := ⟨n12, .seq (.region <|
 m p3 q13 <|
 .done) <|
 .seq (.region <|
 m p7 t1 <|
 a p8 n40 [t7] <|
 a p9 n39 [t8] <|
 m p6 t9 <|
 o p10 (.extract n0 t6) <|
 o p11 (.extract n1 t6) <|
 m p4 t10 <|
 m p5 t11 <|
 .done) <|
 .seq (.region <|
 m p12 t4 <|
 m p3 t12 <|
 .done) <|
 .ret, [.tmp p3]⟩
theorem c12 : compFn Tryz.prog pl12 Tryz.f12 = some F12 := by kernel_rfl

def pl13 : Plans := []
def F13 : CFun := ⟨n8, .seq (.region <|
 m p3 q1 <|
 .done) <|
 .seq (.region <|
 m p4 t1 <|
 o p5 (.nilchk t4) <|
 o p6 (.fieldA n0 t5) <|
 o p7 (.fieldA n2 t6) <|
 o p8 (.load1 t7) <|
 m p3 t8 <|
 .done) <|
 .ret, [.tmp p3]⟩
theorem c13 : compFn Tryz.prog pl13 Tryz.f13 = some F13 := by kernel_rfl

def pl14 : Plans := []
def F14 : CFun := ⟨n29, .seq (.region <|
 m p5 q0 <|
 .done) <|
 .seq (.region <|
 m p6 t1 <|
 m p7 t2 <|
 a p8 n41 [t6, t7] <|
 m p9 t8 <|
 .step ⟨(some p10), (some (p9, true)), .op (.move t1)⟩ [] <|
 .step ⟨(some p11), (some (p9, true)), .op (.nilchk t10)⟩ [] <|
 .step ⟨(some p12), (some (p9, true)), .op (.fieldA n0 t11)⟩ [] <|
 .step ⟨(some p13), (some (p9, true)), .op (.fieldA n36 t12)⟩ [] <|
 .step ⟨(some p14), (some (p9, true)), .op (.load1 t13)⟩ [] <|
 .step ⟨(some p15), (some (p9, true)), .op (.move t2)⟩ [] <|
 .step ⟨(some p16), (some (p9, true)), .call n42 [t14, t15]⟩ [] <|
 .step ⟨(some p17), (some (p9, true)), .op (.not t16)⟩ [] <|
 o p18 (.pick t9 t17 q0) <|
 m p19 t18 <|
 .step ⟨(some p20), (some (p19, true)), .op (.move t1)⟩ [] <|
 .step ⟨(some p21), (some (p19, true)), .op (.nilchk t20)⟩ [] <|
 .step ⟨(some p22), (some (p19, true)), .op (.fieldA n0 t21)⟩ [] <|
 .step ⟨(some p23), (some (p19, true)), .op (.fieldA n39 t22)⟩ [] <|
 .step ⟨(some p24), (some (p19, true)), .op (.fieldA n3 t23)⟩ [] <|
 .step ⟨(some p25), (some (p19, true)), .op (.load1 t24)⟩ [] <|
 .step ⟨(some p26), (some (p19, true)), .op (.move t2)⟩ [] <|
 .step ⟨(some p27), (some (p19, true)), .call n42 [t25, t26]⟩ [] <|
 .step ⟨(some p28), (some (p19, true)), .op (.not t27)⟩ [] <|
 o p29 (.pick t19 t28 q0) <|
 m p5 t29 <|
 .done) <|
 .ret, [.tmp p5]⟩
theorem c14 : compFn Tryz.prog pl14 Tryz.f14 = some F14 := by kernel_rfl

def pl15 : Plans := [(1, [K [] [0] 4, K [0] [4] 5, K [1] [5] 6, K [2] [6] 7, K [3] [7] 8, K [4] [8] 9, K [] [0] 10, K [6] [10] 11, K [7] [11] 12, K [8] [12] 13, K [9] [13] 14, K [10] [14] 15, J (5 :: 5 :: (r 0 6 [])) [2, 9], K (11 :: 12 :: (r 0 13 [])) [15] 3], [Q 0 1 (r 1 5 [12, 13]), Q 1 1 [2, 3, 4, 5, 12, 13], Q 2 1 [3, 4, 5, 12, 13], Q 3 1 [4, 5, 12, 13], Q 4 2 [5, 12, 13], Q 5 0 [], Q 6 1 (r 7 5 [13]), Q 7 1 [8, 9, 10, 11, 13], Q 8 1 [9, 10, 11, 13], Q 9 1 [10, 11, 13], Q 10 2 [11, 13], Q 11 1 [13], Q 12 0 [], Q 13 1 []], .node (Q 0 1 (r 1 5 [12, 13])) <| .node (Q 1 1 [2, 3, 4, 5, 12, 13]) <| .node (Q 2 1 [3, 4, 5, 12, 13]) <| .node (Q 3 1 [4, 5, 12, 13]) <| .node (Q 4 2 [5, 12, 13]) <| .node (Q 6 1 (r 7 5 [13])) <| .node (Q 7 1 [8, 9, 10, 11, 13]) <| .node (Q 8 1 [9, 10, 11, 13]) <| .node (Q 9 1 [10, 11, 13]) <| .node (Q 10 2 [11, 13]) <| .node (Q 11 1 [13]) <| .node (Q 5 0 []) <| .node (Q 12 0 []) <| .node (Q 13 1 []) <| .done)]
def F15 : CFun := ⟨n16, .seq (.region <|
 o p3 (.alloc z3) <|
 m p4 q0 <|
 .done) <|
 .seq (.region <|
 m p5 t1 <|
 o p6 (.nilchk t5) <|
 o p7 (.fieldA n0 t6) <|
 o p8 (.fieldA n39 t7) <|
 o p9 (.loadN n6 t8) <|
 m p11 t1 <|
 o p12 (.nilchk t11) <|
 o p13 (.fieldA n0 t12) <|
 o p14 (.fieldA n2 t13) <|
 o p15 (.load1 t14) <|
 o p16 (.cmp .gtr t15 q1) <|
 .step ⟨(some p10), none, .call n36 [t9]⟩ [⟨(some p15), none, .op (.load1 t14)⟩] <|
 .step ⟨none, none, .op (.storeN n6 t3 t10)⟩ [⟨(some p15), none, .op (.load1 t14)⟩] <|
 m p4 t16 <|
 .done) <|
 .ret, [.cellN n6 p3, .tmp p4]⟩
theorem c15 : compFn Tryz.prog pl15 Tryz.f15 = some F15 := by kernel_rfl

def pl16 : Plans := [(11, [K [] [2] 78, K [0] [78] 79, K [] [6] 80, K [1, 2] [79, 80] 81, K [3] [81] 82, K [] [3] 83, K [5] [83] 84, K [] [6] 85, K [6, 7] [84, 85] 86, K [8] [86] 87, K [4, 9] [82, 87] 88], [Q 0 1 [1, 3, 4, 10], Q 1 2 [3, 4, 10], Q 2 1 [3, 4, 10], Q 3 1 [4, 10], Q 4 2 [10], Q 5 1 [6, 8, 9, 10], Q 6 2 [8, 9, 10], Q 7 1 [8, 9, 10], Q 8 1 [9, 10], Q 9 2 [10], Q 10 1 []], .node (Q 0 1 [1, 3, 4, 10]) <| .node (Q 1 2 [3, 4, 10]) <| .node (Q 2 1 [3, 4, 10]) <| .node (Q 3 1 [4, 10]) <| .node (Q 4 2 [10]) <| .node (Q 5 1 [6, 8, 9, 10]) <| .node (Q 6 2 [8, 9, 10]) <| .node (Q 7 1 [8, 9, 10]) <| .node (Q 8 1 [9, 10]) <| .node (Q 9 2 [10]) <| .node (Q 10 1 []) <| .done),
  (6, [K [] [2] 60, K [0] [60] 61, K [] [5] 62, K [1, 2] [61, 62] 63, K [3] [63] 64, K [] [3] 65, K [5] [65] 66, K [] [5] 67, K [6, 7] [66, 67] 68, K [8] [68] 69, K [4, 9] [64, 69] 70], [Q 0 1 [1, 3, 4, 10], Q 1 2 [3, 4, 10], Q 2 1 [3, 4, 10], Q 3 1 [4, 10], Q 4 2 [10], Q 5 1 [6, 8, 9, 10], Q 6 2 [8, 9, 10], Q 7 1 [8, 9, 10], Q 8 1 [9, 10], Q 9 2 [10], Q 10 1 []], .node (Q 0 1 [1, 3, 4, 10]) <| .node (Q 1 2 [3, 4, 10]) <| .node (Q 2 1 [3, 4, 10]) <| .node (Q 3 1 [4, 10]) <| .node (Q 4 2 [10]) <| .node (Q 5 1 [6, 8, 9, 10]) <| .node (Q 6 2 [8, 9, 10]) <| .node (Q 7 1 [8, 9, 10]) <| .node (Q 8 1 [9, 10]) <| .node (Q 9 2 [10]) <| .node (Q 10 1 []) <| .done)]
def F16 : CFun := ⟨n89, .seq (.region <|
 o p3 (.box t1) <|
 o p4 (.box t2) <|
 m p5 q0 <|
 .done) <|
 .seq (.seq (.region <|
 o p8 (.fieldA n0 t3) <|
 o p9 (.load1 t8) <|
 o p10 (.fieldA n0 t4) <|
 o p11 (.load1 t10) <|
 o p12 (.cmp .neq t9 t11) <|
 m p13 t12 <|
 .step ⟨(some p14), (some (p13, false)), .op (.fieldA n1 t3)⟩ [] <|
 .step ⟨(some p15), (some (p13, false)), .op (.load1 t14)⟩ [] <|
 .step ⟨(some p16), (some (p13, false)), .op (.fieldA n1 t4)⟩ [] <|
 .step ⟨(some p17), (some (p13, false)), .op (.load1 t16)⟩ [] <|
 .step ⟨(some p18), (some (p13, false)), .op (.cmp .neq t15 t17)⟩ [] <|
 o p19 (.pick t13 q12 t18) <|
 m p20 t19 <|
 .step ⟨(some p21), (some (p20, false)), .op (.fieldA n2 t3)⟩ [] <|
 .step ⟨(some p22), (some (p20, false)), .op (.load1 t21)⟩ [] <|
 .step ⟨(some p23), (some (p20, false)), .op (.fieldA n2 t4)⟩ [] <|
 .step ⟨(some p24), (some (p20, false)), .op (.load1 t23)⟩ [] <|
 .step ⟨(some p25), (some (p20, false)), .call n43 [t22, t24]⟩ [] <|
 .step ⟨(some p26), (some (p20, false)), .op (.not t25)⟩ [] <|
 o p27 (.pick t20 q12 t26) <|
 m p28 t27 <|
 .step ⟨(some p29), (some (p28, false)), .op (.fieldA n4 t3)⟩ [] <|
 .step ⟨(some p30), (some (p28, false)), .op (.load1 t29)⟩ [] <|
 .step ⟨(some p31), (some (p28, false)), .op (.fieldA n4 t4)⟩ [] <|
 .step ⟨(some p32), (some (p28, false)), .op (.load1 t31)⟩ [] <|
 .step ⟨(some p33), (some (p28, false)), .call n43 [t30, t32]⟩ [] <|
 .step ⟨(some p34), (some (p28, false)), .op (.not t33)⟩ [] <|
 o p35 (.pick t28 q12 t34) <|
 m p36 t35 <|
 .step ⟨(some p37), (some (p36, false)), .op (.fieldA n3 t3)⟩ [] <|
 .step ⟨(some p38), (some (p36, false)), .op (.load1 t37)⟩ [] <|
 .step ⟨(some p39), (some (p36, false)), .op (.len t38)⟩ [] <|
 .step ⟨(some p40), (some (p36, false)), .op (.fieldA n3 t4)⟩ [] <|
 .step ⟨(some p41), (some (p36, false)), .op (.load1 t40)⟩ [] <|
 .step ⟨(some p42), (some (p36, false)), .op (.len t41)⟩ [] <|
 .step ⟨(some p43), (some (p36, false)), .op (.cmp .neq t39 t42)⟩ [] <|
 o p44 (.pick t36 q12 t43) <|
 m p45 t44 <|
 .step ⟨(some p46), (some (p45, false)), .op (.fieldA n5 t3)⟩ [] <|
 .step ⟨(some p47), (some (p45, false)), .op (.load1 t46)⟩ [] <|
 .step ⟨(some p48), (some (p45, false)), .op (.len t47)⟩ [] <|
 .step ⟨(some p49), (some (p45, false)), .op (.fieldA n5 t4)⟩ [] <|
 .step ⟨(some p50), (some (p45, false)), .op (.load1 t49)⟩ [] <|
 .step ⟨(some p51), (some (p45, false)), .op (.len t50)⟩ [] <|
 .step ⟨(some p52), (some (p45, false)), .op (.cmp .neq t48 t51)⟩ [] <|
 o p53 (.pick t45 q12 t52) <|
 .done) <|
 .cond t53 (.seq (.region <|
 m p5 q0 <|
 .done) <|
 .ret) <|
 .skip) <|
 .seq (.seq (.region <|
 m p6 q1 <|
 .done) <|
 .block n0 <| .loop <| .seq (.seq (.region <|
 m p54 t6 <|
 o p55 (.fieldA n3 t3) <|
 o p56 (.load1 t55) <|
 o p57 (.len t56) <|
 o p58 (.cmp .lss t54 t57) <|
 .done) <|
 .cond t58 (.skip) <|
 .exit n0) <|
 .seq (.block n1 <| .seq (.region <|
 o p61 (.fieldA n3 t3) <|
 o p62 (.load1 t61) <|
 m p63 t6 <|
 o p64 (.idxS n2 t62 t63) <|
 o p65 (.loadN n2 t64) <|
 o p66 (.fieldA n3 t4) <|
 o p67 (.load1 t66) <|
 m p68 t6 <|
 o p69 (.idxS n2 t67 t68) <|
 o p70 (.loadN n2 t69) <|
 o p71 (.eqagg true k0 t65 t70) <|
 .done) <|
 .cond t71 (.seq (.region <|
 m p5 q0 <|
 .done) <|
 .ret) <|
 .skip) <|
 .region <|
 m p59 t6 <|
 o p60 (.ar .add t59 q3) <|
 m p6 t60 <|
 .done) <|
 .seq (.seq (.region <|
 m p7 q1 <|
 .done) <|
 .block n2 <| .loop <| .seq (.seq (.region <|
 m p72 t7 <|
 o p73 (.fieldA n5 t3) <|
 o p74 (.load1 t73) <|
 o p75 (.len t74) <|
 o p76 (.cmp .lss t72 t75) <|
 .done) <|
 .cond t76 (.skip) <|
 .exit n2) <|
 .seq (.block n3 <| .seq (.region <|
 o p79 (.fieldA n5 t3) <|
 o p80 (.load1 t79) <|
 m p81 t7 <|
 o p82 (.idxS n22 t80 t81) <|
 o p83 (.loadN n22 t82) <|
 o p84 (.fieldA n5 t4) <|
 o p85 (.load1 t84) <|
 m p86 t7 <|
 o p87 (.idxS n22 t85 t86) <|
 o p88 (.loadN n22 t87) <|
 o p89 (.eqagg true k1 t83 t88) <|
 .done) <|
 .cond t89 (.seq (.region <|
 m p5 q0 <|
 .done) <|
 .ret) <|
 .skip) <|
 .region <|
 m p77 t7 <|
 o p78 (.ar .add t77 q3) <|
 m p7 t78 <|
 .done) <|
 .seq (.region <|
 m p5 q12 <|
 .done) <|
 .ret, [.tmp p5]⟩
theorem c16 : compFn Tryz.prog pl16 Tryz.f16 = some F16 := by kernel_rfl

def pl17 : Plans := []
def F17 : CFun := ⟨n8, .seq (.region <|
 m p3 q7 <|
 .done) <|
 .seq (.region <|
 m p4 t1 <|
 o p5 (.nilchk t4) <|
 o p6 (.fieldA n46 t5) <|
 o p7 (.load1 t6) <|
 a p8 n44 [t7] <|
 m p3 t8 <|
 .done) <|
 .ret, [.tmp p3]⟩
theorem c17 : compFn Tryz.prog pl17 Tryz.f17 = some F17 := by kernel_rfl

def pl18 : Plans := []
def F18 : CFun := ⟨n8, .seq (.region <|
 m p3 q1 <|
 .done) <|
 .seq (.region <|
 m p4 t1 <|
 o p5 (.nilchk t4) <|
 o p6 (.fieldA n0 t5) <|
 o p7 (.fieldA n0 t6) <|
 o p8 (.load1 t7) <|
 m p3 t8 <|
 .done) <|
 .ret, [.tmp p3]⟩
theorem c18 : compFn Tryz.prog pl18 Tryz.f18 = some F18 := by kernel_rfl

def pl19 : Plans := []
def F19 : CFun := ⟨n8, .seq (.region <|
 m p3 q1 <|
 .done) <|
 .seq (.region <|
 m p4 t1 <|
 o p5 (.nilchk t4) <|
 o p6 (.fieldA n0 t5) <|
 o p7 (.fieldA n1 t6) <|
 o p8 (.load1 t7) <|
 m p3 t8 <|
 .done) <|
 .ret, [.tmp p3]⟩
theorem c19 : compFn Tryz.prog pl19 Tryz.f19 = some F19 := by kernel_rfl

def pl20 : Plans := [(5, [K [] [3] 13, K [] [4] 14, K [] [4] 15, K [] [3] 16, K [3] [16] 17, K [4] [17] 18, K [5] [18] 19, K [2, 6] [15, 19] 20, K [0] [13] 21, K [8] [21] 22, K (9 :: 1 :: (r 0 8 [])) [22, 14] 23, K (10 :: (r 0 8 [])) [23] 24, J (11 :: 7 :: (r 0 8 [])) [24, 20]], [Q 0 1 (r 8 5 []), Q 1 1 [10, 11, 12], Q 2 1 [7, 10, 11, 12], Q 3 1 [4, 5, 6, 7, 10, 11, 12], Q 4 1 [5, 6, 7, 10, 11, 12], Q 5 1 [6, 7, 10, 11, 12], Q 6 2 [7, 10, 11, 12], Q 7 1 [10, 11, 12], Q 8 1 [9, 10, 11, 12], Q 9 1 [10, 11, 12], Q 10 1 [11, 12], Q 11 1 [12], Q 12 0 []], .node (Q 0 1 (r 8 5 [])) <| .node (Q 1 1 [10, 11, 12]) <| .node (Q 2 1 [7, 10, 11, 12]) <| .node (Q 3 1 [4, 5, 6, 7, 10, 11, 12]) <| .node (Q 4 1 [5, 6, 7, 10, 11, 12]) <| .node (Q 5 1 [6, 7, 10, 11, 12]) <| .node (Q 6 2 [7, 10, 11, 12]) <| .node (Q 7 1 [10, 11, 12]) <| .node (Q 8 1 [9, 10, 11, 12]) <| .node (Q 9 1 [10, 11, 12]) <| .node (Q 10 1 [11, 12]) <| .node (Q 11 1 [12]) <| .node (Q 12 0 []) <| .done)]
def F20 : CFun := ⟨n27, .seq (.region <|
 m p3 q13 <|
 .done) <|
 .seq (.region <|
 m p6 t1 <|
 o p7 (.mx t6 q3) <|
 o p8 (.mn t7 q8) <|
 o p9 (.build z9 [(n0, n1, t8)]) <|
 o p10 (.box t9) <|
 m p4 t10 <|
 .done) <|
 .seq (.seq (.region <|
 m p11 q1 <|
 .done) <|
 .block n0 <| .loop <| .seq (.region <|
 o p12 (.cmp .lss t11 q5) <|
 .done) <|
 .seq (.cond t12 (.skip) <|
 .exit n0) <|
 .seq (.block n1 <| .seq (.region <|
 m p13 t11 <|
 m p5 t13 <|
 .done) <|
 .region <|
 m p14 t4 <|
 m p15 t5 <|
 m p16 t5 <|
 m p17 t4 <|
 o p18 (.nilchk t17) <|
 o p19 (.fieldA n0 t18) <|
 o p20 (.load1 t19) <|
 o p21 (.ar .rem t16 t20) <|
 o p22 (.nilchk t14) <|
 o p23 (.fieldA n1 t22) <|
 o p24 (.idxA n16 n2 t23 t15) <|
 o p25 (.fieldA n0 t24) <|
 e (.store1 t25 t21) <|
 .done) <|
 .region <|
 o p26 (.ar .add t11 q3) <|
 m p11 t26 <|
 .done) <|
 .seq (.region <|
 m p27 t4 <|
 m p3 t27 <|
 .done) <|
 .ret, [.tmp p3]⟩
theorem c20 : compFn Tryz.prog pl20 Tryz.f20 = some F20 := by kernel_rfl

def pl21 : Plans := []
def F21 : CFun := ⟨n5, .seq (.region <|
 m p1 q13 <|
 .done) <|
 .seq (.region <|
 o p2 .mkmap <|
 a p3 n45 [] <|
 o p4 (.build z10 [(n0, n1, t2), (n1, n1, t3)]) <|
 o p5 (.box t4) <|
 m p1 t5 <|
 .done) <|
 .ret, [.tmp p1]⟩
theorem c21 : compFn Tryz.prog pl21 Tryz.f21 = some F21 := by kernel_rfl

def pl22 : Plans := []
def F22 : CFun := ⟨n3, .seq (.region <|
 m p1 q13 <|
 .done) <|
 .seq (.region <|
 o p2 (.build z7 []) <|
 o p3 (.box t2) <|
 m p1 t3 <|
 .done) <|
 .ret, [.tmp p1]⟩
theorem c22 : compFn Tryz.prog pl22 Tryz.f22 = some F22 := by kernel_rfl

def pl23 : Plans := [(7, [K [] [1] 17, K [0] [17] 18, K [1] [18] 19, K [2] [19] 20, K [3] [1, 20] 21, K [4, 3] [21, 20] 22, K [5, 3] [22, 20] 23, K [3, 6] [20, 23] 24, K [7, 3] [24] 25, K [8] [1, 25] 26, K [8] [1, 25] 27, K [10, 8, 8] [27, 25] 28, K [9, 11, 8] [26, 28, 25] 29, K [8, 12] [25, 29] 30, K (13 :: 11 :: (r 0 14 [])) [30] 5], [Q 0 1 (r 1 14 []), Q 1 2 (r 2 13 []), Q 2 1 (r 3 12 []), Q 3 1 (r 4 11 []), Q 4 1 (r 5 10 []), Q 5 2 (r 6 9 []), Q 6 1 (r 7 8 []), Q 7 1 (r 8 7 []), Q 8 1 (r 9 6 []), Q 9 2 [12, 13, 14], Q 10 2 [11, 12, 13, 14], Q 11 0 [], Q 12 1 [13, 14], Q 13 1 [14], Q 14 1 []], .node (Q 0 1 (r 1 14 [])) <| .node (Q 1 2 (r 2 13 [])) <| .node (Q 2 1 (r 3 12 [])) <| .node (Q 3 1 (r 4 11 [])) <| .node (Q 4 1 (r 5 10 [])) <| .node (Q 5 2 (r 6 9 [])) <| .node (Q 6 1 (r 7 8 [])) <| .node (Q 7 1 (r 8 7 [])) <| .node (Q 8 1 (r 9 6 [])) <| .node (Q 9 2 [12, 13, 14]) <| .node (Q 10 2 [11, 12, 13, 14]) <| .node (Q 11 0 []) <| .node (Q 12 1 [13, 14]) <| .node (Q 13 1 [14]) <| .node (Q 14 1 []) <| .done)]
def F23 : CFun := ⟨n111, .seq (.region <|
 o p2 (.box t1) <|
 m p3 q0 <|
 .done) <|
 .seq (.seq (.region <|
 o p9 (.fieldA n6 t2) <|
 o p10 (.loadN n8 t9) <|
 m p11 q1 <|
 .done) <|
 .block n0 <| .loop <| .seq (.region <|
 o p12 (.cmp .lss t11 q8) <|
 .done) <|
 .seq (.cond t12 (.skip) <|
 .exit n0) <|
 .seq (.block n1 <| .seq (.region <|
 o p13 (.indexN n4 n2 t10 t11) <|
 o p5 (.alloc z2) <|
 e (.storeN n2 t5 t13) <|
 .done) <|
 .seq (.region <|
 o p14 (.loadN n2 t5) <|
 a p15 n46 [t14] <|
 o p16 (.not t15) <|
 .done) <|
 .cond t16 (.seq (.region <|
 m p3 q0 <|
 .done) <|
 .ret) <|
 .skip) <|
 .region <|
 o p17 (.ar .add t11 q3) <|
 m p11 t17 <|
 .done) <|
 .seq (.region <|
 o p18 (.fieldA n0 t2) <|
 o p19 (.load1 t18) <|
 o p20 (.cmp .geq t19 q3) <|
 m p21 t20 <|
 .step ⟨(some p22), (some (p21, true)), .op (.fieldA n0 t2)⟩ [] <|
 .step ⟨(some p23), (some (p21, true)), .op (.load1 t22)⟩ [] <|
 .step ⟨(some p24), (some (p21, true)), .op (.cmp .leq t23 q18)⟩ [] <|
 o p25 (.pick t21 t24 q0) <|
 m p26 t25 <|
 .step ⟨(some p27), (some (p26, true)), .op (.loadN n22 t2)⟩ [] <|
 .step ⟨(some p28), (some (p26, true)), .op (.loadN n22 t2)⟩ [] <|
 .step ⟨(some p29), (some (p26, true)), .call n47 [t28]⟩ [⟨(some p27), (some (p26, true)), .op (.loadN n22 t2)⟩] <|
 .step ⟨(some p30), (some (p26, true)), .op (.eqagg false k1 t27 t29)⟩ [] <|
 o p31 (.pick t26 t30 q0) <|
 m p6 t31 <|
 .done) <|
 .seq (.region <|
 o p32 (.fieldA n16 t2) <|
 o p33 (.load1 t32) <|
 o p34 (.cmp .geq t33 q1) <|
 m p35 t34 <|
 .step ⟨(some p36), (some (p35, true)), .op (.fieldA n16 t2)⟩ [] <|
 .step ⟨(some p37), (some (p35, true)), .op (.load1 t36)⟩ [] <|
 .step ⟨(some p38), (some (p35, true)), .op (.cmp .lss t37 q8)⟩ [] <|
 o p39 (.pick t35 t38 q0) <|
 m p40 t39 <|
 .step ⟨(some p41), (some (p40, true)), .op (.fieldA n17 t2)⟩ [] <|
 .step ⟨(some p42), (some (p40, true)), .op (.load1 t41)⟩ [] <|
 .step ⟨(some p43), (some (p40, true)), .op (.cmp .geq t42 q1)⟩ [] <|
 o p44 (.pick t40 t43 q0) <|
 m p45 t44 <|
 .step ⟨(some p46), (some (p45, true)), .op (.fieldA n17 t2)⟩ [] <|
 .step ⟨(some p47), (some (p45, true)), .op (.load1 t46)⟩ [] <|
 .step ⟨(some p48), (some (p45, true)), .op (.cmp .leq t47 q19)⟩ [] <|
 o p49 (.pick t45 t48 q0) <|
 m p7 t49 <|
 .done) <|
 .seq (.region <|
 o p50 (.fieldA n1 t2) <|
 o p51 (.load1 t50) <|
 o p52 (.cmp .geq t51 q1) <|
 m p53 t52 <|
 .step ⟨(some p54), (some (p53, true)), .op (.fieldA n1 t2)⟩ [] <|
 .step ⟨(some p55), (some (p53, true)), .op (.load1 t54)⟩ [] <|
 .step ⟨(some p56), (some (p53, true)), .op (.cmp .leq t55 q19)⟩ [] <|
 o p57 (.pick t53 t56 q0) <|
 m p58 t57 <|
 .step ⟨(some p59), (some (p58, true)), .op (.fieldA n2 t2)⟩ [] <|
 .step ⟨(some p60), (some (p58, true)), .op (.load1 t59)⟩ [] <|
 .step ⟨(some p61), (some (p58, true)), .op (.cmp .geq t60 q20)⟩ [] <|
 o p62 (.pick t58 t61 q0) <|
 m p63 t62 <|
 .step ⟨(some p64), (some (p63, true)), .op (.fieldA n2 t2)⟩ [] <|
 .step ⟨(some p65), (some (p63, true)), .op (.load1 t64)⟩ [] <|
 .step ⟨(some p66), (some (p63, true)), .op (.cmp .leq t65 q21)⟩ [] <|
 o p67 (.pick t63 t66 q0) <|
 m p68 t67 <|
 .step ⟨(some p69), (some (p68, true)), .op (.fieldA n3 t2)⟩ [] <|
 .step ⟨(some p70), (some (p68, true)), .op (.load1 t69)⟩ [] <|
 .step ⟨(some p71), (some (p68, true)), .op (.cmp .geq t70 q20)⟩ [] <|
 o p72 (.pick t68 t71 q0) <|
 m p73 t72 <|
 .step ⟨(some p74), (some (p73, true)), .op (.fieldA n3 t2)⟩ [] <|
 .step ⟨(some p75), (some (p73, true)), .op (.load1 t74)⟩ [] <|
 .step ⟨(some p76), (some (p73, true)), .op (.cmp .leq t75 q21)⟩ [] <|
 o p77 (.pick t73 t76 q0) <|
 m p78 t77 <|
 .step ⟨(some p79), (some (p78, true)), .op (.fieldA n14 t2)⟩ [] <|
 .step ⟨(some p80), (some (p78, true)), .op (.loadN n2 t79)⟩ [] <|
 .step ⟨(some p81), (some (p78, true)), .call n46 [t80]⟩ [] <|
 o p82 (.pick t78 t81 q0) <|
 m p8 t82 <|
 .done) <|
 .seq (.region <|
 m p83 t6 <|
 m p84 t83 <|
 .step ⟨(some p85), (some (p84, true)), .op (.move t7)⟩ [] <|
 o p86 (.pick t84 t85 q0) <|
 m p87 t86 <|
 .step ⟨(some p88), (some (p87, true)), .op (.move t8)⟩ [] <|
 o p89 (.pick t87 t88 q0) <|
 m p90 t89 <|
 .step ⟨(some p91), (some (p90, true)), .op (.fieldA n4 t2)⟩ [] <|
 .step ⟨(some p92), (some (p90, true)), .op (.fieldA n0 t91)⟩ [] <|
 .step ⟨(some p93), (some (p90, true)), .op (.load1 t92)⟩ [] <|
 .step ⟨(some p94), (some (p90, true)), .op (.fieldA n4 t2)⟩ [] <|
 .step ⟨(some p95), (some (p90, true)), .op (.fieldA n1 t94)⟩ [] <|
 .step ⟨(some p96), (some (p90, true)), .op (.load1 t95)⟩ [] <|
 .step ⟨(some p97), (some (p90, true)), .op (.fieldA n18 t2)⟩ [] <|
 .step ⟨(some p98), (some (p90, true)), .op (.fieldA n0 t97)⟩ [] <|
 .step ⟨(some p99), (some (p90, true)), .op (.load1 t98)⟩ [] <|
 .step ⟨(some p100), (some (p90, true)), .op (.fieldA n18 t2)⟩ [] <|
 .step ⟨(some p101), (some (p90, true)), .op (.fieldA n1 t100)⟩ [] <|
 .step ⟨(some p102), (some (p90, true)), .op (.load1 t101)⟩ [] <|
 .step ⟨(some p103), (some (p90, true)), .op (.fieldA n18 t2)⟩ [] <|
 .step ⟨(some p104), (some (p90, true)), .op (.fieldA n2 t103)⟩ [] <|
 .step ⟨(some p105), (some (p90, true)), .op (.load1 t104)⟩ [] <|
 .step ⟨(some p106), (some (p90, true)), .op (.fieldA n18 t2)⟩ [] <|
 .step ⟨(some p107), (some (p90, true)), .op (.fieldA n3 t106)⟩ [] <|
 .step ⟨(some p108), (some (p90, true)), .op (.load1 t107)⟩ [] <|
 .step ⟨(some p109), (some (p90, true)), .op (.bslice z11 n1 n6 [(n0, n1, t93), (n1, n1, t96), (n2, n1, t99), (n3, n1, t102), (n4, n1, t105), (n5, n1, t108)])⟩ [] <|
 .step ⟨(some p110), (some (p90, true)), .call n48 [t109]⟩ [] <|
 o p111 (.pick t90 t110 q0) <|
 m p3 t111 <|
 .done) <|
 .ret, [.tmp p3]⟩
theorem c23 : compFn Tryz.prog pl23 Tryz.f23 = some F23 := by kernel_rfl

def pl24 : Plans := []
def F24 : CFun := ⟨n11, .seq (.region <|
 o p2 (.box t1) <|
 m p3 q0 <|
 .done) <|
 .seq (.region <|
 o p4 (.fieldA n0 t2) <|
 o p5 (.load1 t4) <|
 o p6 (.cmp .geq t5 q22) <|
 m p7 t6 <|
 .step ⟨(some p8), (some (p7, true)), .op (.fieldA n0 t2)⟩ [] <|
 .step ⟨(some p9), (some (p7, true)), .op (.load1 t8)⟩ [] <|
 .step ⟨(some p10), (some (p7, true)), .op (.cmp .leq t9 q18)⟩ [] <|
 o p11 (.pick t7 t10 q0) <|
 m p3 t11 <|
 .done) <|
 .ret, [.tmp p3]⟩
theorem c24 : compFn Tryz.prog pl24 Tryz.f24 = some F24 := by kernel_rfl

def pl25 : Plans := [(16, [K [] [0] 62, K [] [0] 63, K [1] [63] 64, K [2] [64] 65, K [3] [65] 66, K [4] [66] 67, K [] [3] 68, K [6] [68] 69, K [5, 7] [67, 69] 70, K (0 :: (r 0 9 [])) [62] 71, K (9 :: (r 0 9 [])) [71] 72, K (10 :: (r 0 9 [])) [72] 73, J (11 :: 8 :: 8 :: (r 0 9 [])) [73, 70]], [Q 0 1 [9, 10, 11, 12], Q 1 1 (2 :: 3 :: 4 :: 5 :: (r 8 5 [])), Q 2 1 (3 :: 4 :: 5 :: (r 8 5 [])), Q 3 1 (4 :: 5 :: (r 8 5 [])), Q 4 1 (5 :: (r 8 5 [])), Q 5 2 (r 8 5 []), Q 6 2 (r 7 6 []), Q 7 0 [], Q 8 0 [], Q 9 1 [10, 11, 12], Q 10 1 [11, 12], Q 11 1 [12], Q 12 0 []], .node (Q 0 1 [9, 10, 11, 12]) <| .node (Q 1 1 (2 :: 3 :: 4 :: 5 :: (r 8 5 []))) <| .node (Q 2 1 (3 :: 4 :: 5 :: (r 8 5 []))) <| .node (Q 3 1 (4 :: 5 :: (r 8 5 []))) <| .node (Q 4 1 (5 :: (r 8 5 []))) <| .node (Q 5 2 (r 8 5 [])) <| .node (Q 6 2 (r 7 6 [])) <| .node (Q 7 0 []) <| .node (Q 8 0 []) <| .node (Q 9 1 [10, 11, 12]) <| .node (Q 10 1 [11, 12]) <| .node (Q 11 1 [12]) <| .node (Q 12 0 []) <| .done),
  (4, [K [] [0] 30, K [0] [30] 31, K [1] [31] 32, K [2] [32] 33, K [3] [33] 34, K [4] [34] 35, K [] [0] 36, K [6] [36] 37, K [7] [37] 38, K [8] [38] 39, K [9] [39] 40, K [5, 10] [35, 40] 41, K [] [] 42], [Q 0 1 (r 1 5 [11]), Q 1 1 [2, 3, 4, 5, 11], Q 2 1 [3, 4, 5, 11], Q 3 1 [4, 5, 11], Q 4 1 [5, 11], Q 5 2 [11], Q 6 1 (r 7 5 []), Q 7 1 [8, 9, 10, 11], Q 8 1 [9, 10, 11], Q 9 1 [10, 11], Q 10 2 [11], Q 11 1 [], Q 12 1 []], .node (Q 0 1 (r 1 5 [11])) <| .node (Q 1 1 [2, 3, 4, 5, 11]) <| .node (Q 2 1 [3, 4, 5, 11]) <| .node (Q 3 1 [4, 5, 11]) <| .node (Q 4 1 [5, 11]) <| .node (Q 5 2 [11]) <| .node (Q 6 1 (r 7 5 [])) <| .node (Q 7 1 [8, 9, 10, 11]) <| .node (Q 8 1 [9, 10, 11]) <| .node (Q 9 1 [10, 11]) <| .node (Q 10 2 [11]) <| .node (Q 11 1 []) <| .node (Q 12 1 []) <| .done),
  (1, [K [] [3] 11, K [0] [11] 12, K [] [0] 13, K [2] [13] 14, K [3] [14] 15, K [4] [15] 16, K [5] [16] 17, K [1, 6] [12, 17] 18, K [] [0] 19, K [8] [19] 20, K [9] [20] 21, K [10] [21] 22, K [11] [22] 23, K [7, 12] [18, 23] 24], [Q 0 1 [1, 7, 13], Q 1 2 [7, 13], Q 2 1 (r 3 5 [13]), Q 3 1 [4, 5, 6, 7, 13], Q 4 1 [5, 6, 7, 13], Q 5 1 [6, 7, 13], Q 6 2 [7, 13], Q 7 1 [13], Q 8 1 (r 9 5 []), Q 9 1 [10, 11, 12, 13], Q 10 1 [11, 12, 13], Q 11 1 [12, 13], Q 12 2 [13], Q 13 1 []], .node (Q 0 1 [1, 7, 13]) <| .node (Q 1 2 [7, 13]) <| .node (Q 2 1 (r 3 5 [13])) <| .node (Q 3 1 [4, 5, 6, 7, 13]) <| .node (Q 4 1 [5, 6, 7, 13]) <| .node (Q 5 1 [6, 7, 13]) <| .node (Q 6 2 [7, 13]) <| .node (Q 7 1 [13]) <| .node (Q 8 1 (r 9 5 [])) <| .node (Q 9 1 [10, 11, 12, 13]) <| .node (Q 10 1 [11, 12, 13]) <| .node (Q 11 1 [12, 13]) <| .node (Q 12 2 [13]) <| .node (Q 13 1 []) <| .done)]
def F25 : CFun := ⟨n74, .seq (.region <|
 o p4 (.box t2) <|
 m p5 q1 <|
 .done) <|
 .seq (.seq (.region <|
 o p12 (.fieldA n16 t4) <|
 o p13 (.load1 t12) <|
 m p14 t1 <|
 o p15 (.nilchk t14) <|
 o p16 (.fieldA n0 t15) <|
 o p17 (.fieldA n1 t16) <|
 o p18 (.load1 t17) <|
 o p19 (.ar .rem t13 t18) <|
 m p20 t1 <|
 o p21 (.nilchk t20) <|
 o p22 (.fieldA n0 t21) <|
 o p23 (.fieldA n0 t22) <|
 o p24 (.load1 t23) <|
 o p25 (.cmp .neq t19 t24) <|
 .done) <|
 .cond t25 (.seq (.region <|
 m p5 q11 <|
 .done) <|
 .ret) <|
 .skip) <|
 .seq (.region <|
 m p26 t1 <|
 o p27 (.nilchk t26) <|
 o p28 (.fieldA n47 t27) <|
 o p29 (.load1 t28) <|
 a p30 n49 [t29] <|
 m p6 t30 <|
 .done) <|
 .seq (.seq (.region <|
 m p31 t1 <|
 o p32 (.nilchk t31) <|
 o p33 (.fieldA n0 t32) <|
 o p34 (.fieldA n39 t33) <|
 o p35 (.fieldA n5 t34) <|
 o p36 (.load1 t35) <|
 m p37 t1 <|
 o p38 (.nilchk t37) <|
 o p39 (.fieldA n0 t38) <|
 o p40 (.fieldA n35 t39) <|
 o p41 (.load1 t40) <|
 o p42 (.build z12 [(n0, n1, t36), (n1, n1, t41)]) <|
 m p43 q1 <|
 .done) <|
 .block n0 <| .loop <| .seq (.region <|
 o p44 (.cmp .lss t43 q2) <|
 .done) <|
 .seq (.cond t44 (.skip) <|
 .exit n0) <|
 .seq (.block n1 <| .seq (.region <|
 o p45 (.index1 n2 t42 t43) <|
 m p8 t45 <|
 .done) <|
 .seq (.region <|
 m p46 t8 <|
 o p47 (.len t46) <|
 m p48 q1 <|
 .done) <|
 .block n2 <| .loop <| .seq (.region <|
 o p49 (.cmp .lss t48 t47) <|
 .done) <|
 .seq (.cond t49 (.skip) <|
 .exit n2) <|
 .seq (.block n3 <| .seq (.region <|
 o p50 (.idxS n22 t46 t48) <|
 o p51 (.loadN n22 t50) <|
 o p10 (.alloc z1) <|
 e (.storeN n22 t10 t51) <|
 .done) <|
 .region <|
 m p52 t6 <|
 o p53 (.loadN n22 t10) <|
 a p54 n30 [t52, t53, q1] <|
 .done) <|
 .region <|
 o p55 (.ar .add t48 q3) <|
 m p48 t55 <|
 .done) <|
 .region <|
 o p56 (.ar .add t43 q3) <|
 m p43 t56 <|
 .done) <|
 .seq (.seq (.region <|
 m p57 t6 <|
 o p58 (.loadN n22 t4) <|
 a p59 n30 [t57, t58, q1] <|
 m p11 t59 <|
 .done) <|
 .seq (.region <|
 m p60 t11 <|
 o p61 (.cmp .neq t60 q1) <|
 .done) <|
 .cond t61 (.seq (.region <|
 m p62 t11 <|
 m p5 t62 <|
 .done) <|
 .ret) <|
 .skip) <|
 .seq (.region <|
 m p63 t1 <|
 m p64 t1 <|
 o p65 (.nilchk t64) <|
 o p66 (.fieldA n0 t65) <|
 o p67 (.fieldA n35 t66) <|
 o p68 (.load1 t67) <|
 o p69 (.loadN n22 t4) <|
 .step ⟨(some p70), none, .op (.bslice z1 n22 n1 [(n0, n22, t69)])⟩ [⟨(some p68), none, .op (.load1 t67)⟩] <|
 o p71 (.append n216 n22 t68 t70) <|
 o p72 (.nilchk t63) <|
 o p73 (.fieldA n0 t72) <|
 o p74 (.fieldA n35 t73) <|
 e (.store1 t74 t71) <|
 .done) <|
 .seq (.region <|
 m p5 q1 <|
 .done) <|
 .ret, [.tmp p5]⟩
theorem c25 : compFn Tryz.prog pl25 Tryz.f25 = some F25 := by kernel_rfl

def pl26 : Plans := [(7, [K [] [0] 40, K [] [0] 41, K [1] [41] 42, K [2] [42] 43, K [3] [43] 44, K [4] [44] 45, K [] [3] 46, K [6] [46] 47, K [] [3] 48, K [8] [48] 49, K [7, 9] [47, 49] 50, K [10] [50] 51, K [5, 11] [45, 51] 52, K (0 :: (r 0 13 [])) [40] 53, K (13 :: (r 0 13 [])) [53] 54, K (14 :: (r 0 13 [])) [54] 55, J (15 :: 12 :: 12 :: (r 0 13 [])) [55, 52]], [Q 0 1 [13, 14, 15, 16], Q 1 1 (2 :: 3 :: 4 :: 5 :: (r 12 5 [])), Q 2 1 (3 :: 4 :: 5 :: (r 12 5 [])), Q 3 1 (4 :: 5 :: (r 12 5 [])), Q 4 1 (5 :: (r 12 5 [])), Q 5 2 (r 12 5 []), Q 6 1 (7 :: (r 10 7 [])), Q 7 2 (r 10 7 []), Q 8 1 (r 9 8 []), Q 9 2 (r 10 7 []), Q 10 1 (r 11 6 []), Q 11 0 [], Q 12 0 [], Q 13 1 [14, 15, 16], Q 14 1 [15, 16], Q 15 1 [16], Q 16 0 []], .node (Q 0 1 [13, 14, 15, 16]) <| .node (Q 1 1 (2 :: 3 :: 4 :: 5 :: (r 12 5 []))) <| .node (Q 2 1 (3 :: 4 :: 5 :: (r 12 5 []))) <| .node (Q 3 1 (4 :: 5 :: (r 12 5 []))) <| .node (Q 4 1 (5 :: (r 12 5 []))) <| .node (Q 5 2 (r 12 5 [])) <| .node (Q 6 1 (7 :: (r 10 7 []))) <| .node (Q 7 2 (r 10 7 [])) <| .node (Q 8 1 (r 9 8 [])) <| .node (Q 9 2 (r 10 7 [])) <| .node (Q 10 1 (r 11 6 [])) <| .node (Q 11 0 []) <| .node (Q 12 0 []) <| .node (Q 13 1 [14, 15, 16]) <| .node (Q 14 1 [15, 16]) <| .node (Q 15 1 [16]) <| .node (Q 16 0 []) <| .done),
  (5, [K [] [3] 17, K [0] [17] 18, K [1] [18] 19, K [2] [19] 20, K [3] [3, 20] 21, K [4, 3] [21, 20] 22, K [3] [0, 20] 23, K [6, 3] [23, 20] 24, K [7, 3] [24, 20] 25, K [8, 3] [25, 20] 26, K [9, 3] [26, 20] 27, K [5, 10, 3] [22, 27, 20] 28, K [3, 11] [20, 28] 29, K [12, 3] [29] 30, K [13] [3, 30] 31, K [14, 13] [31, 30] 32, K [13] [0, 30] 33, K [16, 13] [33, 30] 34, K [17, 13] [34, 30] 35, K [18, 13] [35, 30] 36, K [19, 13] [36, 30] 37, K [15, 20, 13] [32, 37, 30] 38, K [13, 21] [30, 38] 39, K [22, 13] [39] 16], [Q 0 1 (r 1 23 []), Q 1 2 (r 2 22 []), Q 2 1 (r 3 21 []), Q 3 1 (r 4 20 []), Q 4 1 (5 :: (r 11 13 [])), Q 5 2 (r 11 13 []), Q 6 1 (r 7 17 []), Q 7 1 (r 8 16 []), Q 8 1 (r 9 15 []), Q 9 1 (r 10 14 []), Q 10 2 (r 11 13 []), Q 11 1 (r 12 12 []), Q 12 1 (r 13 11 []), Q 13 1 (r 14 10 []), Q 14 1 [15, 21, 22, 23], Q 15 2 [21, 22, 23], Q 16 1 (r 17 7 []), Q 17 1 (r 18 6 []), Q 18 1 (r 19 5 []), Q 19 1 [20, 21, 22, 23], Q 20 2 [21, 22, 23], Q 21 1 [22, 23], Q 22 1 [23], Q 23 1 []], .node (Q 0 1 (r 1 23 [])) <| .node (Q 1 2 (r 2 22 [])) <| .node (Q 2 1 (r 3 21 [])) <| .node (Q 3 1 (r 4 20 [])) <| .node (Q 4 1 (5 :: (r 11 13 []))) <| .node (Q 5 2 (r 11 13 [])) <| .node (Q 6 1 (r 7 17 [])) <| .node (Q 7 1 (r 8 16 [])) <| .node (Q 8 1 (r 9 15 [])) <| .node (Q 9 1 (r 10 14 [])) <| .node (Q 10 2 (r 11 13 [])) <| .node (Q 11 1 (r 12 12 [])) <| .node (Q 12 1 (r 13 11 [])) <| .node (Q 13 1 (r 14 10 [])) <| .node (Q 14 1 [15, 21, 22, 23]) <| .node (Q 15 2 [21, 22, 23]) <| .node (Q 16 1 (r 17 7 [])) <| .node (Q 17 1 (r 18 6 [])) <| .node (Q 18 1 (r 19 5 [])) <| .node (Q 19 1 [20, 21, 22, 23]) <| .node (Q 20 2 [21, 22, 23]) <| .node (Q 21 1 [22, 23]) <| .node (Q 22 1 [23]) <| .node (Q 23 1 []) <| .done)]
def F26 : CFun := ⟨n56, .seq (.region <|
 o p4 (.box t2) <|
 m p5 q1 <|
 .done) <|
 .seq (.block n0 <| .seq (.region <|
 o p7 (.fieldA n2 t4) <|
 o p8 (.load1 t7) <|
 a p9 n50 [t8] <|
 o p10 (.not t9) <|
 m p6 t10 <|
 .done) <|
 .cond t6 (.seq (.region <|
 m p5 q15 <|
 .done) <|
 .ret) <|
 .seq (.region <|
 m p12 t1 <|
 o p13 (.fieldA n2 t4) <|
 o p14 (.load1 t13) <|
 a p15 n14 [t12, t14] <|
 o p16 (.not t15) <|
 m p11 t16 <|
 .done) <|
 .cond t11 (.seq (.region <|
 m p5 q11 <|
 .done) <|
 .ret) <|
 .seq (.region <|
 o p18 (.fieldA n3 t4) <|
 o p19 (.load1 t18) <|
 o p20 (.cmp .lss t19 q1) <|
 m p21 t20 <|
 .step ⟨(some p22), (some (p21, false)), .op (.fieldA n3 t4)⟩ [] <|
 .step ⟨(some p23), (some (p21, false)), .op (.load1 t22)⟩ [] <|
 .step ⟨(some p24), (some (p21, false)), .op (.move t1)⟩ [] <|
 .step ⟨(some p25), (some (p21, false)), .op (.nilchk t24)⟩ [] <|
 .step ⟨(some p26), (some (p21, false)), .op (.fieldA n0 t25)⟩ [] <|
 .step ⟨(some p27), (some (p21, false)), .op (.fieldA n1 t26)⟩ [] <|
 .step ⟨(some p28), (some (p21, false)), .op (.load1 t27)⟩ [] <|
 .step ⟨(some p29), (some (p21, false)), .op (.cmp .geq t23 t28)⟩ [] <|
 o p30 (.pick t21 q12 t29) <|
 m p31 t30 <|
 .step ⟨(some p32), (some (p31, false)), .op (.fieldA n3 t4)⟩ [] <|
 .step ⟨(some p33), (some (p31, false)), .op (.load1 t32)⟩ [] <|
 .step ⟨(some p34), (some (p31, false)), .op (.move t1)⟩ [] <|
 .step ⟨(some p35), (some (p31, false)), .op (.nilchk t34)⟩ [] <|
 .step ⟨(some p36), (some (p31, false)), .op (.fieldA n0 t35)⟩ [] <|
 .step ⟨(some p37), (some (p31, false)), .op (.fieldA n0 t36)⟩ [] <|
 .step ⟨(some p38), (some (p31, false)), .op (.load1 t37)⟩ [] <|
 .step ⟨(some p39), (some (p31, false)), .op (.cmp .eql t33 t38)⟩ [] <|
 o p40 (.pick t31 q12 t39) <|
 m p17 t40 <|
 .done) <|
 .cond t17 (.seq (.region <|
 m p5 q23 <|
 .done) <|
 .ret) <|
 .skip) <|
 .seq (.region <|
 m p41 t1 <|
 m p42 t1 <|
 o p43 (.nilchk t42) <|
 o p44 (.fieldA n0 t43) <|
 o p45 (.fieldA n36 t44) <|
 o p46 (.load1 t45) <|
 o p47 (.fieldA n2 t4) <|
 o p48 (.load1 t47) <|
 o p49 (.fieldA n3 t4) <|
 o p50 (.load1 t49) <|
 o p51 (.build z0 [(n0, n1, t48), (n1, n1, t50)]) <|
 .step ⟨(some p52), none, .op (.bslice z0 n2 n1 [(n0, n2, t51)])⟩ [⟨(some p46), none, .op (.load1 t45)⟩] <|
 o p53 (.append n16 n2 t46 t52) <|
 o p54 (.nilchk t41) <|
 o p55 (.fieldA n0 t54) <|
 o p56 (.fieldA n36 t55) <|
 e (.store1 t56 t53) <|
 .done) <|
 .seq (.region <|
 m p5 q1 <|
 .done) <|
 .ret, [.tmp p5]⟩
theorem c26 : compFn Tryz.prog pl26 Tryz.f26 = some F26 := by kernel_rfl

def pl27 : Plans := [(20, [K [] [0] 90, K [0] [90] 91, K [1] [91] 92, K [2] [92] 93, K [] [3] 94, K [3, 4] [93, 94] 95], [Q 0 1 [1, 2, 3, 5], Q 1 1 [2, 3, 5], Q 2 1 [3, 5], Q 3 2 [5], Q 4 2 [5], Q 5 0 []], .node (Q 0 1 [1, 2, 3, 5]) <| .node (Q 1 1 [2, 3, 5]) <| .node (Q 2 1 [3, 5]) <| .node (Q 3 2 [5]) <| .node (Q 4 2 [5]) <| .node (Q 5 0 []) <| .done),
  (17, [K [] [0] 69, K [0] [69] 70, K [1] [70] 71, K [2] [71] 72, K [] [9] 73, K [] [3] 74, K [5] [74] 75, K [] [3] 76, K [7] [76] 77, K [4, 6, 8] [73, 75, 77] 78, K [3, 9] [72, 78] 79], [Q 0 1 [1, 2, 3, 10], Q 1 1 [2, 3, 10], Q 2 1 [3, 10], Q 3 2 [10], Q 4 1 [9, 10], Q 5 1 [6, 9, 10], Q 6 2 [9, 10], Q 7 1 [8, 9, 10], Q 8 2 [9, 10], Q 9 1 [10], Q 10 0 []], .node (Q 0 1 [1, 2, 3, 10]) <| .node (Q 1 1 [2, 3, 10]) <| .node (Q 2 1 [3, 10]) <| .node (Q 3 2 [10]) <| .node (Q 4 1 [9, 10]) <| .node (Q 5 1 [6, 9, 10]) <| .node (Q 6 2 [9, 10]) <| .node (Q 7 1 [8, 9, 10]) <| .node (Q 8 2 [9, 10]) <| .node (Q 9 1 [10]) <| .node (Q 10 0 []) <| .done),
  (10, [K [] [0] 41, K [0] [41] 42, K [1] [42] 43, K [2] [43] 44, K [] [3] 45, K [3, 4] [44, 45] 46, K (5 :: 5 :: (r 0 6 [])) [46] 10], [Q 0 1 [1, 2, 3, 5, 6], Q 1 1 [2, 3, 5, 6], Q 2 1 [3, 5, 6], Q 3 2 [5, 6], Q 4 2 [5, 6], Q 5 0 [], Q 6 1 []], .node (Q 0 1 [1, 2, 3, 5, 6]) <| .node (Q 1 1 [2, 3, 5, 6]) <| .node (Q 2 1 [3, 5, 6]) <| .node (Q 3 2 [5, 6]) <| .node (Q 4 2 [5, 6]) <| .node (Q 5 0 []) <| .node (Q 6 1 []) <| .done),
  (5, [K [] [0] 23, K [0] [23] 24, K [1] [24] 25, K [2] [25] 26, K [3] [26] 27, K [] [0] 28, K [5] [28] 29, K [6] [29] 30, K [7] [30] 31, K [8] [31] 32, K [4, 9] [27, 32] 33, K (10 :: 10 :: (r 0 11 [])) [33] 9], [Q 0 1 [1, 2, 3, 4, 10, 11], Q 1 1 [2, 3, 4, 10, 11], Q 2 1 [3, 4, 10, 11], Q 3 1 [4, 10, 11], Q 4 2 [10, 11], Q 5 1 (r 6 6 []), Q 6 1 (r 7 5 []), Q 7 1 [8, 9, 10, 11], Q 8 1 [9, 10, 11], Q 9 2 [10, 11], Q 10 0 [], Q 11 1 []], .node (Q 0 1 [1, 2, 3, 4, 10, 11]) <| .node (Q 1 1 [2, 3, 4, 10, 11]) <| .node (Q 2 1 [3, 4, 10, 11]) <| .node (Q 3 1 [4, 10, 11]) <| .node (Q 4 2 [10, 11]) <| .node (Q 5 1 (r 6 6 [])) <| .node (Q 6 1 (r 7 5 [])) <| .node (Q 7 1 [8, 9, 10, 11]) <| .node (Q 8 1 [9, 10, 11]) <| .node (Q 9 2 [10, 11]) <| .node (Q 10 0 []) <| .node (Q 11 1 []) <| .done)]
def F27 : CFun := ⟨n98, .seq (.region <|
 o p4 (.box t2) <|
 m p5 q1 <|
 m p6 q1 <|
 .done) <|
 .seq (.region <|
 o p13 (.fieldA n4 t4) <|
 o p14 (.loadN n2 t13) <|
 a p15 n51 [t14] <|
 m p12 t15 <|
 o p16 (.extract n0 t12) <|
 o p17 (.extract n1 t12) <|
 m p7 t16 <|
 m p8 t17 <|
 .done) <|
 .seq (.region <|
 m p18 t1 <|
 m p19 t7 <|
 a p20 n14 [t18, t19] <|
 m p9 t20 <|
 .done) <|
 .seq (.region <|
 m p10 q1 <|
 .done) <|
 .seq (.seq (.region <|
 o p21 (.fieldA n0 t4) <|
 o p22 (.load1 t21) <|
 o p23 (.cmp .eql t22 q3) <|
 .done) <|
 .cond t23 (.seq (.region <|
 m p24 t1 <|
 o p25 (.nilchk t24) <|
 o p26 (.fieldA n0 t25) <|
 o p27 (.fieldA n0 t26) <|
 o p28 (.load1 t27) <|
 m p29 t1 <|
 o p30 (.nilchk t29) <|
 o p31 (.fieldA n0 t30) <|
 o p32 (.fieldA n34 t31) <|
 o p33 (.load1 t32) <|
 a p34 n52 [t28, t33] <|
 m p10 t34 <|
 .done) <|
 .block n0 <| .seq (.region <|
 m p36 t8 <|
 o p37 (.cmp .neq t36 q1) <|
 m p35 t37 <|
 .done) <|
 .cond t35 (.seq (.region <|
 m p38 t8 <|
 m p5 q1 <|
 m p6 t38 <|
 .done) <|
 .ret) <|
 .seq (.region <|
 m p40 t9 <|
 o p41 (.not t40) <|
 m p39 t41 <|
 .done) <|
 .cond t39 (.seq (.region <|
 m p5 q1 <|
 m p6 q11 <|
 .done) <|
 .ret) <|
 .skip) <|
 .skip) <|
 .seq (.region <|
 m p42 t1 <|
 o p43 (.nilchk t42) <|
 o p44 (.fieldA n45 t43) <|
 o p45 (.load1 t44) <|
 o p46 (.loadN n22 t4) <|
 a p47 n53 [t45, t46] <|
 m p11 t47 <|
 .done) <|
 .seq (.block n1 <| .seq (.region <|
 m p49 t11 <|
 o p50 (.cmp .eql t49 q5) <|
 m p51 t50 <|
 .step ⟨(some p52), (some (p51, true)), .op (.fieldA n0 t4)⟩ [] <|
 .step ⟨(some p53), (some (p51, true)), .op (.load1 t52)⟩ [] <|
 .step ⟨(some p54), (some (p51, true)), .op (.cmp .eql t53 q2)⟩ [] <|
 o p55 (.pick t51 t54 q0) <|
 m p56 t55 <|
 .step ⟨(some p57), (some (p56, true)), .op (.move t9)⟩ [] <|
 .step ⟨(some p58), (some (p56, true)), .op (.not t57)⟩ [] <|
 o p59 (.pick t56 t58 q0) <|
 m p48 t59 <|
 .done) <|
 .cond t48 (.skip) <|
 .seq (.region <|
 m p61 t11 <|
 o p62 (.cmp .neq t61 q1) <|
 m p60 t62 <|
 .done) <|
 .cond t60 (.seq (.region <|
 m p63 t11 <|
 m p5 q1 <|
 m p6 t63 <|
 .done) <|
 .ret) <|
 .seq (.region <|
 m p65 t10 <|
 o p66 (.cmp .gtr t65 q19) <|
 m p64 t66 <|
 .done) <|
 .cond t64 (.seq (.region <|
 m p5 q1 <|
 m p6 q5 <|
 .done) <|
 .ret) <|
 .skip) <|
 .seq (.seq (.region <|
 o p67 (.fieldA n0 t4) <|
 o p68 (.load1 t67) <|
 o p69 (.cmp .eql t68 q3) <|
 .done) <|
 .cond t69 (.seq (.region <|
 m p70 t1 <|
 o p71 (.nilchk t70) <|
 o p72 (.fieldA n45 t71) <|
 o p73 (.load1 t72) <|
 m p74 t10 <|
 o p75 (.fieldA n4 t4) <|
 o p76 (.loadN n2 t75) <|
 o p77 (.fieldA n6 t4) <|
 o p78 (.loadN n8 t77) <|
 o p79 (.build z8 [(n0, n1, t74), (n1, n2, t76), (n3, n8, t78)]) <|
 a p80 n32 [t73, t79] <|
 .done) <|
 .seq (.region <|
 m p81 t1 <|
 o p82 (.nilchk t81) <|
 o p83 (.fieldA n0 t82) <|
 o p84 (.fieldA n34 t83) <|
 o p85 (.load1 t84) <|
 o p86 (.ar .add t85 q3) <|
 o p87 (.nilchk t81) <|
 o p88 (.fieldA n0 t87) <|
 o p89 (.fieldA n34 t88) <|
 e (.store1 t89 t86) <|
 .done) <|
 .seq (.region <|
 m p90 t10 <|
 m p5 t90 <|
 m p6 q1 <|
 .done) <|
 .ret) <|
 .skip) <|
 .seq (.region <|
 m p91 t1 <|
 o p92 (.nilchk t91) <|
 o p93 (.fieldA n45 t92) <|
 o p94 (.load1 t93) <|
 o p95 (.loadN n22 t4) <|
 a p96 n54 [t94, t95, q1] <|
 .done) <|
 .seq (.region <|
 o p97 (.fieldA n1 t4) <|
 o p98 (.load1 t97) <|
 m p5 t98 <|
 m p6 q1 <|
 .done) <|
 .ret, [.tmp p5, .tmp p6]⟩
theorem c27 : compFn Tryz.prog pl27 Tryz.f27 = some F27 := by kernel_rfl

def pl28 : Plans := [(11, [K [] [6] 71, K [] [6] 72, K [1] [72] 73, K [] [0] 74, K [3] [74] 75, K [4] [75] 76, K [5] [76] 77, K [6] [77] 78, K [2, 7] [73, 78] 79, K [0, 0] [71] 4, K (8 :: 9 :: (r 0 10 [])) [79] 5], [Q 0 1 [9, 10], Q 1 1 [2, 8, 10], Q 2 1 [8, 10], Q 3 1 (r 4 5 [10]), Q 4 1 [5, 6, 7, 8, 10], Q 5 1 [6, 7, 8, 10], Q 6 1 [7, 8, 10], Q 7 2 [8, 10], Q 8 1 [10], Q 9 1 [10], Q 10 1 []], .node (Q 0 1 [9, 10]) <| .node (Q 1 1 [2, 8, 10]) <| .node (Q 2 1 [8, 10]) <| .node (Q 3 1 (r 4 5 [10])) <| .node (Q 4 1 [5, 6, 7, 8, 10]) <| .node (Q 5 1 [6, 7, 8, 10]) <| .node (Q 6 1 [7, 8, 10]) <| .node (Q 7 2 [8, 10]) <| .node (Q 8 1 [10]) <| .node (Q 9 1 [10]) <| .node (Q 10 1 []) <| .done),
  (8, [K [] [8] 36, K [0] [36] 37, K [] [7] 38, K [1, 2] [37, 38] 39, K [3] [39] 40, K [4] [8, 40] 41, K [5, 4] [41, 40] 42, K [4] [0, 40] 43, K [7, 4] [43, 40] 44, K [8, 4] [44, 40] 45, K [9, 4] [45, 40] 46, K [10, 4] [46, 40] 47, K [11, 4] [47, 40] 48, K [6, 12, 4] [42, 48, 40] 49, K [4, 13] [40, 49] 50, K [14, 4] [50] 51, K [15] [7, 51] 52, K [15] [0, 51] 53, K [17, 15] [53, 51] 54, K [18, 15] [54, 51] 55, K [19, 15] [55, 51] 56, K [20, 15] [56, 51] 57, K [16, 21, 15] [52, 57, 51] 58, K [22, 15, 15] [58, 51] 59, K [23] [8, 59] 60, K [23] [0, 59] 61, K [25, 23] [61, 59] 62, K [26, 23] [62, 59] 63, K [27, 23] [63, 59] 64, K [28, 23] [64, 59] 65, K [24, 29, 23, 23] [60, 65, 59] 66, K [30, 23] [66, 59] 67, K [23, 31, 15] [59, 67, 51] 68, K [15, 32] [51, 68] 69], [Q 0 1 (1 :: (r 3 31 [])), Q 1 2 (r 3 31 []), Q 2 1 (r 3 31 []), Q 3 1 (r 4 30 []), Q 4 1 (r 5 29 []), Q 5 1 (6 :: (r 13 21 [])), Q 6 2 (r 13 21 []), Q 7 1 (r 8 26 []), Q 8 1 (r 9 25 []), Q 9 1 (r 10 24 []), Q 10 1 (r 11 23 []), Q 11 2 (r 12 22 []), Q 12 1 (r 13 21 []), Q 13 1 (r 14 20 []), Q 14 1 (r 15 19 []), Q 15 1 (r 16 18 []), Q 16 1 (r 22 12 []), Q 17 1 (r 18 16 []), Q 18 1 (r 19 15 []), Q 19 1 (r 20 14 []), Q 20 1 (r 21 13 []), Q 21 2 (r 22 12 []), Q 22 1 (r 23 11 []), Q 23 1 (r 24 10 []), Q 24 2 [30, 31, 32, 33], Q 25 1 (r 26 8 []), Q 26 1 (r 27 7 []), Q 27 1 (r 28 6 []), Q 28 1 (r 29 5 []), Q 29 2 [30, 31, 32, 33], Q 30 0 [], Q 31 1 [32, 33], Q 32 1 [33], Q 33 1 []], .node (Q 0 1 (1 :: (r 3 31 []))) <| .node (Q 1 2 (r 3 31 [])) <| .node (Q 2 1 (r 3 31 [])) <| .node (Q 3 1 (r 4 30 [])) <| .node (Q 4 1 (r 5 29 [])) <| .node (Q 5 1 (6 :: (r 13 21 []))) <| .node (Q 6 2 (r 13 21 [])) <| .node (Q 7 1 (r 8 26 [])) <| .node (Q 8 1 (r 9 25 [])) <| .node (Q 9 1 (r 10 24 [])) <| .node (Q 10 1 (r 11 23 [])) <| .node (Q 11 2 (r 12 22 [])) <| .node (Q 12 1 (r 13 21 [])) <| .node (Q 13 1 (r 14 20 [])) <| .node (Q 14 1 (r 15 19 [])) <| .node (Q 15 1 (r 16 18 [])) <| .node (Q 16 1 (r 22 12 [])) <| .node (Q 17 1 (r 18 16 [])) <| .node (Q 18 1 (r 19 15 [])) <| .node (Q 19 1 (r 20 14 [])) <| .node (Q 20 1 (r 21 13 [])) <| .node (Q 21 2 (r 22 12 [])) <| .node (Q 22 1 (r 23 11 [])) <| .node (Q 23 1 (r 24 10 [])) <| .node (Q 24 2 [30, 31, 32, 33]) <| .node (Q 25 1 (r 26 8 [])) <| .node (Q 26 1 (r 27 7 [])) <| .node (Q 27 1 (r 28 6 [])) <| .node (Q 28 1 (r 29 5 [])) <| .node (Q 29 2 [30, 31, 32, 33]) <| .node (Q 30 0 []) <| .node (Q 31 1 [32, 33]) <| .node (Q 32 1 [33]) <| .node (Q 33 1 []) <| .done),
  (3, [K [] [1] 18, K [0] [18] 19, K [] [0] 20, K [2] [20] 21, K [3] [21] 22, K [4] [22] 23, K [5] [23] 24, K [6] [24] 25, K [1, 7, 1] [19, 25] 26, K (8 :: 8 :: (r 0 9 [])) [26] 6], [Q 0 1 [1, 8, 9], Q 1 0 [], Q 2 1 (r 3 7 []), Q 3 1 (r 4 6 []), Q 4 1 (r 5 5 []), Q 5 1 [6, 7, 8, 9], Q 6 2 [7, 8, 9], Q 7 0 [], Q 8 0 [], Q 9 1 []], .node (Q 0 1 [1, 8, 9]) <| .node (Q 2 1 (r 3 7 [])) <| .node (Q 3 1 (r 4 6 [])) <| .node (Q 4 1 (r 5 5 [])) <| .node (Q 5 1 [6, 7, 8, 9]) <| .node (Q 6 2 [7, 8, 9]) <| .fork (Q 1 0 []) [19, 25] (.node (Q 7 0 []) <| .node (Q 8 0 []) <| .node (Q 9 1 []) <| .done) <| .node (Q 7 0 []) <| .node (Q 1 0 []) <| .node (Q 8 0 []) <| .node (Q 9 1 []) <| .done)]
def F28 : CFun := ⟨n80, .seq (.region <|
 m p5 q7 <|
 m p6 q0 <|
 .done) <|
 .seq (.seq (.region <|
 m p10 t1 <|
 o p11 (.nilchk t10) <|
 o p12 (.fieldA n0 t11) <|
 o p13 (.fieldA n2 t12) <|
 o p14 (.load1 t13) <|
 o p15 (.cmp .eql t14 q1) <|
 .done) <|
 .cond t15 (.seq (.region <|
 m p16 t2 <|
 o p17 (.len t16) <|
 o p18 (.cmp .eql t17 q1) <|
 m p5 q7 <|
 m p6 t18 <|
 .done) <|
 .ret) <|
 .skip) <|
 .seq (.region <|
 m p19 t2 <|
 m p21 t1 <|
 o p22 (.nilchk t21) <|
 o p23 (.fieldA n0 t22) <|
 o p24 (.fieldA n39 t23) <|
 o p25 (.loadN n6 t24) <|
 .fork [p20, p26] ⟨(some p20), none, .call n55 [t19]⟩ [⟨(some p25), none, .op (.loadN n6 t24)⟩] (
 o p26 (.bslice z3 n6 n1 [(n0, n6, t25)]) <|
 o p27 (.append n112 n6 t20 t26) <|
 m p7 t27 <|
 .done) <|
 o p26 (.bslice z3 n6 n1 [(n0, n6, t25)]) <|
 a p20 n55 [t19] <|
 o p27 (.append n112 n6 t20 t26) <|
 m p7 t27 <|
 .done) <|
 .seq (.region <|
 m p28 t7 <|
 a p29 n56 [t28, q24] <|
 .done) <|
 .seq (.seq (.region <|
 m p30 t7 <|
 o p31 (.len t30) <|
 m p32 q1 <|
 .done) <|
 .block n0 <| .loop <| .seq (.region <|
 o p33 (.cmp .lss t32 t31) <|
 .done) <|
 .seq (.cond t33 (.skip) <|
 .exit n0) <|
 .seq (.block n1 <| .seq (.region <|
 m p34 t32 <|
 o p35 (.idxS n6 t30 t32) <|
 o p36 (.loadN n6 t35) <|
 o p9 (.alloc z3) <|
 m p8 t34 <|
 e (.storeN n6 t9 t36) <|
 .done) <|
 .seq (.region <|
 o p37 (.fieldA n0 t9) <|
 o p38 (.load1 t37) <|
 m p39 t8 <|
 o p40 (.cmp .neq t38 t39) <|
 m p41 t40 <|
 .step ⟨(some p42), (some (p41, false)), .op (.fieldA n1 t9)⟩ [] <|
 .step ⟨(some p43), (some (p41, false)), .op (.load1 t42)⟩ [] <|
 .step ⟨(some p44), (some (p41, false)), .op (.move t1)⟩ [] <|
 .step ⟨(some p45), (some (p41, false)), .op (.nilchk t44)⟩ [] <|
 .step ⟨(some p46), (some (p41, false)), .op (.fieldA n0 t45)⟩ [] <|
 .step ⟨(some p47), (some (p41, false)), .op (.fieldA n2 t46)⟩ [] <|
 .step ⟨(some p48), (some (p41, false)), .op (.load1 t47)⟩ [] <|
 .step ⟨(some p49), (some (p41, false)), .op (.ar .sub t48 q3)⟩ [] <|
 .step ⟨(some p50), (some (p41, false)), .op (.cmp .neq t43 t49)⟩ [] <|
 o p51 (.pick t41 q12 t50) <|
 m p52 t51 <|
 .step ⟨(some p53), (some (p52, false)), .op (.move t8)⟩ [] <|
 .step ⟨(some p54), (some (p52, false)), .op (.move t1)⟩ [] <|
 .step ⟨(some p55), (some (p52, false)), .op (.nilchk t54)⟩ [] <|
 .step ⟨(some p56), (some (p52, false)), .op (.fieldA n0 t55)⟩ [] <|
 .step ⟨(some p57), (some (p52, false)), .op (.fieldA n0 t56)⟩ [] <|
 .step ⟨(some p58), (some (p52, false)), .op (.load1 t57)⟩ [] <|
 .step ⟨(some p59), (some (p52, false)), .op (.cmp .neq t53 t58)⟩ [] <|
 .step ⟨(some p60), (some (p52, false)), .op (.move t59)⟩ [] <|
 .step ⟨(some p61), (some (p60, true)), .op (.loadN n6 t9)⟩ [] <|
 .step ⟨(some p62), (some (p60, true)), .op (.move t1)⟩ [] <|
 .step ⟨(some p63), (some (p60, true)), .op (.nilchk t62)⟩ [] <|
 .step ⟨(some p64), (some (p60, true)), .op (.fieldA n0 t63)⟩ [] <|
 .step ⟨(some p65), (some (p60, true)), .op (.fieldA n1 t64)⟩ [] <|
 .step ⟨(some p66), (some (p60, true)), .op (.load1 t65)⟩ [] <|
 .step ⟨(some p67), (some (p60, true)), .call n58 [t61, t66]⟩ [] <|
 .step ⟨(some p68), (some (p60, true)), .op (.not t67)⟩ [] <|
 .step ⟨(some p69), (some (p52, false)), .op (.pick t60 t68 q0)⟩ [] <|
 o p70 (.pick t52 q12 t69) <|
 .done) <|
 .cond t70 (.seq (.region <|
 m p5 q7 <|
 m p6 q0 <|
 .done) <|
 .ret) <|
 .skip) <|
 .region <|
 o p71 (.ar .add t32 q3) <|
 m p32 t71 <|
 .done) <|
 .seq (.region <|
 m p72 t7 <|
 m p73 t7 <|
 o p74 (.len t73) <|
 m p75 t1 <|
 o p76 (.nilchk t75) <|
 o p77 (.fieldA n0 t76) <|
 o p78 (.fieldA n1 t77) <|
 o p79 (.load1 t78) <|
 o p80 (.cmp .eql t74 t79) <|
 m p5 t72 <|
 m p6 t80 <|
 .done) <|
 .ret, [.tmp p5, .tmp p6]⟩
theorem c28 : compFn Tryz.prog pl28 Tryz.f28 = some F28 := by kernel_rfl

def pl29 : Plans := []
def F29 : CFun := ⟨n7, .seq (.region <|
 o p3 (.alloc z7) <|
 .done) <|
 .seq (.region <|
 m p4 t1 <|
 o p5 (.nilchk t4) <|
 o p6 (.fieldA n0 t5) <|
 o p7 (.loadN n28 t6) <|
 e (.storeN n28 t3 t7) <|
 .done) <|
 .ret, [.cellN n28 p3]⟩
theorem c29 : compFn Tryz.prog pl29 Tryz.f29 = some F29 := by kernel_rfl

def pl30 : Plans := [(10, [K [] [7] 49, K [0] [49] 50, K [1] [50] 51, K [2] [51] 52, K [3] [52] 53, K [4] [53] 54, K [5] [4, 54] 55, K [6, 5] [55, 54] 56, K [5] [7, 54] 57, K [8, 5] [57, 54] 58, K [9, 5] [58, 54] 59, K [10, 5] [59, 54] 60, K [7, 11, 5] [56, 60, 54] 61, K [5, 12] [54, 61] 62, K [13, 5] [62] 48], [Q 0 1 (r 1 14 []), Q 1 1 (r 2 13 []), Q 2 1 (r 3 12 []), Q 3 2 (r 4 11 []), Q 4 1 (r 5 10 []), Q 5 1 (r 6 9 []), Q 6 1 [7, 12, 13, 14], Q 7 2 [12, 13, 14], Q 8 1 (r 9 6 []), Q 9 1 (r 10 5 []), Q 10 1 [11, 12, 13, 14], Q 11 2 [12, 13, 14], Q 12 1 [13, 14], Q 13 1 [14], Q 14 1 []], .node (Q 0 1 (r 1 14 [])) <| .node (Q 1 1 (r 2 13 [])) <| .node (Q 2 1 (r 3 12 [])) <| .node (Q 3 2 (r 4 11 [])) <| .node (Q 4 1 (r 5 10 [])) <| .node (Q 5 1 (r 6 9 [])) <| .node (Q 6 1 [7, 12, 13, 14]) <| .node (Q 7 2 [12, 13, 14]) <| .node (Q 8 1 (r 9 6 [])) <| .node (Q 9 1 (r 10 5 [])) <| .node (Q 10 1 [11, 12, 13, 14]) <| .node (Q 11 2 [12, 13, 14]) <| .node (Q 12 1 [13, 14]) <| .node (Q 13 1 [14]) <| .node (Q 14 1 []) <| .done),
  (7, [K [] [7] 32, K [] [4] 33, K [1] [33] 34, K [] [2] 35, K [] [4] 36, K [4] [36] 37, K [5] [37] 38, K [2, 3, 6] [34, 35, 38] 39, K (0 :: (r 0 8 [])) [32] 40, J (8 :: 7 :: 6 :: (r 0 8 [])) [40, 39]], [Q 0 1 [8, 9], Q 1 1 [2, 7, 8, 9], Q 2 2 [7, 8, 9], Q 3 1 [7, 8, 9], Q 4 1 (r 5 5 []), Q 5 2 [6, 7, 8, 9], Q 6 0 [], Q 7 1 [8, 9], Q 8 1 [9], Q 9 0 []], .node (Q 0 1 [8, 9]) <| .node (Q 1 1 [2, 7, 8, 9]) <| .node (Q 2 2 [7, 8, 9]) <| .node (Q 3 1 [7, 8, 9]) <| .node (Q 4 1 (r 5 5 [])) <| .node (Q 5 2 [6, 7, 8, 9]) <| .node (Q 6 0 []) <| .node (Q 7 1 [8, 9]) <| .node (Q 8 1 [9]) <| .node (Q 9 0 []) <| .done),
  (5, [K [] [4] 25, K [0] [25] 26, K [] [7] 27, K [2] [27] 28, K [3] [28] 29, K [4] [29] 30, K [1, 5] [26, 30] 31], [Q 0 1 [1, 6], Q 1 2 [6], Q 2 1 [3, 4, 5, 6], Q 3 1 [4, 5, 6], Q 4 1 [5, 6], Q 5 2 [6], Q 6 1 []], .node (Q 0 1 [1, 6]) <| .node (Q 1 2 [6]) <| .node (Q 2 1 [3, 4, 5, 6]) <| .node (Q 3 1 [4, 5, 6]) <| .node (Q 4 1 [5, 6]) <| .node (Q 5 2 [6]) <| .node (Q 6 1 []) <| .done),
  (3, [K [] [0] 16, K [] [4] 17, K [1] [17] 18, K [0] [16] 19, K [3] [19] 20, K [4, 2] [20, 18] 21, K (5 :: (r 0 6 [])) [21] 7], [Q 0 1 [3, 4, 5, 6], Q 1 1 [2, 5, 6], Q 2 2 [5, 6], Q 3 1 [4, 5, 6], Q 4 1 [5, 6], Q 5 1 [6], Q 6 1 []], .node (Q 0 1 [3, 4, 5, 6]) <| .node (Q 1 1 [2, 5, 6]) <| .node (Q 2 2 [5, 6]) <| .node (Q 3 1 [4, 5, 6]) <| .node (Q 4 1 [5, 6]) <| .node (Q 5 1 [6]) <| .node (Q 6 1 []) <| .done)]
def F30 : CFun := ⟨n73, .seq (.region <|
 o p5 (.box t2) <|
 m p7 q1 <|
 .done) <|
 .seq (.seq (.region <|
 o p9 (.loadN n22 t5) <|
 a p10 n23 [t9] <|
 o p11 (.not t10) <|
 m p12 t11 <|
 .step ⟨(some p13), (some (p12, false)), .op (.loadN n22 t5)⟩ [] <|
 .step ⟨(some p14), (some (p12, false)), .call n24 [t13]⟩ [] <|
 .step ⟨(some p15), (some (p12, false)), .op (.not t14)⟩ [] <|
 o p16 (.pick t12 q12 t15) <|
 .done) <|
 .cond t16 (.seq (.region <|
 m p7 q15 <|
 .done) <|
 .ret) <|
 .skip) <|
 .seq (.region <|
 m p17 t1 <|
 o p18 (.fieldA n16 t5) <|
 o p19 (.load1 t18) <|
 o p20 (.nilchk t17) <|
 o p21 (.fieldA n0 t20) <|
 o p22 (.idxA n4 n7 t21 t19) <|
 m p8 t22 <|
 .done) <|
 .seq (.seq (.region <|
 o p23 (.fieldA n0 t5) <|
 o p24 (.load1 t23) <|
 o p25 (.cmp .eql t24 q22) <|
 .done) <|
 .cond t25 (.seq (.seq (.region <|
 o p26 (.fieldA n17 t5) <|
 o p27 (.load1 t26) <|
 m p28 t8 <|
 o p29 (.nilchk t28) <|
 o p30 (.fieldA n1 t29) <|
 o p31 (.load1 t30) <|
 o p32 (.cmp .leq t27 t31) <|
 .done) <|
 .cond t32 (.seq (.region <|
 m p7 q16 <|
 .done) <|
 .ret) <|
 .skip) <|
 .seq (.region <|
 m p33 t8 <|
 o p34 (.fieldA n17 t5) <|
 o p35 (.load1 t34) <|
 m p36 t3 <|
 o p37 (.fieldA n18 t5) <|
 o p38 (.loadN n4 t37) <|
 .step ⟨(some p39), none, .call n59 [t38]⟩ [⟨(some p35), none, .op (.load1 t34)⟩] <|
 o p40 (.build z13 [(n0, n1, q12), (n1, n1, t35), (n2, n1, t36), (n3, n4, t39)]) <|
 o p41 (.nilchk t33) <|
 e (.storeN n7 t41 t40) <|
 .done) <|
 .seq (.region <|
 m p7 q1 <|
 .done) <|
 .ret) <|
 .skip) <|
 .seq (.block n0 <| .seq (.region <|
 m p50 t8 <|
 o p51 (.nilchk t50) <|
 o p52 (.fieldA n0 t51) <|
 o p53 (.load1 t52) <|
 o p54 (.not t53) <|
 m p55 t54 <|
 .step ⟨(some p56), (some (p55, false)), .op (.fieldA n17 t5)⟩ [] <|
 .step ⟨(some p57), (some (p55, false)), .op (.load1 t56)⟩ [] <|
 .step ⟨(some p58), (some (p55, false)), .op (.move t8)⟩ [] <|
 .step ⟨(some p59), (some (p55, false)), .op (.nilchk t58)⟩ [] <|
 .step ⟨(some p60), (some (p55, false)), .op (.fieldA n1 t59)⟩ [] <|
 .step ⟨(some p61), (some (p55, false)), .op (.load1 t60)⟩ [] <|
 .step ⟨(some p62), (some (p55, false)), .op (.cmp .neq t57 t61)⟩ [] <|
 o p63 (.pick t55 q12 t62) <|
 m p49 t63 <|
 .done) <|
 .cond t49 (.seq (.region <|
 m p7 q16 <|
 .done) <|
 .ret) <|
 .seq (.region <|
 o p65 (.fieldA n0 t5) <|
 o p66 (.load1 t65) <|
 o p67 (.cmp .eql t66 q25) <|
 m p64 t67 <|
 .done) <|
 .cond t64 (.region <|
 m p68 t8 <|
 o p69 (.fieldA n18 t5) <|
 o p70 (.loadN n4 t69) <|
 a p71 n59 [t70] <|
 o p72 (.nilchk t68) <|
 o p73 (.fieldA n3 t72) <|
 e (.storeN n4 t73 t71) <|
 .done) <|
 .region <|
 m p42 t8 <|
 m p43 t8 <|
 o p44 (.build z14 []) <|
 o p45 (.nilchk t42) <|
 o p46 (.fieldA n0 t45) <|
 e (.store1 t46 q0) <|
 o p47 (.nilchk t43) <|
 o p48 (.fieldA n3 t47) <|
 e (.storeN n4 t48 t44) <|
 .done) <|
 .seq (.region <|
 m p7 q1 <|
 .done) <|
 .ret, [.tmp p7]⟩
theorem c30 : compFn Tryz.prog pl30 Tryz.f30 = some F30 := by kernel_rfl

def pl31 : Plans := [(9, [K [] [0] 38, K [] [1] 39, K [] [3] 40, K [] [0] 41, K [] [1] 42, K [3] [41] 43, K [5] [43] 44, K [6, 4] [44, 42] 45, K [7] [45] 46, K [8] [46] 47, K [9] [47] 48, K [2, 10] [40, 48] 49, K [0] [38] 50, K [12] [50] 51, K (13 :: 1 :: (r 0 12 [])) [51, 39] 52, J (14 :: 11 :: (r 0 12 [])) [52, 49]], [Q 0 1 [12, 13, 14, 15], Q 1 1 [14, 15], Q 2 1 [11, 14, 15], Q 3 1 (r 5 7 [14, 15]), Q 4 1 (r 7 5 [14, 15]), Q 5 1 (r 6 6 [14, 15]), Q 6 1 (r 7 5 [14, 15]), Q 7 1 [8, 9, 10, 11, 14, 15], Q 8 1 [9, 10, 11, 14, 15], Q 9 2 [10, 11, 14, 15], Q 10 1 [11, 14, 15], Q 11 1 [14, 15], Q 12 1 [13, 14, 15], Q 13 1 [14, 15], Q 14 1 [15], Q 15 0 []], .node (Q 0 1 [12, 13, 14, 15]) <| .node (Q 1 1 [14, 15]) <| .node (Q 2 1 [11, 14, 15]) <| .node (Q 3 1 (r 5 7 [14, 15])) <| .node (Q 4 1 (r 7 5 [14, 15])) <| .node (Q 5 1 (r 6 6 [14, 15])) <| .node (Q 6 1 (r 7 5 [14, 15])) <| .node (Q 7 1 [8, 9, 10, 11, 14, 15]) <| .node (Q 8 1 [9, 10, 11, 14, 15]) <| .node (Q 9 2 [10, 11, 14, 15]) <| .node (Q 10 1 [11, 14, 15]) <| .node (Q 11 1 [14, 15]) <| .node (Q 12 1 [13, 14, 15]) <| .node (Q 13 1 [14, 15]) <| .node (Q 14 1 [15]) <| .node (Q 15 0 []) <| .done)]
def F31 : CFun := ⟨n53, .seq (.region <|
 m p9 q1 <|
 .done) <|
 .seq (.block n0 <| .seq (.region <|
 m p11 t2 <|
 a p12 n50 [t11] <|
 o p13 (.not t12) <|
 m p10 t13 <|
 .done) <|
 .cond t10 (.seq (.region <|
 m p9 q15 <|
 .done) <|
 .ret) <|
 .seq (.region <|
 m p15 t4 <|
 o p16 (.cmp .lss t15 q1) <|
 m p17 t16 <|
 .step ⟨(some p18), (some (p17, false)), .op (.move t4)⟩ [] <|
 .step ⟨(some p19), (some (p17, false)), .op (.move t1)⟩ [] <|
 .step ⟨(some p20), (some (p17, false)), .op (.nilchk t19)⟩ [] <|
 .step ⟨(some p21), (some (p17, false)), .op (.fieldA n0 t20)⟩ [] <|
 .step ⟨(some p22), (some (p17, false)), .op (.load1 t21)⟩ [] <|
 .step ⟨(some p23), (some (p17, false)), .op (.cmp .geq t18 t22)⟩ [] <|
 o p24 (.pick t17 q12 t23) <|
 m p14 t24 <|
 .done) <|
 .cond t14 (.seq (.region <|
 m p9 q23 <|
 .done) <|
 .ret) <|
 .seq (.region <|
 m p26 t1 <|
 m p27 t2 <|
 o p28 (.nilchk t26) <|
 o p29 (.fieldA n1 t28) <|
 o p30 (.idxA n16 n2 t29 t27) <|
 o p31 (.fieldA n0 t30) <|
 o p32 (.load1 t31) <|
 m p33 t3 <|
 o p34 (.cmp .neq t32 t33) <|
 m p25 t34 <|
 .done) <|
 .cond t25 (.seq (.region <|
 m p9 q11 <|
 .done) <|
 .ret) <|
 .seq (.region <|
 m p36 t4 <|
 m p37 t3 <|
 o p38 (.cmp .eql t36 t37) <|
 m p35 t38 <|
 .done) <|
 .cond t35 (.seq (.region <|
 m p9 q23 <|
 .done) <|
 .ret) <|
 .skip) <|
 .seq (.region <|
 m p39 t1 <|
 m p40 t2 <|
 m p41 t4 <|
 m p42 t1 <|
 m p43 t2 <|
 o p44 (.nilchk t42) <|
 o p45 (.fieldA n1 t44) <|
 o p46 (.idxA n16 n2 t45 t43) <|
 o p47 (.fieldA n1 t46) <|
 o p48 (.load1 t47) <|
 o p49 (.ar .add t48 q3) <|
 o p50 (.build z0 [(n0, n1, t41), (n1, n1, t49)]) <|
 o p51 (.nilchk t39) <|
 o p52 (.fieldA n1 t51) <|
 o p53 (.idxA n16 n2 t52 t40) <|
 e (.storeN n2 t53 t50) <|
 .done) <|
 .seq (.region <|
 m p9 q1 <|
 .done) <|
 .ret, [.tmp p9]⟩
theorem c31 : compFn Tryz.prog pl31 Tryz.f31 = some F31 := by kernel_rfl

def pl32 : Plans := [(5, [K [] [0] 31, K [0] [31] 32, K [1] [32] 33, K [2] [33] 34, K [] [3] 35, K [4] [35] 36, K [] [3] 37, K [6] [37] 38, K [3, 5, 7] [34, 36, 38] 39], [Q 0 1 [1, 2, 3, 8], Q 1 1 [2, 3, 8], Q 2 1 [3, 8], Q 3 2 [8], Q 4 1 [5, 8], Q 5 2 [8], Q 6 1 [7, 8], Q 7 2 [8], Q 8 0 []], .node (Q 0 1 [1, 2, 3, 8]) <| .node (Q 1 1 [2, 3, 8]) <| .node (Q 2 1 [3, 8]) <| .node (Q 3 2 [8]) <| .node (Q 4 1 [5, 8]) <| .node (Q 5 2 [8]) <| .node (Q 6 1 [7, 8]) <| .node (Q 7 2 [8]) <| .node (Q 8 0 []) <| .done),
  (4, [K [] [0] 24, K [0] [24] 25, K [1] [25] 26, K [2] [26] 27, K [] [3] 28, K [4] [28] 29, K [] [3] 30, J (3 :: 5 :: 6 :: (r 0 7 [])) [27, 29, 30]], [Q 0 1 [1, 2, 3, 7], Q 1 1 [2, 3, 7], Q 2 1 [3, 7], Q 3 2 [7], Q 4 1 [5, 7], Q 5 2 [7], Q 6 2 [7], Q 7 0 []], .node (Q 0 1 [1, 2, 3, 7]) <| .node (Q 1 1 [2, 3, 7]) <| .node (Q 2 1 [3, 7]) <| .node (Q 3 2 [7]) <| .node (Q 4 1 [5, 7]) <| .node (Q 5 2 [7]) <| .node (Q 6 2 [7]) <| .node (Q 7 0 []) <| .done),
  (3, [K [] [0] 17, K [0] [17] 18, K [1] [18] 19, K [2] [19] 20, K [] [3] 21, K [4] [21] 22, K [3, 5] [20, 22] 23], [Q 0 1 [1, 2, 3, 6], Q 1 1 [2, 3, 6], Q 2 1 [3, 6], Q 3 2 [6], Q 4 1 [5, 6], Q 5 2 [6], Q 6 0 []], .node (Q 0 1 [1, 2, 3, 6]) <| .node (Q 1 1 [2, 3, 6]) <| .node (Q 2 1 [3, 6]) <| .node (Q 3 2 [6]) <| .node (Q 4 1 [5, 6]) <| .node (Q 5 2 [6]) <| .node (Q 6 0 []) <| .done),
  (1, [K [] [0] 7, K [0] [7] 8, K [1] [8] 9, K [2] [9] 10, K [] [3] 11, K [4] [11] 12, K [3, 5] [10, 12] 13, K [6] [13] 6, K [7] [6] 14, K [7] [6] 15, K [] [] 4, J (10 :: 8 :: (r 0 9 [10])) [4, 14], K (9 :: 11 :: (r 0 12 [])) [15] 5], [Q 0 1 [1, 2, 3, 6, 7, 8, 9, 11, 12], Q 1 1 [2, 3, 6, 7, 8, 9, 11, 12], Q 2 1 [3, 6, 7, 8, 9, 11, 12], Q 3 2 [6, 7, 8, 9, 11, 12], Q 4 1 (r 5 5 [11, 12]), Q 5 2 [6, 7, 8, 9, 11, 12], Q 6 2 [7, 8, 9, 11, 12], Q 7 1 [8, 9, 11, 12], Q 8 1 [11, 12], Q 9 1 [12], Q 10 0 [], Q 11 0 [], Q 12 1 []], .node (Q 0 1 [1, 2, 3, 6, 7, 8, 9, 11, 12]) <| .node (Q 1 1 [2, 3, 6, 7, 8, 9, 11, 12]) <| .node (Q 2 1 [3, 6, 7, 8, 9, 11, 12]) <| .node (Q 3 2 [6, 7, 8, 9, 11, 12]) <| .node (Q 4 1 (r 5 5 [11, 12])) <| .node (Q 5 2 [6, 7, 8, 9, 11, 12]) <| .node (Q 6 2 [7, 8, 9, 11, 12]) <| .node (Q 7 1 [8, 9, 11, 12]) <| .node (Q 8 1 [11, 12]) <| .node (Q 9 1 [12]) <| .node (Q 10 0 []) <| .node (Q 11 0 []) <| .node (Q 12 1 []) <| .done)]
def F32 : CFun := ⟨n40, .seq (.region <|
 o p4 (.box t2) <|
 .done) <|
 .seq (.seq (.region <|
 m p8 t1 <|
 o p9 (.nilchk t8) <|
 o p10 (.fieldA n0 t9) <|
 o p11 (.load1 t10) <|
 o p12 (.fieldA n0 t4) <|
 o p13 (.load1 t12) <|
 o p14 (.lookup false v0 true t11 t13) <|
 m p7 t14 <|
 o p15 (.extract n0 t7) <|
 o p16 (.extract n1 t7) <|
 .step ⟨(some p5), none, .op (.alloc z8)⟩ [⟨(some p11), none, .op (.load1 t10)⟩, ⟨(some p13), none, .op (.load1 t12)⟩, ⟨(some p14), none, .op (.lookup false v0 true t11 t13)⟩] <|
 e (.storeN n11 t5 t15) <|
 m p6 t16 <|
 .done) <|
 .seq (.region <|
 m p17 t6 <|
 .done) <|
 .cond t17 (.region <|
 m p18 t1 <|
 o p19 (.nilchk t18) <|
 o p20 (.fieldA n1 t19) <|
 o p21 (.load1 t20) <|
 o p22 (.fieldA n0 t4) <|
 o p23 (.load1 t22) <|
 a p24 n60 [t21, t23] <|
 .done) <|
 .skip) <|
 .seq (.region <|
 m p25 t1 <|
 o p26 (.nilchk t25) <|
 o p27 (.fieldA n0 t26) <|
 o p28 (.load1 t27) <|
 o p29 (.fieldA n0 t4) <|
 o p30 (.load1 t29) <|
 o p31 (.loadN n11 t4) <|
 e (.mapup false t28 t30 t31) <|
 .done) <|
 .region <|
 m p32 t1 <|
 o p33 (.nilchk t32) <|
 o p34 (.fieldA n1 t33) <|
 o p35 (.load1 t34) <|
 o p36 (.fieldA n0 t4) <|
 o p37 (.load1 t36) <|
 o p38 (.fieldA n1 t4) <|
 o p39 (.loadN n2 t38) <|
 a p40 n61 [t35, t37, t39] <|
 .done, []⟩
theorem c32 : compFn Tryz.prog pl32 Tryz.f32 = some F32 := by kernel_rfl

def pl33 : Plans := [(5, [K [] [7] 18, K [0] [18] 19, K [1] [19] 20, K [] [7] 21, K [3] [21] 22, K [2, 4, 2] [20, 22] 23, K [5] [23] 24, K [] [] 25], [Q 0 1 [1, 2, 5, 6], Q 1 2 [2, 5, 6], Q 2 0 [], Q 3 1 [4, 5, 6], Q 4 2 [5, 6], Q 5 0 [], Q 6 1 [], Q 7 1 []], .node (Q 0 1 [1, 2, 5, 6]) <| .node (Q 1 2 [2, 5, 6]) <| .node (Q 3 1 [4, 5, 6]) <| .node (Q 4 2 [5, 6]) <| .node (Q 7 1 []) <| .node (Q 2 0 []) <| .node (Q 5 0 []) <| .node (Q 6 1 []) <| .done)]
def F33 : CFun := ⟨n50, .seq (.region <|
 m p5 q7 <|
 .done) <|
 .seq (.region <|
 m p6 q7 <|
 .done) <|
 .seq (.seq (.region <|
 m p13 t2 <|
 o p14 (.len t13) <|
 m p15 q1 <|
 .done) <|
 .block n0 <| .loop <| .seq (.region <|
 o p16 (.cmp .lss t15 t14) <|
 .done) <|
 .seq (.cond t16 (.skip) <|
 .exit n0) <|
 .seq (.block n1 <| .seq (.region <|
 o p17 (.idxS n6 t13 t15) <|
 o p18 (.loadN n6 t17) <|
 o p8 (.alloc z3) <|
 e (.storeN n6 t8 t18) <|
 .done) <|
 .scope <| .seq (.skip) <|
 .seq (.region <|
 o p19 (.fieldA n2 t8) <|
 o p20 (.load1 t19) <|
 o p22 (.fieldA n4 t8) <|
 o p23 (.load1 t22) <|
 m p26 q1 <|
 .step ⟨(some p21), none, .call n62 [t20]⟩ [⟨(some p23), none, .op (.load1 t22)⟩] <|
 o p24 (.append n120 n11 t21 t23) <|
 o p25 (.len t24) <|
 .done) <|
 .block n2 <| .loop <| .seq (.region <|
 o p27 (.cmp .lss t26 t25) <|
 .done) <|
 .seq (.cond t27 (.skip) <|
 .exit n2) <|
 .seq (.block n3 <| .seq (.region <|
 o p28 (.idxS n11 t24 t26) <|
 o p29 (.loadN n11 t28) <|
 o p10 (.alloc z8) <|
 e (.storeN n11 t10 t29) <|
 .done) <|
 .seq (.region <|
 o p31 (.fieldA n1 t10) <|
 o p32 (.loadN n2 t31) <|
 a p33 n51 [t32] <|
 m p30 t33 <|
 o p34 (.extract n0 t30) <|
 o p35 (.extract n1 t30) <|
 m p11 t34 <|
 m p12 t35 <|
 .done) <|
 .seq (.seq (.region <|
 m p36 t12 <|
 o p37 (.cmp .neq t36 q1) <|
 m p38 t37 <|
 .step ⟨(some p39), (some (p38, false)), .op (.move t1)⟩ [] <|
 .step ⟨(some p40), (some (p38, false)), .op (.move t11)⟩ [] <|
 .step ⟨(some p41), (some (p38, false)), .call n41 [t39, t40]⟩ [] <|
 .step ⟨(some p42), (some (p38, false)), .op (.not t41)⟩ [] <|
 o p43 (.pick t38 q12 t42) <|
 .done) <|
 .cond t43 (.exit n3) <|
 .skip) <|
 .region <|
 m p44 t6 <|
 o p45 (.loadN n11 t10) <|
 o p46 (.bslice z8 n11 n1 [(n0, n11, t45)]) <|
 o p47 (.append n120 n11 t44 t46) <|
 m p6 t47 <|
 .done) <|
 .region <|
 o p48 (.ar .add t26 q3) <|
 m p26 t48 <|
 .done) <|
 .region <|
 o p49 (.ar .add t15 q3) <|
 m p15 t49 <|
 .done) <|
 .seq (.region <|
 m p50 t6 <|
 m p5 t50 <|
 .done) <|
 .ret, [.tmp p5]⟩
theorem c33 : compFn Tryz.prog pl33 Tryz.f33 = some F33 := by kernel_rfl

end Go.Ev.Fs
