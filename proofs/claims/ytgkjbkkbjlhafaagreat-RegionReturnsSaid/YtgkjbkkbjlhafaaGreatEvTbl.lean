/- Printed by table.py: the table of functions, and that it is the program's. -/
import Derived.Test.YtgkjbkkbjlhafaaGreatEvG0
import Derived.Test.YtgkjbkkbjlhafaaGreatEvG1
import Derived.Test.YtgkjbkkbjlhafaaGreatEvG2
import Derived.Test.YtgkjbkkbjlhafaaGreatEvG3
import Derived.Test.YtgkjbkkbjlhafaaGreatEvSo
set_option maxRecDepth 100000
namespace Go.Ev.Fs
open Go Go.Proofs Go.Ev

theorem enters_ {P : Program} {f : FuncId} {fn : Func} {c : Code} (hf : P.funcs[f]? = some fn) (hname : (fn.name == "runtime.NumGoroutine") = false) (hb : fn.body = some c) : Enters P f := by
  intro args w
  have h1 : fn.name ≠ "runtime.NumGoroutine" := by simpa using hname
  simp [callFunc, hf, h1, hb, mark]

theorem h3 : FunOk Tryz.prog 3 F3 := ⟨enters_ Tryz.func3 (by kernel_rfl) rfl, _, _, Tryz.func3, c3⟩
theorem h4 : FunOk Tryz.prog 4 F4 := ⟨enters_ Tryz.func4 (by kernel_rfl) rfl, _, _, Tryz.func4, c4⟩
theorem h6 : FunOk Tryz.prog 6 F6 := ⟨enters_ Tryz.func6 (by kernel_rfl) rfl, _, _, Tryz.func6, c6⟩
theorem h7 : FunOk Tryz.prog 7 F7 := ⟨enters_ Tryz.func7 (by kernel_rfl) rfl, _, _, Tryz.func7, c7⟩
theorem h8 : FunOk Tryz.prog 8 F8 := ⟨enters_ Tryz.func8 (by kernel_rfl) rfl, _, _, Tryz.func8, c8⟩
theorem h9 : FunOk Tryz.prog 9 F9 := ⟨enters_ Tryz.func9 (by kernel_rfl) rfl, _, _, Tryz.func9, c9⟩
theorem h10 : FunOk Tryz.prog 10 F10 := ⟨enters_ Tryz.func10 (by kernel_rfl) rfl, _, _, Tryz.func10, c10⟩
theorem h11 : FunOk Tryz.prog 11 F11 := ⟨enters_ Tryz.func11 (by kernel_rfl) rfl, _, _, Tryz.func11, c11⟩
theorem h12 : FunOk Tryz.prog 12 F12 := ⟨enters_ Tryz.func12 (by kernel_rfl) rfl, _, _, Tryz.func12, c12⟩
theorem h13 : FunOk Tryz.prog 13 F13 := ⟨enters_ Tryz.func13 (by kernel_rfl) rfl, _, _, Tryz.func13, c13⟩
theorem h14 : FunOk Tryz.prog 14 F14 := ⟨enters_ Tryz.func14 (by kernel_rfl) rfl, _, _, Tryz.func14, c14⟩
theorem h15 : FunOk Tryz.prog 15 F15 := ⟨enters_ Tryz.func15 (by kernel_rfl) rfl, _, _, Tryz.func15, c15⟩
theorem h16 : FunOk Tryz.prog 16 F16 := ⟨enters_ Tryz.func16 (by kernel_rfl) rfl, _, _, Tryz.func16, c16⟩
theorem h17 : FunOk Tryz.prog 17 F17 := ⟨enters_ Tryz.func17 (by kernel_rfl) rfl, _, _, Tryz.func17, c17⟩
theorem h18 : FunOk Tryz.prog 18 F18 := ⟨enters_ Tryz.func18 (by kernel_rfl) rfl, _, _, Tryz.func18, c18⟩
theorem h19 : FunOk Tryz.prog 19 F19 := ⟨enters_ Tryz.func19 (by kernel_rfl) rfl, _, _, Tryz.func19, c19⟩
theorem h20 : FunOk Tryz.prog 20 F20 := ⟨enters_ Tryz.func20 (by kernel_rfl) rfl, _, _, Tryz.func20, c20⟩
theorem h21 : FunOk Tryz.prog 21 F21 := ⟨enters_ Tryz.func21 (by kernel_rfl) rfl, _, _, Tryz.func21, c21⟩
theorem h22 : FunOk Tryz.prog 22 F22 := ⟨enters_ Tryz.func22 (by kernel_rfl) rfl, _, _, Tryz.func22, c22⟩
theorem h23 : FunOk Tryz.prog 23 F23 := ⟨enters_ Tryz.func23 (by kernel_rfl) rfl, _, _, Tryz.func23, c23⟩
theorem h24 : FunOk Tryz.prog 24 F24 := ⟨enters_ Tryz.func24 (by kernel_rfl) rfl, _, _, Tryz.func24, c24⟩
theorem h25 : FunOk Tryz.prog 25 F25 := ⟨enters_ Tryz.func25 (by kernel_rfl) rfl, _, _, Tryz.func25, c25⟩
theorem h26 : FunOk Tryz.prog 26 F26 := ⟨enters_ Tryz.func26 (by kernel_rfl) rfl, _, _, Tryz.func26, c26⟩
theorem h27 : FunOk Tryz.prog 27 F27 := ⟨enters_ Tryz.func27 (by kernel_rfl) rfl, _, _, Tryz.func27, c27⟩
theorem h28 : FunOk Tryz.prog 28 F28 := ⟨enters_ Tryz.func28 (by kernel_rfl) rfl, _, _, Tryz.func28, c28⟩
theorem h29 : FunOk Tryz.prog 29 F29 := ⟨enters_ Tryz.func29 (by kernel_rfl) rfl, _, _, Tryz.func29, c29⟩
theorem h30 : FunOk Tryz.prog 30 F30 := ⟨enters_ Tryz.func30 (by kernel_rfl) rfl, _, _, Tryz.func30, c30⟩
theorem h31 : FunOk Tryz.prog 31 F31 := ⟨enters_ Tryz.func31 (by kernel_rfl) rfl, _, _, Tryz.func31, c31⟩
theorem h32 : FunOk Tryz.prog 32 F32 := ⟨enters_ Tryz.func32 (by kernel_rfl) rfl, _, _, Tryz.func32, c32⟩
theorem h33 : FunOk Tryz.prog 33 F33 := ⟨enters_ Tryz.func33 (by kernel_rfl) rfl, _, _, Tryz.func33, c33⟩
theorem h34 : FunOk Tryz.prog 34 F34 := ⟨enters_ Tryz.func34 (by kernel_rfl) rfl, _, _, Tryz.func34, c34⟩
theorem h35 : FunOk Tryz.prog 35 F35 := ⟨enters_ Tryz.func35 (by kernel_rfl) rfl, _, _, Tryz.func35, c35⟩
theorem h36 : FunOk Tryz.prog 36 F36 := ⟨enters_ Tryz.func36 (by kernel_rfl) rfl, _, _, Tryz.func36, c36⟩
theorem h37 : FunOk Tryz.prog 37 F37 := ⟨enters_ Tryz.func37 (by kernel_rfl) rfl, _, _, Tryz.func37, c37⟩
theorem h38 : FunOk Tryz.prog 38 F38 := ⟨enters_ Tryz.func38 (by kernel_rfl) rfl, _, _, Tryz.func38, c38⟩
theorem h39 : FunOk Tryz.prog 39 F39 := ⟨enters_ Tryz.func39 (by kernel_rfl) rfl, _, _, Tryz.func39, c39⟩
theorem h40 : FunOk Tryz.prog 40 F40 := ⟨enters_ Tryz.func40 (by kernel_rfl) rfl, _, _, Tryz.func40, c40⟩
theorem h41 : FunOk Tryz.prog 41 F41 := ⟨enters_ Tryz.func41 (by kernel_rfl) rfl, _, _, Tryz.func41, c41⟩
theorem h42 : FunOk Tryz.prog 42 F42 := ⟨enters_ Tryz.func42 (by kernel_rfl) rfl, _, _, Tryz.func42, c42⟩
theorem h43 : FunOk Tryz.prog 43 F43 := ⟨enters_ Tryz.func43 (by kernel_rfl) rfl, _, _, Tryz.func43, c43⟩
theorem h44 : FunOk Tryz.prog 44 F44 := ⟨enters_ Tryz.func44 (by kernel_rfl) rfl, _, _, Tryz.func44, c44⟩
theorem h45 : FunOk Tryz.prog 45 F45 := ⟨enters_ Tryz.func45 (by kernel_rfl) rfl, _, _, Tryz.func45, c45⟩
theorem h46 : FunOk Tryz.prog 46 F46 := ⟨enters_ Tryz.func46 (by kernel_rfl) rfl, _, _, Tryz.func46, c46⟩
theorem h47 : FunOk Tryz.prog 47 F47 := ⟨enters_ Tryz.func47 (by kernel_rfl) rfl, _, _, Tryz.func47, c47⟩
theorem h48 : FunOk Tryz.prog 48 F48 := ⟨enters_ Tryz.func48 (by kernel_rfl) rfl, _, _, Tryz.func48, c48⟩
theorem h49 : FunOk Tryz.prog 49 F49 := ⟨enters_ Tryz.func49 (by kernel_rfl) rfl, _, _, Tryz.func49, c49⟩
theorem h50 : FunOk Tryz.prog 50 F50 := ⟨enters_ Tryz.func50 (by kernel_rfl) rfl, _, _, Tryz.func50, c50⟩
theorem h51 : FunOk Tryz.prog 51 F51 := ⟨enters_ Tryz.func51 (by kernel_rfl) rfl, _, _, Tryz.func51, c51⟩
theorem h52 : FunOk Tryz.prog 52 F52 := ⟨enters_ Tryz.func52 (by kernel_rfl) rfl, _, _, Tryz.func52, c52⟩
theorem h53 : FunOk Tryz.prog 53 F53 := ⟨enters_ Tryz.func53 (by kernel_rfl) rfl, _, _, Tryz.func53, c53⟩
theorem h54 : FunOk Tryz.prog 54 F54 := ⟨enters_ Tryz.func54 (by kernel_rfl) rfl, _, _, Tryz.func54, c54⟩
theorem h55 : FunOk Tryz.prog 55 F55 := ⟨enters_ Tryz.func55 (by kernel_rfl) rfl, _, _, Tryz.func55, c55⟩
theorem h56 : FunOk Tryz.prog 56 F56 := ⟨enters_ Tryz.func56 (by kernel_rfl) rfl, _, _, Tryz.func56, c56⟩
theorem h57 : FunOk Tryz.prog 57 F57 := ⟨enters_ Tryz.func57 (by kernel_rfl) rfl, _, _, Tryz.func57, c57⟩
theorem h58 : FunOk Tryz.prog 58 F58 := ⟨enters_ Tryz.func58 (by kernel_rfl) rfl, _, _, Tryz.func58, c58⟩
theorem h59 : FunOk Tryz.prog 59 F59 := ⟨enters_ Tryz.func59 (by kernel_rfl) rfl, _, _, Tryz.func59, c59⟩
theorem h60 : FunOk Tryz.prog 60 F60 := ⟨enters_ Tryz.func60 (by kernel_rfl) rfl, _, _, Tryz.func60, c60⟩
theorem h61 : FunOk Tryz.prog 61 F61 := ⟨enters_ Tryz.func61 (by kernel_rfl) rfl, _, _, Tryz.func61, c61⟩
theorem h62 : FunOk Tryz.prog 62 F62 := ⟨enters_ Tryz.func62 (by kernel_rfl) rfl, _, _, Tryz.func62, c62⟩
theorem h63 : FunOk Tryz.prog 63 F63 := ⟨enters_ Tryz.func63 (by kernel_rfl) rfl, _, _, Tryz.func63, c63⟩
theorem h64 : FunOk Tryz.prog 64 F64 := ⟨enters_ Tryz.func64 (by kernel_rfl) rfl, _, _, Tryz.func64, c64⟩
theorem h65 : FunOk Tryz.prog 65 F65 := ⟨enters_ Tryz.func65 (by kernel_rfl) rfl, _, _, Tryz.func65, c65⟩
theorem h66 : FunOk Tryz.prog 66 F66 := ⟨enters_ Tryz.func66 (by kernel_rfl) rfl, _, _, Tryz.func66, c66⟩
theorem h67 : FunOk Tryz.prog 67 F67 := ⟨enters_ Tryz.func67 (by kernel_rfl) rfl, _, _, Tryz.func67, c67⟩
theorem h68 : FunOk Tryz.prog 68 F68 := ⟨enters_ Tryz.func68 (by kernel_rfl) rfl, _, _, Tryz.func68, c68⟩
theorem h69 : FunOk Tryz.prog 69 F69 := ⟨enters_ Tryz.func69 (by kernel_rfl) rfl, _, _, Tryz.func69, c69⟩
theorem h70 : FunOk Tryz.prog 70 F70 := ⟨enters_ Tryz.func70 (by kernel_rfl) rfl, _, _, Tryz.func70, c70⟩
theorem h71 : FunOk Tryz.prog 71 F71 := ⟨enters_ Tryz.func71 (by kernel_rfl) rfl, _, _, Tryz.func71, c71⟩
theorem h72 : FunOk Tryz.prog 72 F72 := ⟨enters_ Tryz.func72 (by kernel_rfl) rfl, _, _, Tryz.func72, c72⟩
theorem h73 : FunOk Tryz.prog 73 F73 := ⟨enters_ Tryz.func73 (by kernel_rfl) rfl, _, _, Tryz.func73, c73⟩
theorem h74 : FunOk Tryz.prog 74 F74 := ⟨enters_ Tryz.func74 (by kernel_rfl) rfl, _, _, Tryz.func74, c74⟩
theorem h75 : FunOk Tryz.prog 75 F75 := ⟨enters_ Tryz.func75 (by kernel_rfl) rfl, _, _, Tryz.func75, c75⟩
theorem h76 : FunOk Tryz.prog 76 F76 := ⟨enters_ Tryz.func76 (by kernel_rfl) rfl, _, _, Tryz.func76, c76⟩
theorem h77 : FunOk Tryz.prog 77 F77 := ⟨enters_ Tryz.func77 (by kernel_rfl) rfl, _, _, Tryz.func77, c77⟩
theorem h78 : FunOk Tryz.prog 78 F78 := ⟨enters_ Tryz.func78 (by kernel_rfl) rfl, _, _, Tryz.func78, c78⟩
theorem h79 : FunOk Tryz.prog 79 F79 := ⟨enters_ Tryz.func79 (by kernel_rfl) rfl, _, _, Tryz.func79, c79⟩
theorem h80 : FunOk Tryz.prog 80 F80 := ⟨enters_ Tryz.func80 (by kernel_rfl) rfl, _, _, Tryz.func80, c80⟩
theorem h81 : FunOk Tryz.prog 81 F81 := ⟨enters_ Tryz.func81 (by kernel_rfl) rfl, _, _, Tryz.func81, c81⟩
theorem h82 : FunOk Tryz.prog 82 F82 := ⟨enters_ Tryz.func82 (by kernel_rfl) rfl, _, _, Tryz.func82, c82⟩
theorem h83 : FunOk Tryz.prog 83 F83 := ⟨enters_ Tryz.func83 (by kernel_rfl) rfl, _, _, Tryz.func83, c83⟩
theorem h84 : FunOk Tryz.prog 84 F84 := ⟨enters_ Tryz.func84 (by kernel_rfl) rfl, _, _, Tryz.func84, c84⟩
theorem h85 : FunOk Tryz.prog 85 F85 := ⟨enters_ Tryz.func85 (by kernel_rfl) rfl, _, _, Tryz.func85, c85⟩
theorem h86 : FunOk Tryz.prog 86 F86 := ⟨enters_ Tryz.func86 (by kernel_rfl) rfl, _, _, Tryz.func86, c86⟩
theorem h87 : FunOk Tryz.prog 87 F87 := ⟨enters_ Tryz.func87 (by kernel_rfl) rfl, _, _, Tryz.func87, c87⟩
theorem h88 : FunOk Tryz.prog 88 F88 := ⟨enters_ Tryz.func88 (by kernel_rfl) rfl, _, _, Tryz.func88, c88⟩
theorem h89 : FunOk Tryz.prog 89 F89 := ⟨enters_ Tryz.func89 (by kernel_rfl) rfl, _, _, Tryz.func89, c89⟩
theorem h90 : FunOk Tryz.prog 90 F90 := ⟨enters_ Tryz.func90 (by kernel_rfl) rfl, _, _, Tryz.func90, c90⟩
theorem h91 : FunOk Tryz.prog 91 F91 := ⟨enters_ Tryz.func91 (by kernel_rfl) rfl, _, _, Tryz.func91, c91⟩
theorem h92 : FunOk Tryz.prog 92 F92 := ⟨enters_ Tryz.func92 (by kernel_rfl) rfl, _, _, Tryz.func92, c92⟩
theorem h93 : FunOk Tryz.prog 93 F93 := ⟨enters_ Tryz.func93 (by kernel_rfl) rfl, _, _, Tryz.func93, c93⟩
theorem h94 : FunOk Tryz.prog 94 F94 := ⟨enters_ Tryz.func94 (by kernel_rfl) rfl, _, _, Tryz.func94, c94⟩
theorem h95 : FunOk Tryz.prog 95 F95 := ⟨enters_ Tryz.func95 (by kernel_rfl) rfl, _, _, Tryz.func95, c95⟩
theorem h97 : FunOk Tryz.prog 97 F97 := ⟨enters_ Tryz.func97 (by kernel_rfl) rfl, _, _, Tryz.func97, c97⟩
theorem h98 : FunOk Tryz.prog 98 F98 := ⟨enters_ Tryz.func98 (by kernel_rfl) rfl, _, _, Tryz.func98, c98⟩
theorem h99 : FunOk Tryz.prog 99 F99 := ⟨enters_ Tryz.func99 (by kernel_rfl) rfl, _, _, Tryz.func99, c99⟩
theorem h100 : FunOk Tryz.prog 100 F100 := ⟨enters_ Tryz.func100 (by kernel_rfl) rfl, _, _, Tryz.func100, c100⟩
theorem h101 : FunOk Tryz.prog 101 F101 := ⟨enters_ Tryz.func101 (by kernel_rfl) rfl, _, _, Tryz.func101, c101⟩
theorem h102 : FunOk Tryz.prog 102 F102 := ⟨enters_ Tryz.func102 (by kernel_rfl) rfl, _, _, Tryz.func102, c102⟩
theorem h103 : FunOk Tryz.prog 103 F103 := ⟨enters_ Tryz.func103 (by kernel_rfl) rfl, _, _, Tryz.func103, c103⟩
theorem h104 : FunOk Tryz.prog 104 F104 := ⟨enters_ Tryz.func104 (by kernel_rfl) rfl, _, _, Tryz.func104, c104⟩
theorem h105 : FunOk Tryz.prog 105 F105 := ⟨enters_ Tryz.func105 (by kernel_rfl) rfl, _, _, Tryz.func105, c105⟩
theorem h106 : FunOk Tryz.prog 106 F106 := ⟨enters_ Tryz.func106 (by kernel_rfl) rfl, _, _, Tryz.func106, c106⟩
theorem h107 : FunOk Tryz.prog 107 F107 := ⟨enters_ Tryz.func107 (by kernel_rfl) rfl, _, _, Tryz.func107, c107⟩
theorem h108 : FunOk Tryz.prog 108 F108 := ⟨enters_ Tryz.func108 (by kernel_rfl) rfl, _, _, Tryz.func108, c108⟩
theorem h109 : FunOk Tryz.prog 109 F109 := ⟨enters_ Tryz.func109 (by kernel_rfl) rfl, _, _, Tryz.func109, c109⟩
theorem h110 : FunOk Tryz.prog 110 F110 := ⟨enters_ Tryz.func110 (by kernel_rfl) rfl, _, _, Tryz.func110, c110⟩
theorem h111 : FunOk Tryz.prog 111 F111 := ⟨enters_ Tryz.func111 (by kernel_rfl) rfl, _, _, Tryz.func111, c111⟩
theorem h112 : FunOk Tryz.prog 112 F112 := ⟨enters_ Tryz.func112 (by kernel_rfl) rfl, _, _, Tryz.func112, c112⟩
theorem h113 : FunOk Tryz.prog 113 F113 := ⟨enters_ Tryz.func113 (by kernel_rfl) rfl, _, _, Tryz.func113, c113⟩
theorem h115 : FunOk Tryz.prog 115 F115 := ⟨enters_ Tryz.func115 (by kernel_rfl) rfl, _, _, Tryz.func115, c115⟩
theorem h116 : FunOk Tryz.prog 116 F116 := ⟨enters_ Tryz.func116 (by kernel_rfl) rfl, _, _, Tryz.func116, c116⟩
theorem h117 : FunOk Tryz.prog 117 F117 := ⟨enters_ Tryz.func117 (by kernel_rfl) rfl, _, _, Tryz.func117, c117⟩
theorem h118 : FunOk Tryz.prog 118 F118 := ⟨enters_ Tryz.func118 (by kernel_rfl) rfl, _, _, Tryz.func118, c118⟩
theorem h119 : FunOk Tryz.prog 119 F119 := ⟨enters_ Tryz.func119 (by kernel_rfl) rfl, _, _, Tryz.func119, c119⟩
theorem h120 : FunOk Tryz.prog 120 F120 := ⟨enters_ Tryz.func120 (by kernel_rfl) rfl, _, _, Tryz.func120, c120⟩
theorem h121 : FunOk Tryz.prog 121 F121 := ⟨enters_ Tryz.func121 (by kernel_rfl) rfl, _, _, Tryz.func121, c121⟩
theorem h122 : FunOk Tryz.prog 122 F122 := ⟨enters_ Tryz.func122 (by kernel_rfl) rfl, _, _, Tryz.func122, c122⟩
theorem h123 : FunOk Tryz.prog 123 F123 := ⟨enters_ Tryz.func123 (by kernel_rfl) rfl, _, _, Tryz.func123, c123⟩
theorem h124 : FunOk Tryz.prog 124 F124 := ⟨enters_ Tryz.func124 (by kernel_rfl) rfl, _, _, Tryz.func124, c124⟩
theorem h125 : FunOk Tryz.prog 125 F125 := ⟨enters_ Tryz.func125 (by kernel_rfl) rfl, _, _, Tryz.func125, c125⟩
theorem h126 : FunOk Tryz.prog 126 F126 := ⟨enters_ Tryz.func126 (by kernel_rfl) rfl, _, _, Tryz.func126, c126⟩
theorem h127 : FunOk Tryz.prog 127 F127 := ⟨enters_ Tryz.func127 (by kernel_rfl) rfl, _, _, Tryz.func127, c127⟩
theorem h128 : FunOk Tryz.prog 128 F128 := ⟨enters_ Tryz.func128 (by kernel_rfl) rfl, _, _, Tryz.func128, c128⟩
theorem h129 : FunOk Tryz.prog 129 F129 := ⟨enters_ Tryz.func129 (by kernel_rfl) rfl, _, _, Tryz.func129, c129⟩
theorem h130 : FunOk Tryz.prog 130 F130 := ⟨enters_ Tryz.func130 (by kernel_rfl) rfl, _, _, Tryz.func130, c130⟩
theorem h131 : FunOk Tryz.prog 131 F131 := ⟨enters_ Tryz.func131 (by kernel_rfl) rfl, _, _, Tryz.func131, c131⟩
theorem h132 : FunOk Tryz.prog 132 F132 := ⟨enters_ Tryz.func132 (by kernel_rfl) rfl, _, _, Tryz.func132, c132⟩
theorem h133 : FunOk Tryz.prog 133 F133 := ⟨enters_ Tryz.func133 (by kernel_rfl) rfl, _, _, Tryz.func133, c133⟩
theorem h134 : FunOk Tryz.prog 134 F134 := ⟨enters_ Tryz.func134 (by kernel_rfl) rfl, _, _, Tryz.func134, c134⟩
theorem h135 : FunOk Tryz.prog 135 F135 := ⟨enters_ Tryz.func135 (by kernel_rfl) rfl, _, _, Tryz.func135, c135⟩
theorem h136 : FunOk Tryz.prog 136 F136 := ⟨enters_ Tryz.func136 (by kernel_rfl) rfl, _, _, Tryz.func136, c136⟩
theorem h137 : FunOk Tryz.prog 137 F137 := ⟨enters_ Tryz.func137 (by kernel_rfl) rfl, _, _, Tryz.func137, c137⟩
theorem h138 : FunOk Tryz.prog 138 F138 := ⟨enters_ Tryz.func138 (by kernel_rfl) rfl, _, _, Tryz.func138, c138⟩
theorem h139 : FunOk Tryz.prog 139 F139 := ⟨enters_ Tryz.func139 (by kernel_rfl) rfl, _, _, Tryz.func139, c139⟩
theorem h140 : FunOk Tryz.prog 140 F140 := ⟨enters_ Tryz.func140 (by kernel_rfl) rfl, _, _, Tryz.func140, c140⟩
theorem h141 : FunOk Tryz.prog 141 F141 := ⟨enters_ Tryz.func141 (by kernel_rfl) rfl, _, _, Tryz.func141, c141⟩
theorem h142 : FunOk Tryz.prog 142 F142 := ⟨enters_ Tryz.func142 (by kernel_rfl) rfl, _, _, Tryz.func142, c142⟩
theorem h143 : FunOk Tryz.prog 143 F143 := ⟨enters_ Tryz.func143 (by kernel_rfl) rfl, _, _, Tryz.func143, c143⟩
theorem h144 : FunOk Tryz.prog 144 F144 := ⟨enters_ Tryz.func144 (by kernel_rfl) rfl, _, _, Tryz.func144, c144⟩
theorem h145 : FunOk Tryz.prog 145 F145 := ⟨enters_ Tryz.func145 (by kernel_rfl) rfl, _, _, Tryz.func145, c145⟩
theorem h146 : FunOk Tryz.prog 146 F146 := ⟨enters_ Tryz.func146 (by kernel_rfl) rfl, _, _, Tryz.func146, c146⟩
theorem h147 : FunOk Tryz.prog 147 F147 := ⟨enters_ Tryz.func147 (by kernel_rfl) rfl, _, _, Tryz.func147, c147⟩
theorem h148 : FunOk Tryz.prog 148 F148 := ⟨enters_ Tryz.func148 (by kernel_rfl) rfl, _, _, Tryz.func148, c148⟩
theorem h149 : FunOk Tryz.prog 149 F149 := ⟨enters_ Tryz.func149 (by kernel_rfl) rfl, _, _, Tryz.func149, c149⟩
theorem h150 : FunOk Tryz.prog 150 F150 := ⟨enters_ Tryz.func150 (by kernel_rfl) rfl, _, _, Tryz.func150, c150⟩
theorem h151 : FunOk Tryz.prog 151 F151 := ⟨enters_ Tryz.func151 (by kernel_rfl) rfl, _, _, Tryz.func151, c151⟩
theorem h152 : FunOk Tryz.prog 152 F152 := ⟨enters_ Tryz.func152 (by kernel_rfl) rfl, _, _, Tryz.func152, c152⟩
theorem h153 : FunOk Tryz.prog 153 F153 := ⟨enters_ Tryz.func153 (by kernel_rfl) rfl, _, _, Tryz.func153, c153⟩
theorem h154 : FunOk Tryz.prog 154 F154 := ⟨enters_ Tryz.func154 (by kernel_rfl) rfl, _, _, Tryz.func154, c154⟩
theorem h155 : FunOk Tryz.prog 155 F155 := ⟨enters_ Tryz.func155 (by kernel_rfl) rfl, _, _, Tryz.func155, c155⟩
theorem h156 : FunOk Tryz.prog 156 F156 := ⟨enters_ Tryz.func156 (by kernel_rfl) rfl, _, _, Tryz.func156, c156⟩
theorem h157 : FunOk Tryz.prog 157 F157 := ⟨enters_ Tryz.func157 (by kernel_rfl) rfl, _, _, Tryz.func157, c157⟩
theorem h158 : FunOk Tryz.prog 158 F158 := ⟨enters_ Tryz.func158 (by kernel_rfl) rfl, _, _, Tryz.func158, c158⟩
theorem h159 : FunOk Tryz.prog 159 F159 := ⟨enters_ Tryz.func159 (by kernel_rfl) rfl, _, _, Tryz.func159, c159⟩
theorem h160 : FunOk Tryz.prog 160 F160 := ⟨enters_ Tryz.func160 (by kernel_rfl) rfl, _, _, Tryz.func160, c160⟩
theorem h161 : FunOk Tryz.prog 161 F161 := ⟨enters_ Tryz.func161 (by kernel_rfl) rfl, _, _, Tryz.func161, c161⟩

def tbl : Tbl := (.node (.node (.node (.node (.node (.node (.node (.node .leaf (some F127) .leaf) (some F63) .leaf) (some F31) (.node (.node .leaf (some F159) .leaf) (some F95) .leaf)) (some F15) (.node (.node (.node .leaf (some F143) .leaf) (some F79) .leaf) (some F47) (.node .leaf (some F111) .leaf))) (some F7) (.node (.node (.node (.node .leaf (some F135) .leaf) (some F71) .leaf) (some F39) (.node .leaf (some F103) .leaf)) (some F23) (.node (.node (.node .leaf (some F151) .leaf) (some F87) .leaf) (some F55) (.node .leaf (some F119) .leaf)))) (some F3) (.node (.node (.node (.node (.node .leaf (some F131) .leaf) (some F67) .leaf) (some F35) (.node .leaf (some F99) .leaf)) (some F19) (.node (.node (.node .leaf (some F147) .leaf) (some F83) .leaf) (some F51) (.node .leaf (some F115) .leaf))) (some F11) (.node (.node (.node (.node .leaf (some F139) .leaf) (some F75) .leaf) (some F43) (.node .leaf (some F107) .leaf)) (some F27) (.node (.node (.node .leaf (some F155) .leaf) (some F91) .leaf) (some F59) (.node .leaf (some F123) .leaf))))) none (.node (.node (.node (.node (.node (.node .leaf (some F129) .leaf) (some F65) .leaf) (some F33) (.node (.node .leaf (some F161) .leaf) (some F97) .leaf)) (some F17) (.node (.node (.node .leaf (some F145) .leaf) (some F81) .leaf) (some F49) (.node .leaf (some F113) .leaf))) (some F9) (.node (.node (.node (.node .leaf (some F137) .leaf) (some F73) .leaf) (some F41) (.node .leaf (some F105) .leaf)) (some F25) (.node (.node (.node .leaf (some F153) .leaf) (some F89) .leaf) (some F57) (.node .leaf (some F121) .leaf)))) none (.node (.node (.node (.node (.node .leaf (some F133) .leaf) (some F69) .leaf) (some F37) (.node .leaf (some F101) .leaf)) (some F21) (.node (.node (.node .leaf (some F149) .leaf) (some F85) .leaf) (some F53) (.node .leaf (some F117) .leaf))) (some F13) (.node (.node (.node (.node .leaf (some F141) .leaf) (some F77) .leaf) (some F45) (.node .leaf (some F109) .leaf)) (some F29) (.node (.node (.node .leaf (some F157) .leaf) (some F93) .leaf) (some F61) (.node .leaf (some F125) .leaf)))))) none (.node (.node (.node (.node (.node (.node (.node .leaf (some F128) .leaf) (some F64) .leaf) (some F32) (.node (.node .leaf (some F160) .leaf) none .leaf)) (some F16) (.node (.node (.node .leaf (some F144) .leaf) (some F80) .leaf) (some F48) (.node .leaf (some F112) .leaf))) (some F8) (.node (.node (.node (.node .leaf (some F136) .leaf) (some F72) .leaf) (some F40) (.node .leaf (some F104) .leaf)) (some F24) (.node (.node (.node .leaf (some F152) .leaf) (some F88) .leaf) (some F56) (.node .leaf (some F120) .leaf)))) (some F4) (.node (.node (.node (.node (.node .leaf (some F132) .leaf) (some F68) .leaf) (some F36) (.node .leaf (some F100) .leaf)) (some F20) (.node (.node (.node .leaf (some F148) .leaf) (some F84) .leaf) (some F52) (.node .leaf (some F116) .leaf))) (some F12) (.node (.node (.node (.node .leaf (some F140) .leaf) (some F76) .leaf) (some F44) (.node .leaf (some F108) .leaf)) (some F28) (.node (.node (.node .leaf (some F156) .leaf) (some F92) .leaf) (some F60) (.node .leaf (some F124) .leaf))))) none (.node (.node (.node (.node (.node (.node .leaf (some F130) .leaf) (some F66) .leaf) (some F34) (.node .leaf (some F98) .leaf)) (some F18) (.node (.node (.node .leaf (some F146) .leaf) (some F82) .leaf) (some F50) .leaf)) (some F10) (.node (.node (.node (.node .leaf (some F138) .leaf) (some F74) .leaf) (some F42) (.node .leaf (some F106) .leaf)) (some F26) (.node (.node (.node .leaf (some F154) .leaf) (some F90) .leaf) (some F58) (.node .leaf (some F122) .leaf)))) (some F6) (.node (.node (.node (.node (.node .leaf (some F134) .leaf) (some F70) .leaf) (some F38) (.node .leaf (some F102) .leaf)) (some F22) (.node (.node (.node .leaf (some F150) .leaf) (some F86) .leaf) (some F54) (.node .leaf (some F118) .leaf))) (some F14) (.node (.node (.node (.node .leaf (some F142) .leaf) (some F78) .leaf) (some F46) (.node .leaf (some F110) .leaf)) (some F30) (.node (.node (.node .leaf (some F158) .leaf) (some F94) .leaf) (some F62) (.node .leaf (some F126) .leaf)))))))

def AllT {α : Type} (Q : Pos → α → Prop) : T α → Prop
  | .leaf => True
  | .node l v r => AllT (fun p => Q (.xO p)) l ∧ (∀ x, v = some x → Q .xH x) ∧ AllT (fun p => Q (.xI p)) r

theorem AllT.get {α : Type} : ∀ (p : Pos) {Q : Pos → α → Prop} {t : T α}, AllT Q t → ∀ {x : α}, t.get p = some x → Q p x
  | .xH, _, .leaf, _, _, h => by rw [T.get_leaf] at h; cases h
  | .xH, _, .node _ _ _, hA, _, h => hA.2.1 _ h
  | .xO p, _, .leaf, _, _, h => by rw [T.get_leaf] at h; cases h
  | .xO p, _, .node _ _ _, hA, _, h => AllT.get p hA.1 h
  | .xI p, _, .leaf, _, _, h => by rw [T.get_leaf] at h; cases h
  | .xI p, _, .node _ _ _, hA, _, h => AllT.get p hA.2.2 h

theorem no {P : Program} {p : Pos} : ∀ x, (none : Option CFun) = some x → ∀ f, p.toNat = f + 1 → FunOk P f x := fun x h => by cases h

theorem at_ {P : Program} {g : Nat} {F : CFun} (h : FunOk P g F) {p : Pos} (hp : p.toNat = g + 1) : ∀ x, some F = some x → ∀ f, p.toNat = f + 1 → FunOk P f x := fun x hx f hf => by
  cases hx
  have : f = g := by omega
  subst this; exact h

theorem tbl_ok : TblOk Tryz.prog tbl := fun f p F hp h => AllT.get p (Q := fun p F => ∀ f, p.toNat = f + 1 → FunOk Tryz.prog f F) (t := tbl)
  ⟨⟨⟨⟨⟨⟨⟨⟨trivial, (at_ h127 (by decide)), trivial⟩, (at_ h63 (by decide)), trivial⟩, (at_ h31 (by decide)), ⟨⟨trivial, (at_ h159 (by decide)), trivial⟩, (at_ h95 (by decide)), trivial⟩⟩, (at_ h15 (by decide)), ⟨⟨⟨trivial, (at_ h143 (by decide)), trivial⟩, (at_ h79 (by decide)), trivial⟩, (at_ h47 (by decide)), ⟨trivial, (at_ h111 (by decide)), trivial⟩⟩⟩, (at_ h7 (by decide)), ⟨⟨⟨⟨trivial, (at_ h135 (by decide)), trivial⟩, (at_ h71 (by decide)), trivial⟩, (at_ h39 (by decide)), ⟨trivial, (at_ h103 (by decide)), trivial⟩⟩, (at_ h23 (by decide)), ⟨⟨⟨trivial, (at_ h151 (by decide)), trivial⟩, (at_ h87 (by decide)), trivial⟩, (at_ h55 (by decide)), ⟨trivial, (at_ h119 (by decide)), trivial⟩⟩⟩⟩, (at_ h3 (by decide)), ⟨⟨⟨⟨⟨trivial, (at_ h131 (by decide)), trivial⟩, (at_ h67 (by decide)), trivial⟩, (at_ h35 (by decide)), ⟨trivial, (at_ h99 (by decide)), trivial⟩⟩, (at_ h19 (by decide)), ⟨⟨⟨trivial, (at_ h147 (by decide)), trivial⟩, (at_ h83 (by decide)), trivial⟩, (at_ h51 (by decide)), ⟨trivial, (at_ h115 (by decide)), trivial⟩⟩⟩, (at_ h11 (by decide)), ⟨⟨⟨⟨trivial, (at_ h139 (by decide)), trivial⟩, (at_ h75 (by decide)), trivial⟩, (at_ h43 (by decide)), ⟨trivial, (at_ h107 (by decide)), trivial⟩⟩, (at_ h27 (by decide)), ⟨⟨⟨trivial, (at_ h155 (by decide)), trivial⟩, (at_ h91 (by decide)), trivial⟩, (at_ h59 (by decide)), ⟨trivial, (at_ h123 (by decide)), trivial⟩⟩⟩⟩⟩, no, ⟨⟨⟨⟨⟨⟨trivial, (at_ h129 (by decide)), trivial⟩, (at_ h65 (by decide)), trivial⟩, (at_ h33 (by decide)), ⟨⟨trivial, (at_ h161 (by decide)), trivial⟩, (at_ h97 (by decide)), trivial⟩⟩, (at_ h17 (by decide)), ⟨⟨⟨trivial, (at_ h145 (by decide)), trivial⟩, (at_ h81 (by decide)), trivial⟩, (at_ h49 (by decide)), ⟨trivial, (at_ h113 (by decide)), trivial⟩⟩⟩, (at_ h9 (by decide)), ⟨⟨⟨⟨trivial, (at_ h137 (by decide)), trivial⟩, (at_ h73 (by decide)), trivial⟩, (at_ h41 (by decide)), ⟨trivial, (at_ h105 (by decide)), trivial⟩⟩, (at_ h25 (by decide)), ⟨⟨⟨trivial, (at_ h153 (by decide)), trivial⟩, (at_ h89 (by decide)), trivial⟩, (at_ h57 (by decide)), ⟨trivial, (at_ h121 (by decide)), trivial⟩⟩⟩⟩, no, ⟨⟨⟨⟨⟨trivial, (at_ h133 (by decide)), trivial⟩, (at_ h69 (by decide)), trivial⟩, (at_ h37 (by decide)), ⟨trivial, (at_ h101 (by decide)), trivial⟩⟩, (at_ h21 (by decide)), ⟨⟨⟨trivial, (at_ h149 (by decide)), trivial⟩, (at_ h85 (by decide)), trivial⟩, (at_ h53 (by decide)), ⟨trivial, (at_ h117 (by decide)), trivial⟩⟩⟩, (at_ h13 (by decide)), ⟨⟨⟨⟨trivial, (at_ h141 (by decide)), trivial⟩, (at_ h77 (by decide)), trivial⟩, (at_ h45 (by decide)), ⟨trivial, (at_ h109 (by decide)), trivial⟩⟩, (at_ h29 (by decide)), ⟨⟨⟨trivial, (at_ h157 (by decide)), trivial⟩, (at_ h93 (by decide)), trivial⟩, (at_ h61 (by decide)), ⟨trivial, (at_ h125 (by decide)), trivial⟩⟩⟩⟩⟩⟩, no, ⟨⟨⟨⟨⟨⟨⟨trivial, (at_ h128 (by decide)), trivial⟩, (at_ h64 (by decide)), trivial⟩, (at_ h32 (by decide)), ⟨⟨trivial, (at_ h160 (by decide)), trivial⟩, no, trivial⟩⟩, (at_ h16 (by decide)), ⟨⟨⟨trivial, (at_ h144 (by decide)), trivial⟩, (at_ h80 (by decide)), trivial⟩, (at_ h48 (by decide)), ⟨trivial, (at_ h112 (by decide)), trivial⟩⟩⟩, (at_ h8 (by decide)), ⟨⟨⟨⟨trivial, (at_ h136 (by decide)), trivial⟩, (at_ h72 (by decide)), trivial⟩, (at_ h40 (by decide)), ⟨trivial, (at_ h104 (by decide)), trivial⟩⟩, (at_ h24 (by decide)), ⟨⟨⟨trivial, (at_ h152 (by decide)), trivial⟩, (at_ h88 (by decide)), trivial⟩, (at_ h56 (by decide)), ⟨trivial, (at_ h120 (by decide)), trivial⟩⟩⟩⟩, (at_ h4 (by decide)), ⟨⟨⟨⟨⟨trivial, (at_ h132 (by decide)), trivial⟩, (at_ h68 (by decide)), trivial⟩, (at_ h36 (by decide)), ⟨trivial, (at_ h100 (by decide)), trivial⟩⟩, (at_ h20 (by decide)), ⟨⟨⟨trivial, (at_ h148 (by decide)), trivial⟩, (at_ h84 (by decide)), trivial⟩, (at_ h52 (by decide)), ⟨trivial, (at_ h116 (by decide)), trivial⟩⟩⟩, (at_ h12 (by decide)), ⟨⟨⟨⟨trivial, (at_ h140 (by decide)), trivial⟩, (at_ h76 (by decide)), trivial⟩, (at_ h44 (by decide)), ⟨trivial, (at_ h108 (by decide)), trivial⟩⟩, (at_ h28 (by decide)), ⟨⟨⟨trivial, (at_ h156 (by decide)), trivial⟩, (at_ h92 (by decide)), trivial⟩, (at_ h60 (by decide)), ⟨trivial, (at_ h124 (by decide)), trivial⟩⟩⟩⟩⟩, no, ⟨⟨⟨⟨⟨⟨trivial, (at_ h130 (by decide)), trivial⟩, (at_ h66 (by decide)), trivial⟩, (at_ h34 (by decide)), ⟨trivial, (at_ h98 (by decide)), trivial⟩⟩, (at_ h18 (by decide)), ⟨⟨⟨trivial, (at_ h146 (by decide)), trivial⟩, (at_ h82 (by decide)), trivial⟩, (at_ h50 (by decide)), trivial⟩⟩, (at_ h10 (by decide)), ⟨⟨⟨⟨trivial, (at_ h138 (by decide)), trivial⟩, (at_ h74 (by decide)), trivial⟩, (at_ h42 (by decide)), ⟨trivial, (at_ h106 (by decide)), trivial⟩⟩, (at_ h26 (by decide)), ⟨⟨⟨trivial, (at_ h154 (by decide)), trivial⟩, (at_ h90 (by decide)), trivial⟩, (at_ h58 (by decide)), ⟨trivial, (at_ h122 (by decide)), trivial⟩⟩⟩⟩, (at_ h6 (by decide)), ⟨⟨⟨⟨⟨trivial, (at_ h134 (by decide)), trivial⟩, (at_ h70 (by decide)), trivial⟩, (at_ h38 (by decide)), ⟨trivial, (at_ h102 (by decide)), trivial⟩⟩, (at_ h22 (by decide)), ⟨⟨⟨trivial, (at_ h150 (by decide)), trivial⟩, (at_ h86 (by decide)), trivial⟩, (at_ h54 (by decide)), ⟨trivial, (at_ h118 (by decide)), trivial⟩⟩⟩, (at_ h14 (by decide)), ⟨⟨⟨⟨trivial, (at_ h142 (by decide)), trivial⟩, (at_ h78 (by decide)), trivial⟩, (at_ h46 (by decide)), ⟨trivial, (at_ h110 (by decide)), trivial⟩⟩, (at_ h30 (by decide)), ⟨⟨⟨trivial, (at_ h158 (by decide)), trivial⟩, (at_ h94 (by decide)), trivial⟩, (at_ h62 (by decide)), ⟨trivial, (at_ h126 (by decide)), trivial⟩⟩⟩⟩⟩⟩⟩ h f hp

/-- What stands in for maps.Keys and slices.Sorted. -/
noncomputable def wr0 : Callee → Callee := fun c => withKeys 66 96 (withSorted 65 96 c)

end Go.Ev.Fs
