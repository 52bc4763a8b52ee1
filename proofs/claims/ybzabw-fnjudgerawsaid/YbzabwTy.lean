/-  Made by program for the seat's translation: closed facts of the type table and of the functions.  -/
import Derived.Test.YbzabwBase
import Derived.Test.YbzabwProg
namespace Go.Proofs.Ybzabw
open Go.Wf
set_option maxRecDepth 1000000
theorem hmix : Yabo.prog.follows .mixedOrders = true := by kernel_rfl
theorem be108 : Yabo.prog.bytesOf (elT Yabo.prog 108) = 56 := by kernel_rfl
theorem be114 : Yabo.prog.bytesOf (elT Yabo.prog 114) = 72 := by kernel_rfl
theorem be116 : Yabo.prog.bytesOf (elT Yabo.prog 116) = 40 := by kernel_rfl
theorem be122 : Yabo.prog.bytesOf (elT Yabo.prog 122) = 48 := by kernel_rfl
theorem be155 : Yabo.prog.bytesOf (elT Yabo.prog 155) = 40 := by kernel_rfl
theorem be156 : Yabo.prog.bytesOf (elT Yabo.prog 156) = 32 := by kernel_rfl
theorem be164 : Yabo.prog.bytesOf (elT Yabo.prog 164) = 40 := by kernel_rfl
theorem be165 : Yabo.prog.bytesOf (elT Yabo.prog 165) = 16 := by kernel_rfl
theorem be200 : Yabo.prog.bytesOf (elT Yabo.prog 200) = 40 := by kernel_rfl
theorem be22 : Yabo.prog.bytesOf (elT Yabo.prog 22) = 1 := by kernel_rfl
theorem be23 : Yabo.prog.bytesOf (elT Yabo.prog 23) = 72 := by kernel_rfl
theorem be25 : Yabo.prog.bytesOf (elT Yabo.prog 25) = 72 := by kernel_rfl
theorem be28 : Yabo.prog.bytesOf (elT Yabo.prog 28) = 40 := by kernel_rfl
theorem be29 : Yabo.prog.bytesOf (elT Yabo.prog 29) = 8 := by kernel_rfl
theorem be32 : Yabo.prog.bytesOf (elT Yabo.prog 32) = 24 := by kernel_rfl
theorem be41 : Yabo.prog.bytesOf (elT Yabo.prog 41) = 40 := by kernel_rfl
theorem be43 : Yabo.prog.bytesOf (elT Yabo.prog 43) = 40 := by kernel_rfl
theorem be46 : Yabo.prog.bytesOf (elT Yabo.prog 46) = 24 := by kernel_rfl
theorem be47 : Yabo.prog.bytesOf (elT Yabo.prog 47) = 24 := by kernel_rfl
theorem be48 : Yabo.prog.bytesOf (elT Yabo.prog 48) = 24 := by kernel_rfl
theorem be49 : Yabo.prog.bytesOf (elT Yabo.prog 49) = 24 := by kernel_rfl
theorem be51 : Yabo.prog.bytesOf (elT Yabo.prog 51) = 24 := by kernel_rfl
theorem be52 : Yabo.prog.bytesOf (elT Yabo.prog 52) = 24 := by kernel_rfl
theorem be53 : Yabo.prog.bytesOf (elT Yabo.prog 53) = 24 := by kernel_rfl
theorem be64 : Yabo.prog.bytesOf (elT Yabo.prog 64) = 40 := by kernel_rfl
theorem be75 : Yabo.prog.bytesOf (elT Yabo.prog 75) = 16 := by kernel_rfl
theorem be80 : Yabo.prog.bytesOf (elT Yabo.prog 80) = 1 := by kernel_rfl
theorem be86 : Yabo.prog.bytesOf (elT Yabo.prog 86) = 40 := by kernel_rfl
theorem be97 : Yabo.prog.bytesOf (elT Yabo.prog 97) = 40 := by kernel_rfl
theorem c100 : callable Yabo.prog 100 = true := by kernel_rfl
theorem c101 : callable Yabo.prog 101 = true := by kernel_rfl
theorem c102 : callable Yabo.prog 102 = true := by kernel_rfl
theorem c103 : callable Yabo.prog 103 = true := by kernel_rfl
theorem c104 : callable Yabo.prog 104 = true := by kernel_rfl
theorem c105 : callable Yabo.prog 105 = true := by kernel_rfl
theorem c106 : callable Yabo.prog 106 = true := by kernel_rfl
theorem c107 : callable Yabo.prog 107 = true := by kernel_rfl
theorem c108 : callable Yabo.prog 108 = true := by kernel_rfl
theorem c109 : callable Yabo.prog 109 = true := by kernel_rfl
theorem c110 : callable Yabo.prog 110 = true := by kernel_rfl
theorem c111 : callable Yabo.prog 111 = true := by kernel_rfl
theorem c112 : callable Yabo.prog 112 = true := by kernel_rfl
theorem c113 : callable Yabo.prog 113 = true := by kernel_rfl
theorem c114 : callable Yabo.prog 114 = true := by kernel_rfl
theorem c115 : callable Yabo.prog 115 = true := by kernel_rfl
theorem c116 : callable Yabo.prog 116 = true := by kernel_rfl
theorem c117 : callable Yabo.prog 117 = true := by kernel_rfl
theorem c118 : callable Yabo.prog 118 = true := by kernel_rfl
theorem c119 : callable Yabo.prog 119 = true := by kernel_rfl
theorem c120 : callable Yabo.prog 120 = true := by kernel_rfl
theorem c121 : callable Yabo.prog 121 = true := by kernel_rfl
theorem c122 : callable Yabo.prog 122 = true := by kernel_rfl
theorem c123 : callable Yabo.prog 123 = true := by kernel_rfl
theorem c124 : callable Yabo.prog 124 = true := by kernel_rfl
theorem c125 : callable Yabo.prog 125 = true := by kernel_rfl
theorem c126 : callable Yabo.prog 126 = true := by kernel_rfl
theorem c127 : callable Yabo.prog 127 = true := by kernel_rfl
theorem c128 : callable Yabo.prog 128 = true := by kernel_rfl
theorem c129 : callable Yabo.prog 129 = true := by kernel_rfl
theorem c130 : callable Yabo.prog 130 = true := by kernel_rfl
theorem c131 : callable Yabo.prog 131 = true := by kernel_rfl
theorem c132 : callable Yabo.prog 132 = true := by kernel_rfl
theorem c133 : callable Yabo.prog 133 = true := by kernel_rfl
theorem c134 : callable Yabo.prog 134 = true := by kernel_rfl
theorem c135 : callable Yabo.prog 135 = true := by kernel_rfl
theorem c136 : callable Yabo.prog 136 = true := by kernel_rfl
theorem c137 : callable Yabo.prog 137 = true := by kernel_rfl
theorem c138 : callable Yabo.prog 138 = true := by kernel_rfl
theorem c139 : callable Yabo.prog 139 = true := by kernel_rfl
theorem c140 : callable Yabo.prog 140 = true := by kernel_rfl
theorem c141 : callable Yabo.prog 141 = true := by kernel_rfl
theorem c142 : callable Yabo.prog 142 = true := by kernel_rfl
theorem c143 : callable Yabo.prog 143 = true := by kernel_rfl
theorem c144 : callable Yabo.prog 144 = true := by kernel_rfl
theorem c145 : callable Yabo.prog 145 = true := by kernel_rfl
theorem c146 : callable Yabo.prog 146 = true := by kernel_rfl
theorem c147 : callable Yabo.prog 147 = true := by kernel_rfl
theorem c148 : callable Yabo.prog 148 = true := by kernel_rfl
theorem c149 : callable Yabo.prog 149 = true := by kernel_rfl
theorem c15 : callable Yabo.prog 15 = true := by kernel_rfl
theorem c150 : callable Yabo.prog 150 = true := by kernel_rfl
theorem c151 : callable Yabo.prog 151 = true := by kernel_rfl
theorem c152 : callable Yabo.prog 152 = true := by kernel_rfl
theorem c153 : callable Yabo.prog 153 = true := by kernel_rfl
theorem c154 : callable Yabo.prog 154 = true := by kernel_rfl
theorem c155 : callable Yabo.prog 155 = true := by kernel_rfl
theorem c156 : callable Yabo.prog 156 = true := by kernel_rfl
theorem c157 : callable Yabo.prog 157 = true := by kernel_rfl
theorem c158 : callable Yabo.prog 158 = true := by kernel_rfl
theorem c159 : callable Yabo.prog 159 = true := by kernel_rfl
theorem c16 : callable Yabo.prog 16 = true := by kernel_rfl
theorem c17 : callable Yabo.prog 17 = true := by kernel_rfl
theorem c18 : callable Yabo.prog 18 = true := by kernel_rfl
theorem c19 : callable Yabo.prog 19 = true := by kernel_rfl
theorem c20 : callable Yabo.prog 20 = true := by kernel_rfl
theorem c21 : callable Yabo.prog 21 = true := by kernel_rfl
theorem c22 : callable Yabo.prog 22 = true := by kernel_rfl
theorem c23 : callable Yabo.prog 23 = true := by kernel_rfl
theorem c24 : callable Yabo.prog 24 = true := by kernel_rfl
theorem c25 : callable Yabo.prog 25 = true := by kernel_rfl
theorem c26 : callable Yabo.prog 26 = true := by kernel_rfl
theorem c27 : callable Yabo.prog 27 = true := by kernel_rfl
theorem c28 : callable Yabo.prog 28 = true := by kernel_rfl
theorem c29 : callable Yabo.prog 29 = true := by kernel_rfl
theorem c30 : callable Yabo.prog 30 = true := by kernel_rfl
theorem c31 : callable Yabo.prog 31 = true := by kernel_rfl
theorem c32 : callable Yabo.prog 32 = true := by kernel_rfl
theorem c33 : callable Yabo.prog 33 = true := by kernel_rfl
theorem c34 : callable Yabo.prog 34 = true := by kernel_rfl
theorem c35 : callable Yabo.prog 35 = true := by kernel_rfl
theorem c36 : callable Yabo.prog 36 = true := by kernel_rfl
theorem c37 : callable Yabo.prog 37 = true := by kernel_rfl
theorem c38 : callable Yabo.prog 38 = true := by kernel_rfl
theorem c39 : callable Yabo.prog 39 = true := by kernel_rfl
theorem c40 : callable Yabo.prog 40 = true := by kernel_rfl
theorem c41 : callable Yabo.prog 41 = true := by kernel_rfl
theorem c42 : callable Yabo.prog 42 = true := by kernel_rfl
theorem c43 : callable Yabo.prog 43 = true := by kernel_rfl
theorem c44 : callable Yabo.prog 44 = true := by kernel_rfl
theorem c45 : callable Yabo.prog 45 = true := by kernel_rfl
theorem c46 : callable Yabo.prog 46 = true := by kernel_rfl
theorem c47 : callable Yabo.prog 47 = true := by kernel_rfl
theorem c48 : callable Yabo.prog 48 = true := by kernel_rfl
theorem c49 : callable Yabo.prog 49 = true := by kernel_rfl
theorem c50 : callable Yabo.prog 50 = true := by kernel_rfl
theorem c51 : callable Yabo.prog 51 = true := by kernel_rfl
theorem c52 : callable Yabo.prog 52 = true := by kernel_rfl
theorem c53 : callable Yabo.prog 53 = true := by kernel_rfl
theorem c54 : callable Yabo.prog 54 = true := by kernel_rfl
theorem c55 : callable Yabo.prog 55 = true := by kernel_rfl
theorem c56 : callable Yabo.prog 56 = true := by kernel_rfl
theorem c57 : callable Yabo.prog 57 = true := by kernel_rfl
theorem c58 : callable Yabo.prog 58 = true := by kernel_rfl
theorem c59 : callable Yabo.prog 59 = true := by kernel_rfl
theorem c60 : callable Yabo.prog 60 = true := by kernel_rfl
theorem c61 : callable Yabo.prog 61 = true := by kernel_rfl
theorem c62 : callable Yabo.prog 62 = true := by kernel_rfl
theorem c63 : callable Yabo.prog 63 = true := by kernel_rfl
theorem c64 : callable Yabo.prog 64 = true := by kernel_rfl
theorem c65 : callable Yabo.prog 65 = true := by kernel_rfl
theorem c66 : callable Yabo.prog 66 = true := by kernel_rfl
theorem c67 : callable Yabo.prog 67 = true := by kernel_rfl
theorem c68 : callable Yabo.prog 68 = true := by kernel_rfl
theorem c69 : callable Yabo.prog 69 = true := by kernel_rfl
theorem c70 : callable Yabo.prog 70 = true := by kernel_rfl
theorem c71 : callable Yabo.prog 71 = true := by kernel_rfl
theorem c72 : callable Yabo.prog 72 = true := by kernel_rfl
theorem c73 : callable Yabo.prog 73 = true := by kernel_rfl
theorem c74 : callable Yabo.prog 74 = true := by kernel_rfl
theorem c75 : callable Yabo.prog 75 = true := by kernel_rfl
theorem c76 : callable Yabo.prog 76 = true := by kernel_rfl
theorem c77 : callable Yabo.prog 77 = true := by kernel_rfl
theorem c78 : callable Yabo.prog 78 = true := by kernel_rfl
theorem c79 : callable Yabo.prog 79 = true := by kernel_rfl
theorem c80 : callable Yabo.prog 80 = true := by kernel_rfl
theorem c81 : callable Yabo.prog 81 = true := by kernel_rfl
theorem c82 : callable Yabo.prog 82 = true := by kernel_rfl
theorem c83 : callable Yabo.prog 83 = true := by kernel_rfl
theorem c84 : callable Yabo.prog 84 = true := by kernel_rfl
theorem c85 : callable Yabo.prog 85 = true := by kernel_rfl
theorem c86 : callable Yabo.prog 86 = true := by kernel_rfl
theorem c87 : callable Yabo.prog 87 = true := by kernel_rfl
theorem c88 : callable Yabo.prog 88 = true := by kernel_rfl
theorem c89 : callable Yabo.prog 89 = true := by kernel_rfl
theorem c90 : callable Yabo.prog 90 = true := by kernel_rfl
theorem c91 : callable Yabo.prog 91 = true := by kernel_rfl
theorem c92 : callable Yabo.prog 92 = true := by kernel_rfl
theorem c93 : callable Yabo.prog 93 = true := by kernel_rfl
theorem c94 : callable Yabo.prog 94 = true := by kernel_rfl
theorem c95 : callable Yabo.prog 95 = true := by kernel_rfl
theorem c96 : callable Yabo.prog 96 = true := by kernel_rfl
theorem c97 : callable Yabo.prog 97 = true := by kernel_rfl
theorem c98 : callable Yabo.prog 98 = true := by kernel_rfl
theorem c99 : callable Yabo.prog 99 = true := by kernel_rfl
theorem e108 : elT Yabo.prog 108 = 111 := by kernel_rfl
theorem e114 : elT Yabo.prog 114 = 120 := by kernel_rfl
theorem e116 : elT Yabo.prog 116 = 118 := by kernel_rfl
theorem e122 : elT Yabo.prog 122 = 124 := by kernel_rfl
theorem e155 : elT Yabo.prog 155 = 154 := by kernel_rfl
theorem e156 : elT Yabo.prog 156 = 160 := by kernel_rfl
theorem e164 : elT Yabo.prog 164 = 167 := by kernel_rfl
theorem e165 : elT Yabo.prog 165 = 169 := by kernel_rfl
theorem e200 : elT Yabo.prog 200 = 206 := by kernel_rfl
theorem e22 : elT Yabo.prog 22 = 5 := by kernel_rfl
theorem e23 : elT Yabo.prog 23 = 31 := by kernel_rfl
theorem e25 : elT Yabo.prog 25 = 34 := by kernel_rfl
theorem e28 : elT Yabo.prog 28 = 71 := by kernel_rfl
theorem e29 : elT Yabo.prog 29 = 3 := by kernel_rfl
theorem e32 : elT Yabo.prog 32 = 37 := by kernel_rfl
theorem e41 : elT Yabo.prog 41 = 128 := by kernel_rfl
theorem e43 : elT Yabo.prog 43 = 59 := by kernel_rfl
theorem e46 : elT Yabo.prog 46 = 28 := by kernel_rfl
theorem e47 : elT Yabo.prog 47 = 29 := by kernel_rfl
theorem e48 : elT Yabo.prog 48 = 32 := by kernel_rfl
theorem e49 : elT Yabo.prog 49 = 25 := by kernel_rfl
theorem e50 : elT Yabo.prog 50 = 23 := by kernel_rfl
theorem e51 : elT Yabo.prog 51 = 86 := by kernel_rfl
theorem e52 : elT Yabo.prog 52 = 43 := by kernel_rfl
theorem e53 : elT Yabo.prog 53 = 75 := by kernel_rfl
theorem e64 : elT Yabo.prog 64 = 135 := by kernel_rfl
theorem e75 : elT Yabo.prog 75 = 9 := by kernel_rfl
theorem e80 : elT Yabo.prog 80 = 4 := by kernel_rfl
theorem e86 : elT Yabo.prog 86 = 88 := by kernel_rfl
theorem e97 : elT Yabo.prog 97 = 150 := by kernel_rfl
theorem fl103 : flatT Yabo.prog 103 = true := by kernel_rfl
theorem fl111 : flatT Yabo.prog 111 = true := by kernel_rfl
theorem fl118 : flatT Yabo.prog 118 = true := by kernel_rfl
theorem fl120 : flatT Yabo.prog 120 = false := by kernel_rfl
theorem fl124 : flatT Yabo.prog 124 = true := by kernel_rfl
theorem fl128 : flatT Yabo.prog 128 = true := by kernel_rfl
theorem fl135 : flatT Yabo.prog 135 = true := by kernel_rfl
theorem fl138 : flatT Yabo.prog 138 = true := by kernel_rfl
theorem fl150 : flatT Yabo.prog 150 = true := by kernel_rfl
theorem fl154 : flatT Yabo.prog 154 = true := by kernel_rfl
theorem fl160 : flatT Yabo.prog 160 = true := by kernel_rfl
theorem fl167 : flatT Yabo.prog 167 = true := by kernel_rfl
theorem fl169 : flatT Yabo.prog 169 = true := by kernel_rfl
theorem fl179 : flatT Yabo.prog 179 = true := by kernel_rfl
theorem fl206 : flatT Yabo.prog 206 = true := by kernel_rfl
theorem fl31 : flatT Yabo.prog 31 = true := by kernel_rfl
theorem fl34 : flatT Yabo.prog 34 = true := by kernel_rfl
theorem fl37 : flatT Yabo.prog 37 = true := by kernel_rfl
theorem fl55 : flatT Yabo.prog 55 = true := by kernel_rfl
theorem fl59 : flatT Yabo.prog 59 = true := by kernel_rfl
theorem fl71 : flatT Yabo.prog 71 = true := by kernel_rfl
theorem fl88 : flatT Yabo.prog 88 = true := by kernel_rfl
theorem i111 : infoT Yabo.prog 111 = true := by kernel_rfl
theorem i116 : infoT Yabo.prog 116 = true := by kernel_rfl
theorem i118 : infoT Yabo.prog 118 = true := by kernel_rfl
theorem i120 : infoT Yabo.prog 120 = true := by kernel_rfl
theorem i122 : infoT Yabo.prog 122 = true := by kernel_rfl
theorem i124 : infoT Yabo.prog 124 = true := by kernel_rfl
theorem i128 : infoT Yabo.prog 128 = true := by kernel_rfl
theorem i135 : infoT Yabo.prog 135 = true := by kernel_rfl
theorem i154 : infoT Yabo.prog 154 = true := by kernel_rfl
theorem i160 : infoT Yabo.prog 160 = true := by kernel_rfl
theorem i167 : infoT Yabo.prog 167 = true := by kernel_rfl
theorem i169 : infoT Yabo.prog 169 = true := by kernel_rfl
theorem i206 : infoT Yabo.prog 206 = true := by kernel_rfl
theorem i22 : infoT Yabo.prog 22 = true := by kernel_rfl
theorem i23 : infoT Yabo.prog 23 = true := by kernel_rfl
theorem i25 : infoT Yabo.prog 25 = true := by kernel_rfl
theorem i28 : infoT Yabo.prog 28 = true := by kernel_rfl
theorem i29 : infoT Yabo.prog 29 = true := by kernel_rfl
theorem i3 : infoT Yabo.prog 3 = true := by kernel_rfl
theorem i31 : infoT Yabo.prog 31 = true := by kernel_rfl
theorem i32 : infoT Yabo.prog 32 = true := by kernel_rfl
theorem i34 : infoT Yabo.prog 34 = true := by kernel_rfl
theorem i37 : infoT Yabo.prog 37 = true := by kernel_rfl
theorem i4 : infoT Yabo.prog 4 = true := by kernel_rfl
theorem i43 : infoT Yabo.prog 43 = true := by kernel_rfl
theorem i46 : infoT Yabo.prog 46 = true := by kernel_rfl
theorem i47 : infoT Yabo.prog 47 = true := by kernel_rfl
theorem i48 : infoT Yabo.prog 48 = true := by kernel_rfl
theorem i49 : infoT Yabo.prog 49 = true := by kernel_rfl
theorem i5 : infoT Yabo.prog 5 = true := by kernel_rfl
theorem i50 : infoT Yabo.prog 50 = true := by kernel_rfl
theorem i51 : infoT Yabo.prog 51 = true := by kernel_rfl
theorem i52 : infoT Yabo.prog 52 = true := by kernel_rfl
theorem i53 : infoT Yabo.prog 53 = true := by kernel_rfl
theorem i55 : infoT Yabo.prog 55 = true := by kernel_rfl
theorem i59 : infoT Yabo.prog 59 = true := by kernel_rfl
theorem i64 : infoT Yabo.prog 64 = true := by kernel_rfl
theorem i71 : infoT Yabo.prog 71 = true := by kernel_rfl
theorem i75 : infoT Yabo.prog 75 = true := by kernel_rfl
theorem i86 : infoT Yabo.prog 86 = true := by kernel_rfl
theorem i88 : infoT Yabo.prog 88 = true := by kernel_rfl
theorem i9 : infoT Yabo.prog 9 = true := by kernel_rfl
theorem ie108 : infoT Yabo.prog (elT Yabo.prog 108) = true := by kernel_rfl
theorem ie114 : infoT Yabo.prog (elT Yabo.prog 114) = true := by kernel_rfl
theorem ie116 : infoT Yabo.prog (elT Yabo.prog 116) = true := by kernel_rfl
theorem ie122 : infoT Yabo.prog (elT Yabo.prog 122) = true := by kernel_rfl
theorem ie155 : infoT Yabo.prog (elT Yabo.prog 155) = true := by kernel_rfl
theorem ie156 : infoT Yabo.prog (elT Yabo.prog 156) = true := by kernel_rfl
theorem ie164 : infoT Yabo.prog (elT Yabo.prog 164) = true := by kernel_rfl
theorem ie165 : infoT Yabo.prog (elT Yabo.prog 165) = true := by kernel_rfl
theorem ie200 : infoT Yabo.prog (elT Yabo.prog 200) = true := by kernel_rfl
theorem ie22 : infoT Yabo.prog (elT Yabo.prog 22) = true := by kernel_rfl
theorem ie23 : infoT Yabo.prog (elT Yabo.prog 23) = true := by kernel_rfl
theorem ie25 : infoT Yabo.prog (elT Yabo.prog 25) = true := by kernel_rfl
theorem ie28 : infoT Yabo.prog (elT Yabo.prog 28) = true := by kernel_rfl
theorem ie29 : infoT Yabo.prog (elT Yabo.prog 29) = true := by kernel_rfl
theorem ie32 : infoT Yabo.prog (elT Yabo.prog 32) = true := by kernel_rfl
theorem ie41 : infoT Yabo.prog (elT Yabo.prog 41) = true := by kernel_rfl
theorem ie43 : infoT Yabo.prog (elT Yabo.prog 43) = true := by kernel_rfl
theorem ie46 : infoT Yabo.prog (elT Yabo.prog 46) = true := by kernel_rfl
theorem ie47 : infoT Yabo.prog (elT Yabo.prog 47) = true := by kernel_rfl
theorem ie48 : infoT Yabo.prog (elT Yabo.prog 48) = true := by kernel_rfl
theorem ie49 : infoT Yabo.prog (elT Yabo.prog 49) = true := by kernel_rfl
theorem ie50 : infoT Yabo.prog (elT Yabo.prog 50) = true := by kernel_rfl
theorem ie51 : infoT Yabo.prog (elT Yabo.prog 51) = true := by kernel_rfl
theorem ie52 : infoT Yabo.prog (elT Yabo.prog 52) = true := by kernel_rfl
theorem ie53 : infoT Yabo.prog (elT Yabo.prog 53) = true := by kernel_rfl
theorem ie64 : infoT Yabo.prog (elT Yabo.prog 64) = true := by kernel_rfl
theorem ie75 : infoT Yabo.prog (elT Yabo.prog 75) = true := by kernel_rfl
theorem ie80 : infoT Yabo.prog (elT Yabo.prog 80) = true := by kernel_rfl
theorem ie86 : infoT Yabo.prog (elT Yabo.prog 86) = true := by kernel_rfl
theorem ie97 : infoT Yabo.prog (elT Yabo.prog 97) = true := by kernel_rfl
theorem k108 : kindT Yabo.prog 108 = 6 := by kernel_rfl
theorem k111 : kindT Yabo.prog 111 = 7 := by kernel_rfl
theorem k114 : kindT Yabo.prog 114 = 6 := by kernel_rfl
theorem k116 : kindT Yabo.prog 116 = 6 := by kernel_rfl
theorem k118 : kindT Yabo.prog 118 = 7 := by kernel_rfl
theorem k120 : kindT Yabo.prog 120 = 7 := by kernel_rfl
theorem k122 : kindT Yabo.prog 122 = 6 := by kernel_rfl
theorem k124 : kindT Yabo.prog 124 = 7 := by kernel_rfl
theorem k128 : kindT Yabo.prog 128 = 7 := by kernel_rfl
theorem k135 : kindT Yabo.prog 135 = 7 := by kernel_rfl
theorem k154 : kindT Yabo.prog 154 = 7 := by kernel_rfl
theorem k155 : kindT Yabo.prog 155 = 6 := by kernel_rfl
theorem k156 : kindT Yabo.prog 156 = 6 := by kernel_rfl
theorem k160 : kindT Yabo.prog 160 = 7 := by kernel_rfl
theorem k164 : kindT Yabo.prog 164 = 6 := by kernel_rfl
theorem k165 : kindT Yabo.prog 165 = 6 := by kernel_rfl
theorem k167 : kindT Yabo.prog 167 = 7 := by kernel_rfl
theorem k169 : kindT Yabo.prog 169 = 7 := by kernel_rfl
theorem k195 : kindT Yabo.prog 195 = 3 := by kernel_rfl
theorem k200 : kindT Yabo.prog 200 = 6 := by kernel_rfl
theorem k206 : kindT Yabo.prog 206 = 7 := by kernel_rfl
theorem k22 : kindT Yabo.prog 22 = 6 := by kernel_rfl
theorem k23 : kindT Yabo.prog 23 = 6 := by kernel_rfl
theorem k25 : kindT Yabo.prog 25 = 6 := by kernel_rfl
theorem k28 : kindT Yabo.prog 28 = 6 := by kernel_rfl
theorem k29 : kindT Yabo.prog 29 = 6 := by kernel_rfl
theorem k3 : kindT Yabo.prog 3 = 1 := by kernel_rfl
theorem k31 : kindT Yabo.prog 31 = 7 := by kernel_rfl
theorem k32 : kindT Yabo.prog 32 = 6 := by kernel_rfl
theorem k34 : kindT Yabo.prog 34 = 7 := by kernel_rfl
theorem k37 : kindT Yabo.prog 37 = 7 := by kernel_rfl
theorem k4 : kindT Yabo.prog 4 = 4 := by kernel_rfl
theorem k41 : kindT Yabo.prog 41 = 6 := by kernel_rfl
theorem k43 : kindT Yabo.prog 43 = 6 := by kernel_rfl
theorem k46 : kindT Yabo.prog 46 = 6 := by kernel_rfl
theorem k47 : kindT Yabo.prog 47 = 6 := by kernel_rfl
theorem k48 : kindT Yabo.prog 48 = 6 := by kernel_rfl
theorem k49 : kindT Yabo.prog 49 = 6 := by kernel_rfl
theorem k5 : kindT Yabo.prog 5 = 2 := by kernel_rfl
theorem k50 : kindT Yabo.prog 50 = 6 := by kernel_rfl
theorem k51 : kindT Yabo.prog 51 = 6 := by kernel_rfl
theorem k52 : kindT Yabo.prog 52 = 6 := by kernel_rfl
theorem k53 : kindT Yabo.prog 53 = 6 := by kernel_rfl
theorem k55 : kindT Yabo.prog 55 = 7 := by kernel_rfl
theorem k59 : kindT Yabo.prog 59 = 7 := by kernel_rfl
theorem k64 : kindT Yabo.prog 64 = 6 := by kernel_rfl
theorem k71 : kindT Yabo.prog 71 = 7 := by kernel_rfl
theorem k75 : kindT Yabo.prog 75 = 6 := by kernel_rfl
theorem k80 : kindT Yabo.prog 80 = 6 := by kernel_rfl
theorem k86 : kindT Yabo.prog 86 = 6 := by kernel_rfl
theorem k88 : kindT Yabo.prog 88 = 7 := by kernel_rfl
theorem k9 : kindT Yabo.prog 9 = 5 := by kernel_rfl
theorem k97 : kindT Yabo.prog 97 = 6 := by kernel_rfl
theorem n116 : oneT Yabo.prog 116 = true := by kernel_rfl
theorem n122 : oneT Yabo.prog 122 = true := by kernel_rfl
theorem n22 : oneT Yabo.prog 22 = true := by kernel_rfl
theorem n23 : oneT Yabo.prog 23 = true := by kernel_rfl
theorem n25 : oneT Yabo.prog 25 = true := by kernel_rfl
theorem n28 : oneT Yabo.prog 28 = true := by kernel_rfl
theorem n29 : oneT Yabo.prog 29 = true := by kernel_rfl
theorem n3 : oneT Yabo.prog 3 = true := by kernel_rfl
theorem n32 : oneT Yabo.prog 32 = true := by kernel_rfl
theorem n4 : oneT Yabo.prog 4 = true := by kernel_rfl
theorem n43 : oneT Yabo.prog 43 = true := by kernel_rfl
theorem n46 : oneT Yabo.prog 46 = true := by kernel_rfl
theorem n47 : oneT Yabo.prog 47 = true := by kernel_rfl
theorem n48 : oneT Yabo.prog 48 = true := by kernel_rfl
theorem n49 : oneT Yabo.prog 49 = true := by kernel_rfl
theorem n5 : oneT Yabo.prog 5 = true := by kernel_rfl
theorem n50 : oneT Yabo.prog 50 = true := by kernel_rfl
theorem n51 : oneT Yabo.prog 51 = true := by kernel_rfl
theorem n52 : oneT Yabo.prog 52 = true := by kernel_rfl
theorem n53 : oneT Yabo.prog 53 = true := by kernel_rfl
theorem n64 : oneT Yabo.prog 64 = true := by kernel_rfl
theorem n75 : oneT Yabo.prog 75 = true := by kernel_rfl
theorem n86 : oneT Yabo.prog 86 = true := by kernel_rfl
theorem n9 : oneT Yabo.prog 9 = true := by kernel_rfl
theorem o103_0 : offT Yabo.prog 103 0 = some 0 := by kernel_rfl
theorem o103_1 : offT Yabo.prog 103 1 = some 1 := by kernel_rfl
theorem o111_0 : offT Yabo.prog 111 0 = some 0 := by kernel_rfl
theorem o111_1 : offT Yabo.prog 111 1 = some 1 := by kernel_rfl
theorem o111_2 : offT Yabo.prog 111 2 = some 2 := by kernel_rfl
theorem o118_0 : offT Yabo.prog 118 0 = some 0 := by kernel_rfl
theorem o118_1 : offT Yabo.prog 118 1 = some 1 := by kernel_rfl
theorem o118_2 : offT Yabo.prog 118 2 = some 2 := by kernel_rfl
theorem o120_0 : offT Yabo.prog 120 0 = some 0 := by kernel_rfl
theorem o120_1 : offT Yabo.prog 120 1 = some 1 := by kernel_rfl
theorem o120_2 : offT Yabo.prog 120 2 = some 4 := by kernel_rfl
theorem o124_0 : offT Yabo.prog 124 0 = some 0 := by kernel_rfl
theorem o124_1 : offT Yabo.prog 124 1 = some 1 := by kernel_rfl
theorem o124_2 : offT Yabo.prog 124 2 = some 2 := by kernel_rfl
theorem o138_0 : offT Yabo.prog 138 0 = some 0 := by kernel_rfl
theorem o138_1 : offT Yabo.prog 138 1 = some 1 := by kernel_rfl
theorem o138_2 : offT Yabo.prog 138 2 = some 2 := by kernel_rfl
theorem o138_3 : offT Yabo.prog 138 3 = some 3 := by kernel_rfl
theorem o150_0 : offT Yabo.prog 150 0 = some 0 := by kernel_rfl
theorem o150_1 : offT Yabo.prog 150 1 = some 1 := by kernel_rfl
theorem o154_0 : offT Yabo.prog 154 0 = some 0 := by kernel_rfl
theorem o154_1 : offT Yabo.prog 154 1 = some 1 := by kernel_rfl
theorem o154_2 : offT Yabo.prog 154 2 = some 2 := by kernel_rfl
theorem o160_0 : offT Yabo.prog 160 0 = some 0 := by kernel_rfl
theorem o160_1 : offT Yabo.prog 160 1 = some 1 := by kernel_rfl
theorem o160_3 : offT Yabo.prog 160 3 = some 3 := by kernel_rfl
theorem o167_0 : offT Yabo.prog 167 0 = some 0 := by kernel_rfl
theorem o167_1 : offT Yabo.prog 167 1 = some 1 := by kernel_rfl
theorem o167_2 : offT Yabo.prog 167 2 = some 2 := by kernel_rfl
theorem o169_0 : offT Yabo.prog 169 0 = some 0 := by kernel_rfl
theorem o169_1 : offT Yabo.prog 169 1 = some 1 := by kernel_rfl
theorem o179_0 : offT Yabo.prog 179 0 = some 0 := by kernel_rfl
theorem o179_1 : offT Yabo.prog 179 1 = some 1 := by kernel_rfl
theorem o179_2 : offT Yabo.prog 179 2 = some 2 := by kernel_rfl
theorem o206_0 : offT Yabo.prog 206 0 = some 0 := by kernel_rfl
theorem o206_1 : offT Yabo.prog 206 1 = some 1 := by kernel_rfl
theorem o206_2 : offT Yabo.prog 206 2 = some 2 := by kernel_rfl
theorem o31_0 : offT Yabo.prog 31 0 = some 0 := by kernel_rfl
theorem o31_1 : offT Yabo.prog 31 1 = some 1 := by kernel_rfl
theorem o31_2 : offT Yabo.prog 31 2 = some 2 := by kernel_rfl
theorem o31_3 : offT Yabo.prog 31 3 = some 3 := by kernel_rfl
theorem o31_4 : offT Yabo.prog 31 4 = some 4 := by kernel_rfl
theorem o34_0 : offT Yabo.prog 34 0 = some 0 := by kernel_rfl
theorem o34_1 : offT Yabo.prog 34 1 = some 1 := by kernel_rfl
theorem o34_2 : offT Yabo.prog 34 2 = some 2 := by kernel_rfl
theorem o34_3 : offT Yabo.prog 34 3 = some 3 := by kernel_rfl
theorem o34_4 : offT Yabo.prog 34 4 = some 4 := by kernel_rfl
theorem o37_0 : offT Yabo.prog 37 0 = some 0 := by kernel_rfl
theorem o55_0 : offT Yabo.prog 55 0 = some 0 := by kernel_rfl
theorem o55_1 : offT Yabo.prog 55 1 = some 1 := by kernel_rfl
theorem o55_2 : offT Yabo.prog 55 2 = some 2 := by kernel_rfl
theorem o55_3 : offT Yabo.prog 55 3 = some 3 := by kernel_rfl
theorem o55_4 : offT Yabo.prog 55 4 = some 4 := by kernel_rfl
theorem o55_5 : offT Yabo.prog 55 5 = some 5 := by kernel_rfl
theorem o55_6 : offT Yabo.prog 55 6 = some 6 := by kernel_rfl
theorem o55_7 : offT Yabo.prog 55 7 = some 7 := by kernel_rfl
theorem o59_0 : offT Yabo.prog 59 0 = some 0 := by kernel_rfl
theorem o59_1 : offT Yabo.prog 59 1 = some 1 := by kernel_rfl
theorem o59_2 : offT Yabo.prog 59 2 = some 2 := by kernel_rfl
theorem o59_3 : offT Yabo.prog 59 3 = some 3 := by kernel_rfl
theorem o71_0 : offT Yabo.prog 71 0 = some 0 := by kernel_rfl
theorem o71_1 : offT Yabo.prog 71 1 = some 1 := by kernel_rfl
theorem o71_2 : offT Yabo.prog 71 2 = some 2 := by kernel_rfl
theorem o71_3 : offT Yabo.prog 71 3 = some 3 := by kernel_rfl
theorem o88_0 : offT Yabo.prog 88 0 = some 0 := by kernel_rfl
theorem o88_1 : offT Yabo.prog 88 1 = some 1 := by kernel_rfl
theorem s111 : szT Yabo.prog 111 = 3 := by kernel_rfl
theorem s116 : szT Yabo.prog 116 = 1 := by kernel_rfl
theorem s118 : szT Yabo.prog 118 = 3 := by kernel_rfl
theorem s120 : szT Yabo.prog 120 = 5 := by kernel_rfl
theorem s122 : szT Yabo.prog 122 = 1 := by kernel_rfl
theorem s124 : szT Yabo.prog 124 = 3 := by kernel_rfl
theorem s128 : szT Yabo.prog 128 = 4 := by kernel_rfl
theorem s135 : szT Yabo.prog 135 = 4 := by kernel_rfl
theorem s154 : szT Yabo.prog 154 = 3 := by kernel_rfl
theorem s160 : szT Yabo.prog 160 = 4 := by kernel_rfl
theorem s167 : szT Yabo.prog 167 = 3 := by kernel_rfl
theorem s169 : szT Yabo.prog 169 = 2 := by kernel_rfl
theorem s206 : szT Yabo.prog 206 = 3 := by kernel_rfl
theorem s22 : szT Yabo.prog 22 = 1 := by kernel_rfl
theorem s23 : szT Yabo.prog 23 = 1 := by kernel_rfl
theorem s25 : szT Yabo.prog 25 = 1 := by kernel_rfl
theorem s28 : szT Yabo.prog 28 = 1 := by kernel_rfl
theorem s29 : szT Yabo.prog 29 = 1 := by kernel_rfl
theorem s3 : szT Yabo.prog 3 = 1 := by kernel_rfl
theorem s31 : szT Yabo.prog 31 = 5 := by kernel_rfl
theorem s32 : szT Yabo.prog 32 = 1 := by kernel_rfl
theorem s34 : szT Yabo.prog 34 = 5 := by kernel_rfl
theorem s37 : szT Yabo.prog 37 = 1 := by kernel_rfl
theorem s4 : szT Yabo.prog 4 = 1 := by kernel_rfl
theorem s43 : szT Yabo.prog 43 = 1 := by kernel_rfl
theorem s46 : szT Yabo.prog 46 = 1 := by kernel_rfl
theorem s47 : szT Yabo.prog 47 = 1 := by kernel_rfl
theorem s48 : szT Yabo.prog 48 = 1 := by kernel_rfl
theorem s49 : szT Yabo.prog 49 = 1 := by kernel_rfl
theorem s5 : szT Yabo.prog 5 = 1 := by kernel_rfl
theorem s50 : szT Yabo.prog 50 = 1 := by kernel_rfl
theorem s51 : szT Yabo.prog 51 = 1 := by kernel_rfl
theorem s52 : szT Yabo.prog 52 = 1 := by kernel_rfl
theorem s53 : szT Yabo.prog 53 = 1 := by kernel_rfl
theorem s55 : szT Yabo.prog 55 = 8 := by kernel_rfl
theorem s59 : szT Yabo.prog 59 = 4 := by kernel_rfl
theorem s64 : szT Yabo.prog 64 = 1 := by kernel_rfl
theorem s71 : szT Yabo.prog 71 = 4 := by kernel_rfl
theorem s75 : szT Yabo.prog 75 = 1 := by kernel_rfl
theorem s86 : szT Yabo.prog 86 = 1 := by kernel_rfl
theorem s88 : szT Yabo.prog 88 = 2 := by kernel_rfl
theorem s9 : szT Yabo.prog 9 = 1 := by kernel_rfl
theorem se108 : szT Yabo.prog (elT Yabo.prog 108) = 3 := by kernel_rfl
theorem se114 : szT Yabo.prog (elT Yabo.prog 114) = 5 := by kernel_rfl
theorem se116 : szT Yabo.prog (elT Yabo.prog 116) = 3 := by kernel_rfl
theorem se122 : szT Yabo.prog (elT Yabo.prog 122) = 3 := by kernel_rfl
theorem se155 : szT Yabo.prog (elT Yabo.prog 155) = 3 := by kernel_rfl
theorem se156 : szT Yabo.prog (elT Yabo.prog 156) = 4 := by kernel_rfl
theorem se164 : szT Yabo.prog (elT Yabo.prog 164) = 3 := by kernel_rfl
theorem se165 : szT Yabo.prog (elT Yabo.prog 165) = 2 := by kernel_rfl
theorem se200 : szT Yabo.prog (elT Yabo.prog 200) = 3 := by kernel_rfl
theorem se22 : szT Yabo.prog (elT Yabo.prog 22) = 1 := by kernel_rfl
theorem se23 : szT Yabo.prog (elT Yabo.prog 23) = 5 := by kernel_rfl
theorem se25 : szT Yabo.prog (elT Yabo.prog 25) = 5 := by kernel_rfl
theorem se28 : szT Yabo.prog (elT Yabo.prog 28) = 4 := by kernel_rfl
theorem se29 : szT Yabo.prog (elT Yabo.prog 29) = 1 := by kernel_rfl
theorem se32 : szT Yabo.prog (elT Yabo.prog 32) = 1 := by kernel_rfl
theorem se41 : szT Yabo.prog (elT Yabo.prog 41) = 4 := by kernel_rfl
theorem se43 : szT Yabo.prog (elT Yabo.prog 43) = 4 := by kernel_rfl
theorem se46 : szT Yabo.prog (elT Yabo.prog 46) = 1 := by kernel_rfl
theorem se47 : szT Yabo.prog (elT Yabo.prog 47) = 1 := by kernel_rfl
theorem se48 : szT Yabo.prog (elT Yabo.prog 48) = 1 := by kernel_rfl
theorem se49 : szT Yabo.prog (elT Yabo.prog 49) = 1 := by kernel_rfl
theorem se50 : szT Yabo.prog (elT Yabo.prog 50) = 1 := by kernel_rfl
theorem se51 : szT Yabo.prog (elT Yabo.prog 51) = 1 := by kernel_rfl
theorem se52 : szT Yabo.prog (elT Yabo.prog 52) = 1 := by kernel_rfl
theorem se53 : szT Yabo.prog (elT Yabo.prog 53) = 1 := by kernel_rfl
theorem se64 : szT Yabo.prog (elT Yabo.prog 64) = 4 := by kernel_rfl
theorem se75 : szT Yabo.prog (elT Yabo.prog 75) = 1 := by kernel_rfl
theorem se80 : szT Yabo.prog (elT Yabo.prog 80) = 1 := by kernel_rfl
theorem se86 : szT Yabo.prog (elT Yabo.prog 86) = 2 := by kernel_rfl
theorem se97 : szT Yabo.prog (elT Yabo.prog 97) = 2 := by kernel_rfl
theorem u195 : (Yabo.prog.underlying 195).isSome = true := by kernel_rfl
theorem u3 : (Yabo.prog.underlying 3).isSome = true := by kernel_rfl
theorem u5 : (Yabo.prog.underlying 5).isSome = true := by kernel_rfl
theorem z103 : zeroT Yabo.prog 103 = some [.slice none 0 0, .int .i64 0] := by kernel_rfl
theorem z111 : zeroT Yabo.prog 111 = some [.slice none 0 0, .slice none 0 0, .int .i64 0] := by kernel_rfl
theorem z118 : zeroT Yabo.prog 118 = some [.int .i64 0, .int .i64 0, .slice none 0 0] := by kernel_rfl
theorem z120 : zeroT Yabo.prog 120 = some [.slice none 0 0, .int .i64 0, .int .i64 0, .slice none 0 0, .int .i64 0] := by kernel_rfl
theorem z124 : zeroT Yabo.prog 124 = some [.int .i64 0, .string ⟨#[]⟩, .slice none 0 0] := by kernel_rfl
theorem z128 : zeroT Yabo.prog 128 = some [.int .i64 0, .string ⟨#[]⟩, .int .i64 0, .int .i64 0] := by kernel_rfl
theorem z135 : zeroT Yabo.prog 135 = some [.int .i64 0, .string ⟨#[]⟩, .int .i64 0, .int .i64 0] := by kernel_rfl
theorem z138 : zeroT Yabo.prog 138 = some [.slice none 0 0, .int .i64 0, .slice none 0 0, .bool false] := by kernel_rfl
theorem z150 : zeroT Yabo.prog 150 = some [.string ⟨#[]⟩, .slice none 0 0] := by kernel_rfl
theorem z154 : zeroT Yabo.prog 154 = some [.slice none 0 0, .int .i64 0, .int .i64 0] := by kernel_rfl
theorem z160 : zeroT Yabo.prog 160 = some [.int .i64 0, .bool false, .int .i64 0, .int .i64 0] := by kernel_rfl
theorem z167 : zeroT Yabo.prog 167 = some [.slice none 0 0, .int .i64 0, .int .i64 0] := by kernel_rfl
theorem z169 : zeroT Yabo.prog 169 = some [.int .i64 0, .bool false] := by kernel_rfl
theorem z179 : zeroT Yabo.prog 179 = some [.slice none 0 0, .int .i64 0, .bool false] := by kernel_rfl
theorem z206 : zeroT Yabo.prog 206 = some [.bool false, .slice none 0 0, .int .i64 0] := by kernel_rfl
theorem z31 : zeroT Yabo.prog 31 = some [.int .i64 0, .slice none 0 0, .int .i64 0, .slice none 0 0, .int .i64 0] := by kernel_rfl
theorem z34 : zeroT Yabo.prog 34 = some [.bool false, .int .i64 0, .int .i64 0, .slice none 0 0, .slice none 0 0] := by kernel_rfl
theorem z37 : zeroT Yabo.prog 37 = some [.slice none 0 0] := by kernel_rfl
theorem z55 : zeroT Yabo.prog 55 = some [.slice none 0 0, .slice none 0 0, .slice none 0 0, .slice none 0 0, .slice none 0 0, .slice none 0 0, .slice none 0 0, .slice none 0 0] := by kernel_rfl
theorem z59 : zeroT Yabo.prog 59 = some [.int .i64 0, .string ⟨#[]⟩, .int .i64 0, .int .i64 0] := by kernel_rfl
theorem z71 : zeroT Yabo.prog 71 = some [.int .i64 0, .string ⟨#[]⟩, .int .i64 0, .int .i64 0] := by kernel_rfl
theorem z88 : zeroT Yabo.prog 88 = some [.string ⟨#[]⟩, .slice none 0 0] := by kernel_rfl
theorem ze108 : zeroT Yabo.prog (elT Yabo.prog 108) = some [.slice none 0 0, .slice none 0 0, .int .i64 0] := by kernel_rfl
theorem ze114 : zeroT Yabo.prog (elT Yabo.prog 114) = some [.slice none 0 0, .int .i64 0, .int .i64 0, .slice none 0 0, .int .i64 0] := by kernel_rfl
theorem ze116 : zeroT Yabo.prog (elT Yabo.prog 116) = some [.int .i64 0, .int .i64 0, .slice none 0 0] := by kernel_rfl
theorem ze122 : zeroT Yabo.prog (elT Yabo.prog 122) = some [.int .i64 0, .string ⟨#[]⟩, .slice none 0 0] := by kernel_rfl
theorem ze155 : zeroT Yabo.prog (elT Yabo.prog 155) = some [.slice none 0 0, .int .i64 0, .int .i64 0] := by kernel_rfl
theorem ze156 : zeroT Yabo.prog (elT Yabo.prog 156) = some [.int .i64 0, .bool false, .int .i64 0, .int .i64 0] := by kernel_rfl
theorem ze164 : zeroT Yabo.prog (elT Yabo.prog 164) = some [.slice none 0 0, .int .i64 0, .int .i64 0] := by kernel_rfl
theorem ze165 : zeroT Yabo.prog (elT Yabo.prog 165) = some [.int .i64 0, .bool false] := by kernel_rfl
theorem ze200 : zeroT Yabo.prog (elT Yabo.prog 200) = some [.bool false, .slice none 0 0, .int .i64 0] := by kernel_rfl
theorem ze22 : zeroT Yabo.prog (elT Yabo.prog 22) = some [.int .u8 0] := by kernel_rfl
theorem ze23 : zeroT Yabo.prog (elT Yabo.prog 23) = some [.int .i64 0, .slice none 0 0, .int .i64 0, .slice none 0 0, .int .i64 0] := by kernel_rfl
theorem ze25 : zeroT Yabo.prog (elT Yabo.prog 25) = some [.bool false, .int .i64 0, .int .i64 0, .slice none 0 0, .slice none 0 0] := by kernel_rfl
theorem ze28 : zeroT Yabo.prog (elT Yabo.prog 28) = some [.int .i64 0, .string ⟨#[]⟩, .int .i64 0, .int .i64 0] := by kernel_rfl
theorem ze29 : zeroT Yabo.prog (elT Yabo.prog 29) = some [.int .i64 0] := by kernel_rfl
theorem ze32 : zeroT Yabo.prog (elT Yabo.prog 32) = some [.slice none 0 0] := by kernel_rfl
theorem ze41 : zeroT Yabo.prog (elT Yabo.prog 41) = some [.int .i64 0, .string ⟨#[]⟩, .int .i64 0, .int .i64 0] := by kernel_rfl
theorem ze43 : zeroT Yabo.prog (elT Yabo.prog 43) = some [.int .i64 0, .string ⟨#[]⟩, .int .i64 0, .int .i64 0] := by kernel_rfl
theorem ze46 : zeroT Yabo.prog (elT Yabo.prog 46) = some [.slice none 0 0] := by kernel_rfl
theorem ze47 : zeroT Yabo.prog (elT Yabo.prog 47) = some [.slice none 0 0] := by kernel_rfl
theorem ze48 : zeroT Yabo.prog (elT Yabo.prog 48) = some [.slice none 0 0] := by kernel_rfl
theorem ze49 : zeroT Yabo.prog (elT Yabo.prog 49) = some [.slice none 0 0] := by kernel_rfl
theorem ze51 : zeroT Yabo.prog (elT Yabo.prog 51) = some [.slice none 0 0] := by kernel_rfl
theorem ze52 : zeroT Yabo.prog (elT Yabo.prog 52) = some [.slice none 0 0] := by kernel_rfl
theorem ze53 : zeroT Yabo.prog (elT Yabo.prog 53) = some [.slice none 0 0] := by kernel_rfl
theorem ze64 : zeroT Yabo.prog (elT Yabo.prog 64) = some [.int .i64 0, .string ⟨#[]⟩, .int .i64 0, .int .i64 0] := by kernel_rfl
theorem ze75 : zeroT Yabo.prog (elT Yabo.prog 75) = some [.string ⟨#[]⟩] := by kernel_rfl
theorem ze80 : zeroT Yabo.prog (elT Yabo.prog 80) = some [.bool false] := by kernel_rfl
theorem ze86 : zeroT Yabo.prog (elT Yabo.prog 86) = some [.string ⟨#[]⟩, .slice none 0 0] := by kernel_rfl
theorem ze97 : zeroT Yabo.prog (elT Yabo.prog 97) = some [.string ⟨#[]⟩, .slice none 0 0] := by kernel_rfl
theorem ok3 : okCode Yabo.f3.ntmps (Yabo.f3.body.getD .skip) = true := by kernel_rfl
theorem ent3 {args : Array Value} {w : World} {R : Value → World → Prop} (hn : args.size ≤ 98) (h : VC Yabo.prog (Yabo.f3.body.getD .skip) (retK Yabo.prog Yabo.f3 R) (initEnv args) w) : CallsV Yabo.prog 3 args w R :=
  callsV_of_W hmix Yabo.func3 rfl ok3 hn h.out
theorem ok4 : okCode Yabo.f4.ntmps (Yabo.f4.body.getD .skip) = true := by kernel_rfl
theorem ent4 {args : Array Value} {w : World} {R : Value → World → Prop} (hn : args.size ≤ 1) (h : VC Yabo.prog (Yabo.f4.body.getD .skip) (retK Yabo.prog Yabo.f4 R) (initEnv args) w) : CallsV Yabo.prog 4 args w R :=
  callsV_of_W hmix Yabo.func4 rfl ok4 hn h.out
theorem ok5 : okCode Yabo.f5.ntmps (Yabo.f5.body.getD .skip) = true := by kernel_rfl
theorem ent5 {args : Array Value} {w : World} {R : Value → World → Prop} (hn : args.size ≤ 41) (h : VC Yabo.prog (Yabo.f5.body.getD .skip) (retK Yabo.prog Yabo.f5 R) (initEnv args) w) : CallsV Yabo.prog 5 args w R :=
  callsV_of_W hmix Yabo.func5 rfl ok5 hn h.out
theorem ok6 : okCode Yabo.f6.ntmps (Yabo.f6.body.getD .skip) = true := by kernel_rfl
theorem ent6 {args : Array Value} {w : World} {R : Value → World → Prop} (hn : args.size ≤ 138) (h : VC Yabo.prog (Yabo.f6.body.getD .skip) (retK Yabo.prog Yabo.f6 R) (initEnv args) w) : CallsV Yabo.prog 6 args w R :=
  callsV_of_W hmix Yabo.func6 rfl ok6 hn h.out
theorem ok7 : okCode Yabo.f7.ntmps (Yabo.f7.body.getD .skip) = true := by kernel_rfl
theorem ent7 {args : Array Value} {w : World} {R : Value → World → Prop} (hn : args.size ≤ 76) (h : VC Yabo.prog (Yabo.f7.body.getD .skip) (retK Yabo.prog Yabo.f7 R) (initEnv args) w) : CallsV Yabo.prog 7 args w R :=
  callsV_of_W hmix Yabo.func7 rfl ok7 hn h.out
theorem ok8 : okCode Yabo.f8.ntmps (Yabo.f8.body.getD .skip) = true := by kernel_rfl
theorem ent8 {args : Array Value} {w : World} {R : Value → World → Prop} (hn : args.size ≤ 85) (h : VC Yabo.prog (Yabo.f8.body.getD .skip) (retK Yabo.prog Yabo.f8 R) (initEnv args) w) : CallsV Yabo.prog 8 args w R :=
  callsV_of_W hmix Yabo.func8 rfl ok8 hn h.out
theorem ok9 : okCode Yabo.f9.ntmps (Yabo.f9.body.getD .skip) = true := by kernel_rfl
theorem ent9 {args : Array Value} {w : World} {R : Value → World → Prop} (hn : args.size ≤ 73) (h : VC Yabo.prog (Yabo.f9.body.getD .skip) (retK Yabo.prog Yabo.f9 R) (initEnv args) w) : CallsV Yabo.prog 9 args w R :=
  callsV_of_W hmix Yabo.func9 rfl ok9 hn h.out
theorem ok10 : okCode Yabo.f10.ntmps (Yabo.f10.body.getD .skip) = true := by kernel_rfl
theorem ent10 {args : Array Value} {w : World} {R : Value → World → Prop} (hn : args.size ≤ 133) (h : VC Yabo.prog (Yabo.f10.body.getD .skip) (retK Yabo.prog Yabo.f10 R) (initEnv args) w) : CallsV Yabo.prog 10 args w R :=
  callsV_of_W hmix Yabo.func10 rfl ok10 hn h.out
theorem ok11 : okCode Yabo.f11.ntmps (Yabo.f11.body.getD .skip) = true := by kernel_rfl
theorem ent11 {args : Array Value} {w : World} {R : Value → World → Prop} (hn : args.size ≤ 98) (h : VC Yabo.prog (Yabo.f11.body.getD .skip) (retK Yabo.prog Yabo.f11 R) (initEnv args) w) : CallsV Yabo.prog 11 args w R :=
  callsV_of_W hmix Yabo.func11 rfl ok11 hn h.out
theorem ok12 : okCode Yabo.f12.ntmps (Yabo.f12.body.getD .skip) = true := by kernel_rfl
theorem ent12 {args : Array Value} {w : World} {R : Value → World → Prop} (hn : args.size ≤ 173) (h : VC Yabo.prog (Yabo.f12.body.getD .skip) (retK Yabo.prog Yabo.f12 R) (initEnv args) w) : CallsV Yabo.prog 12 args w R :=
  callsV_of_W hmix Yabo.func12 rfl ok12 hn h.out
theorem ok13 : okCode Yabo.f13.ntmps (Yabo.f13.body.getD .skip) = true := by kernel_rfl
theorem ent13 {args : Array Value} {w : World} {R : Value → World → Prop} (hn : args.size ≤ 198) (h : VC Yabo.prog (Yabo.f13.body.getD .skip) (retK Yabo.prog Yabo.f13 R) (initEnv args) w) : CallsV Yabo.prog 13 args w R :=
  callsV_of_W hmix Yabo.func13 rfl ok13 hn h.out
theorem ok14 : okCode Yabo.f14.ntmps (Yabo.f14.body.getD .skip) = true := by kernel_rfl
theorem ent14 {args : Array Value} {w : World} {R : Value → World → Prop} (hn : args.size ≤ 293) (h : VC Yabo.prog (Yabo.f14.body.getD .skip) (retK Yabo.prog Yabo.f14 R) (initEnv args) w) : CallsV Yabo.prog 14 args w R :=
  callsV_of_W hmix Yabo.func14 rfl ok14 hn h.out
theorem ok15 : okCode Yabo.f15.ntmps (Yabo.f15.body.getD .skip) = true := by kernel_rfl
theorem ent15 {args : Array Value} {w : World} {R : Value → World → Prop} (hn : args.size ≤ 187) (h : VC Yabo.prog (Yabo.f15.body.getD .skip) (retK Yabo.prog Yabo.f15 R) (initEnv args) w) : CallsV Yabo.prog 15 args w R :=
  callsV_of_W hmix Yabo.func15 rfl ok15 hn h.out
theorem ok16 : okCode Yabo.f16.ntmps (Yabo.f16.body.getD .skip) = true := by kernel_rfl
theorem ent16 {args : Array Value} {w : World} {R : Value → World → Prop} (hn : args.size ≤ 70) (h : VC Yabo.prog (Yabo.f16.body.getD .skip) (retK Yabo.prog Yabo.f16 R) (initEnv args) w) : CallsV Yabo.prog 16 args w R :=
  callsV_of_W hmix Yabo.func16 rfl ok16 hn h.out
theorem ok17 : okCode Yabo.f17.ntmps (Yabo.f17.body.getD .skip) = true := by kernel_rfl
theorem ent17 {args : Array Value} {w : World} {R : Value → World → Prop} (hn : args.size ≤ 27) (h : VC Yabo.prog (Yabo.f17.body.getD .skip) (retK Yabo.prog Yabo.f17 R) (initEnv args) w) : CallsV Yabo.prog 17 args w R :=
  callsV_of_W hmix Yabo.func17 rfl ok17 hn h.out
theorem ok18 : okCode Yabo.f18.ntmps (Yabo.f18.body.getD .skip) = true := by kernel_rfl
theorem ent18 {args : Array Value} {w : World} {R : Value → World → Prop} (hn : args.size ≤ 67) (h : VC Yabo.prog (Yabo.f18.body.getD .skip) (retK Yabo.prog Yabo.f18 R) (initEnv args) w) : CallsV Yabo.prog 18 args w R :=
  callsV_of_W hmix Yabo.func18 rfl ok18 hn h.out
theorem ok19 : okCode Yabo.f19.ntmps (Yabo.f19.body.getD .skip) = true := by kernel_rfl
theorem ent19 {args : Array Value} {w : World} {R : Value → World → Prop} (hn : args.size ≤ 11) (h : VC Yabo.prog (Yabo.f19.body.getD .skip) (retK Yabo.prog Yabo.f19 R) (initEnv args) w) : CallsV Yabo.prog 19 args w R :=
  callsV_of_W hmix Yabo.func19 rfl ok19 hn h.out
theorem ok20 : okCode Yabo.f20.ntmps (Yabo.f20.body.getD .skip) = true := by kernel_rfl
theorem ent20 {args : Array Value} {w : World} {R : Value → World → Prop} (hn : args.size ≤ 8) (h : VC Yabo.prog (Yabo.f20.body.getD .skip) (retK Yabo.prog Yabo.f20 R) (initEnv args) w) : CallsV Yabo.prog 20 args w R :=
  callsV_of_W hmix Yabo.func20 rfl ok20 hn h.out
theorem ok21 : okCode Yabo.f21.ntmps (Yabo.f21.body.getD .skip) = true := by kernel_rfl
theorem ent21 {args : Array Value} {w : World} {R : Value → World → Prop} (hn : args.size ≤ 37) (h : VC Yabo.prog (Yabo.f21.body.getD .skip) (retK Yabo.prog Yabo.f21 R) (initEnv args) w) : CallsV Yabo.prog 21 args w R :=
  callsV_of_W hmix Yabo.func21 rfl ok21 hn h.out
theorem ok22 : okCode Yabo.f22.ntmps (Yabo.f22.body.getD .skip) = true := by kernel_rfl
theorem ent22 {args : Array Value} {w : World} {R : Value → World → Prop} (hn : args.size ≤ 179) (h : VC Yabo.prog (Yabo.f22.body.getD .skip) (retK Yabo.prog Yabo.f22 R) (initEnv args) w) : CallsV Yabo.prog 22 args w R :=
  callsV_of_W hmix Yabo.func22 rfl ok22 hn h.out
theorem ok23 : okCode Yabo.f23.ntmps (Yabo.f23.body.getD .skip) = true := by kernel_rfl
theorem ent23 {args : Array Value} {w : World} {R : Value → World → Prop} (hn : args.size ≤ 200) (h : VC Yabo.prog (Yabo.f23.body.getD .skip) (retK Yabo.prog Yabo.f23 R) (initEnv args) w) : CallsV Yabo.prog 23 args w R :=
  callsV_of_W hmix Yabo.func23 rfl ok23 hn h.out
theorem ok24 : okCode Yabo.f24.ntmps (Yabo.f24.body.getD .skip) = true := by kernel_rfl
theorem ent24 {args : Array Value} {w : World} {R : Value → World → Prop} (hn : args.size ≤ 26) (h : VC Yabo.prog (Yabo.f24.body.getD .skip) (retK Yabo.prog Yabo.f24 R) (initEnv args) w) : CallsV Yabo.prog 24 args w R :=
  callsV_of_W hmix Yabo.func24 rfl ok24 hn h.out
theorem ok25 : okCode Yabo.f25.ntmps (Yabo.f25.body.getD .skip) = true := by kernel_rfl
theorem ent25 {args : Array Value} {w : World} {R : Value → World → Prop} (hn : args.size ≤ 14) (h : VC Yabo.prog (Yabo.f25.body.getD .skip) (retK Yabo.prog Yabo.f25 R) (initEnv args) w) : CallsV Yabo.prog 25 args w R :=
  callsV_of_W hmix Yabo.func25 rfl ok25 hn h.out
theorem ok26 : okCode Yabo.f26.ntmps (Yabo.f26.body.getD .skip) = true := by kernel_rfl
theorem ent26 {args : Array Value} {w : World} {R : Value → World → Prop} (hn : args.size ≤ 639) (h : VC Yabo.prog (Yabo.f26.body.getD .skip) (retK Yabo.prog Yabo.f26 R) (initEnv args) w) : CallsV Yabo.prog 26 args w R :=
  callsV_of_W hmix Yabo.func26 rfl ok26 hn h.out
theorem ok27 : okCode Yabo.f27.ntmps (Yabo.f27.body.getD .skip) = true := by kernel_rfl
theorem ent27 {args : Array Value} {w : World} {R : Value → World → Prop} (hn : args.size ≤ 24) (h : VC Yabo.prog (Yabo.f27.body.getD .skip) (retK Yabo.prog Yabo.f27 R) (initEnv args) w) : CallsV Yabo.prog 27 args w R :=
  callsV_of_W hmix Yabo.func27 rfl ok27 hn h.out
theorem ok28 : okCode Yabo.f28.ntmps (Yabo.f28.body.getD .skip) = true := by kernel_rfl
theorem ent28 {args : Array Value} {w : World} {R : Value → World → Prop} (hn : args.size ≤ 29) (h : VC Yabo.prog (Yabo.f28.body.getD .skip) (retK Yabo.prog Yabo.f28 R) (initEnv args) w) : CallsV Yabo.prog 28 args w R :=
  callsV_of_W hmix Yabo.func28 rfl ok28 hn h.out
theorem ok29 : okCode Yabo.f29.ntmps (Yabo.f29.body.getD .skip) = true := by kernel_rfl
theorem ent29 {args : Array Value} {w : World} {R : Value → World → Prop} (hn : args.size ≤ 15) (h : VC Yabo.prog (Yabo.f29.body.getD .skip) (retK Yabo.prog Yabo.f29 R) (initEnv args) w) : CallsV Yabo.prog 29 args w R :=
  callsV_of_W hmix Yabo.func29 rfl ok29 hn h.out
theorem ok30 : okCode Yabo.f30.ntmps (Yabo.f30.body.getD .skip) = true := by kernel_rfl
theorem ent30 {args : Array Value} {w : World} {R : Value → World → Prop} (hn : args.size ≤ 37) (h : VC Yabo.prog (Yabo.f30.body.getD .skip) (retK Yabo.prog Yabo.f30 R) (initEnv args) w) : CallsV Yabo.prog 30 args w R :=
  callsV_of_W hmix Yabo.func30 rfl ok30 hn h.out
theorem ok31 : okCode Yabo.f31.ntmps (Yabo.f31.body.getD .skip) = true := by kernel_rfl
theorem ent31 {args : Array Value} {w : World} {R : Value → World → Prop} (hn : args.size ≤ 38) (h : VC Yabo.prog (Yabo.f31.body.getD .skip) (retK Yabo.prog Yabo.f31 R) (initEnv args) w) : CallsV Yabo.prog 31 args w R :=
  callsV_of_W hmix Yabo.func31 rfl ok31 hn h.out
theorem ok32 : okCode Yabo.f32.ntmps (Yabo.f32.body.getD .skip) = true := by kernel_rfl
theorem ent32 {args : Array Value} {w : World} {R : Value → World → Prop} (hn : args.size ≤ 26) (h : VC Yabo.prog (Yabo.f32.body.getD .skip) (retK Yabo.prog Yabo.f32 R) (initEnv args) w) : CallsV Yabo.prog 32 args w R :=
  callsV_of_W hmix Yabo.func32 rfl ok32 hn h.out
theorem ok33 : okCode Yabo.f33.ntmps (Yabo.f33.body.getD .skip) = true := by kernel_rfl
theorem ent33 {args : Array Value} {w : World} {R : Value → World → Prop} (hn : args.size ≤ 10) (h : VC Yabo.prog (Yabo.f33.body.getD .skip) (retK Yabo.prog Yabo.f33 R) (initEnv args) w) : CallsV Yabo.prog 33 args w R :=
  callsV_of_W hmix Yabo.func33 rfl ok33 hn h.out
theorem ok34 : okCode Yabo.f34.ntmps (Yabo.f34.body.getD .skip) = true := by kernel_rfl
theorem ent34 {args : Array Value} {w : World} {R : Value → World → Prop} (hn : args.size ≤ 13) (h : VC Yabo.prog (Yabo.f34.body.getD .skip) (retK Yabo.prog Yabo.f34 R) (initEnv args) w) : CallsV Yabo.prog 34 args w R :=
  callsV_of_W hmix Yabo.func34 rfl ok34 hn h.out
theorem ok35 : okCode Yabo.f35.ntmps (Yabo.f35.body.getD .skip) = true := by kernel_rfl
theorem ent35 {args : Array Value} {w : World} {R : Value → World → Prop} (hn : args.size ≤ 14) (h : VC Yabo.prog (Yabo.f35.body.getD .skip) (retK Yabo.prog Yabo.f35 R) (initEnv args) w) : CallsV Yabo.prog 35 args w R :=
  callsV_of_W hmix Yabo.func35 rfl ok35 hn h.out
theorem ok36 : okCode Yabo.f36.ntmps (Yabo.f36.body.getD .skip) = true := by kernel_rfl
theorem ent36 {args : Array Value} {w : World} {R : Value → World → Prop} (hn : args.size ≤ 9) (h : VC Yabo.prog (Yabo.f36.body.getD .skip) (retK Yabo.prog Yabo.f36 R) (initEnv args) w) : CallsV Yabo.prog 36 args w R :=
  callsV_of_W hmix Yabo.func36 rfl ok36 hn h.out
theorem ok37 : okCode Yabo.f37.ntmps (Yabo.f37.body.getD .skip) = true := by kernel_rfl
theorem ent37 {args : Array Value} {w : World} {R : Value → World → Prop} (hn : args.size ≤ 9) (h : VC Yabo.prog (Yabo.f37.body.getD .skip) (retK Yabo.prog Yabo.f37 R) (initEnv args) w) : CallsV Yabo.prog 37 args w R :=
  callsV_of_W hmix Yabo.func37 rfl ok37 hn h.out
theorem ok38 : okCode Yabo.f38.ntmps (Yabo.f38.body.getD .skip) = true := by kernel_rfl
theorem ent38 {args : Array Value} {w : World} {R : Value → World → Prop} (hn : args.size ≤ 24) (h : VC Yabo.prog (Yabo.f38.body.getD .skip) (retK Yabo.prog Yabo.f38 R) (initEnv args) w) : CallsV Yabo.prog 38 args w R :=
  callsV_of_W hmix Yabo.func38 rfl ok38 hn h.out
theorem ok39 : okCode Yabo.f39.ntmps (Yabo.f39.body.getD .skip) = true := by kernel_rfl
theorem ent39 {args : Array Value} {w : World} {R : Value → World → Prop} (hn : args.size ≤ 29) (h : VC Yabo.prog (Yabo.f39.body.getD .skip) (retK Yabo.prog Yabo.f39 R) (initEnv args) w) : CallsV Yabo.prog 39 args w R :=
  callsV_of_W hmix Yabo.func39 rfl ok39 hn h.out
theorem ok40 : okCode Yabo.f40.ntmps (Yabo.f40.body.getD .skip) = true := by kernel_rfl
theorem ent40 {args : Array Value} {w : World} {R : Value → World → Prop} (hn : args.size ≤ 14) (h : VC Yabo.prog (Yabo.f40.body.getD .skip) (retK Yabo.prog Yabo.f40 R) (initEnv args) w) : CallsV Yabo.prog 40 args w R :=
  callsV_of_W hmix Yabo.func40 rfl ok40 hn h.out
theorem ok41 : okCode Yabo.f41.ntmps (Yabo.f41.body.getD .skip) = true := by kernel_rfl
theorem ent41 {args : Array Value} {w : World} {R : Value → World → Prop} (hn : args.size ≤ 12) (h : VC Yabo.prog (Yabo.f41.body.getD .skip) (retK Yabo.prog Yabo.f41 R) (initEnv args) w) : CallsV Yabo.prog 41 args w R :=
  callsV_of_W hmix Yabo.func41 rfl ok41 hn h.out
theorem ok42 : okCode Yabo.f42.ntmps (Yabo.f42.body.getD .skip) = true := by kernel_rfl
theorem ent42 {args : Array Value} {w : World} {R : Value → World → Prop} (hn : args.size ≤ 10) (h : VC Yabo.prog (Yabo.f42.body.getD .skip) (retK Yabo.prog Yabo.f42 R) (initEnv args) w) : CallsV Yabo.prog 42 args w R :=
  callsV_of_W hmix Yabo.func42 rfl ok42 hn h.out
theorem ok43 : okCode Yabo.f43.ntmps (Yabo.f43.body.getD .skip) = true := by kernel_rfl
theorem ent43 {args : Array Value} {w : World} {R : Value → World → Prop} (hn : args.size ≤ 13) (h : VC Yabo.prog (Yabo.f43.body.getD .skip) (retK Yabo.prog Yabo.f43 R) (initEnv args) w) : CallsV Yabo.prog 43 args w R :=
  callsV_of_W hmix Yabo.func43 rfl ok43 hn h.out
theorem ok44 : okCode Yabo.f44.ntmps (Yabo.f44.body.getD .skip) = true := by kernel_rfl
theorem ent44 {args : Array Value} {w : World} {R : Value → World → Prop} (hn : args.size ≤ 11) (h : VC Yabo.prog (Yabo.f44.body.getD .skip) (retK Yabo.prog Yabo.f44 R) (initEnv args) w) : CallsV Yabo.prog 44 args w R :=
  callsV_of_W hmix Yabo.func44 rfl ok44 hn h.out
theorem ok45 : okCode Yabo.f45.ntmps (Yabo.f45.body.getD .skip) = true := by kernel_rfl
theorem ent45 {args : Array Value} {w : World} {R : Value → World → Prop} (hn : args.size ≤ 53) (h : VC Yabo.prog (Yabo.f45.body.getD .skip) (retK Yabo.prog Yabo.f45 R) (initEnv args) w) : CallsV Yabo.prog 45 args w R :=
  callsV_of_W hmix Yabo.func45 rfl ok45 hn h.out
theorem ok46 : okCode Yabo.f46.ntmps (Yabo.f46.body.getD .skip) = true := by kernel_rfl
theorem ent46 {args : Array Value} {w : World} {R : Value → World → Prop} (hn : args.size ≤ 26) (h : VC Yabo.prog (Yabo.f46.body.getD .skip) (retK Yabo.prog Yabo.f46 R) (initEnv args) w) : CallsV Yabo.prog 46 args w R :=
  callsV_of_W hmix Yabo.func46 rfl ok46 hn h.out
theorem ok47 : okCode Yabo.f47.ntmps (Yabo.f47.body.getD .skip) = true := by kernel_rfl
theorem ent47 {args : Array Value} {w : World} {R : Value → World → Prop} (hn : args.size ≤ 29) (h : VC Yabo.prog (Yabo.f47.body.getD .skip) (retK Yabo.prog Yabo.f47 R) (initEnv args) w) : CallsV Yabo.prog 47 args w R :=
  callsV_of_W hmix Yabo.func47 rfl ok47 hn h.out
theorem ok48 : okCode Yabo.f48.ntmps (Yabo.f48.body.getD .skip) = true := by kernel_rfl
theorem ent48 {args : Array Value} {w : World} {R : Value → World → Prop} (hn : args.size ≤ 15) (h : VC Yabo.prog (Yabo.f48.body.getD .skip) (retK Yabo.prog Yabo.f48 R) (initEnv args) w) : CallsV Yabo.prog 48 args w R :=
  callsV_of_W hmix Yabo.func48 rfl ok48 hn h.out
theorem ok49 : okCode Yabo.f49.ntmps (Yabo.f49.body.getD .skip) = true := by kernel_rfl
theorem ent49 {args : Array Value} {w : World} {R : Value → World → Prop} (hn : args.size ≤ 42) (h : VC Yabo.prog (Yabo.f49.body.getD .skip) (retK Yabo.prog Yabo.f49 R) (initEnv args) w) : CallsV Yabo.prog 49 args w R :=
  callsV_of_W hmix Yabo.func49 rfl ok49 hn h.out
theorem ok50 : okCode Yabo.f50.ntmps (Yabo.f50.body.getD .skip) = true := by kernel_rfl
theorem ent50 {args : Array Value} {w : World} {R : Value → World → Prop} (hn : args.size ≤ 26) (h : VC Yabo.prog (Yabo.f50.body.getD .skip) (retK Yabo.prog Yabo.f50 R) (initEnv args) w) : CallsV Yabo.prog 50 args w R :=
  callsV_of_W hmix Yabo.func50 rfl ok50 hn h.out
theorem ok51 : okCode Yabo.f51.ntmps (Yabo.f51.body.getD .skip) = true := by kernel_rfl
theorem ent51 {args : Array Value} {w : World} {R : Value → World → Prop} (hn : args.size ≤ 14) (h : VC Yabo.prog (Yabo.f51.body.getD .skip) (retK Yabo.prog Yabo.f51 R) (initEnv args) w) : CallsV Yabo.prog 51 args w R :=
  callsV_of_W hmix Yabo.func51 rfl ok51 hn h.out
theorem ok52 : okCode Yabo.f52.ntmps (Yabo.f52.body.getD .skip) = true := by kernel_rfl
theorem ent52 {args : Array Value} {w : World} {R : Value → World → Prop} (hn : args.size ≤ 23) (h : VC Yabo.prog (Yabo.f52.body.getD .skip) (retK Yabo.prog Yabo.f52 R) (initEnv args) w) : CallsV Yabo.prog 52 args w R :=
  callsV_of_W hmix Yabo.func52 rfl ok52 hn h.out
theorem ok53 : okCode Yabo.f53.ntmps (Yabo.f53.body.getD .skip) = true := by kernel_rfl
theorem ent53 {args : Array Value} {w : World} {R : Value → World → Prop} (hn : args.size ≤ 29) (h : VC Yabo.prog (Yabo.f53.body.getD .skip) (retK Yabo.prog Yabo.f53 R) (initEnv args) w) : CallsV Yabo.prog 53 args w R :=
  callsV_of_W hmix Yabo.func53 rfl ok53 hn h.out
theorem ok54 : okCode Yabo.f54.ntmps (Yabo.f54.body.getD .skip) = true := by kernel_rfl
theorem ent54 {args : Array Value} {w : World} {R : Value → World → Prop} (hn : args.size ≤ 20) (h : VC Yabo.prog (Yabo.f54.body.getD .skip) (retK Yabo.prog Yabo.f54 R) (initEnv args) w) : CallsV Yabo.prog 54 args w R :=
  callsV_of_W hmix Yabo.func54 rfl ok54 hn h.out
theorem ok55 : okCode Yabo.f55.ntmps (Yabo.f55.body.getD .skip) = true := by kernel_rfl
theorem ent55 {args : Array Value} {w : World} {R : Value → World → Prop} (hn : args.size ≤ 145) (h : VC Yabo.prog (Yabo.f55.body.getD .skip) (retK Yabo.prog Yabo.f55 R) (initEnv args) w) : CallsV Yabo.prog 55 args w R :=
  callsV_of_W hmix Yabo.func55 rfl ok55 hn h.out
theorem ok56 : okCode Yabo.f56.ntmps (Yabo.f56.body.getD .skip) = true := by kernel_rfl
theorem ent56 {args : Array Value} {w : World} {R : Value → World → Prop} (hn : args.size ≤ 26) (h : VC Yabo.prog (Yabo.f56.body.getD .skip) (retK Yabo.prog Yabo.f56 R) (initEnv args) w) : CallsV Yabo.prog 56 args w R :=
  callsV_of_W hmix Yabo.func56 rfl ok56 hn h.out
theorem ok57 : okCode Yabo.f57.ntmps (Yabo.f57.body.getD .skip) = true := by kernel_rfl
theorem ent57 {args : Array Value} {w : World} {R : Value → World → Prop} (hn : args.size ≤ 12) (h : VC Yabo.prog (Yabo.f57.body.getD .skip) (retK Yabo.prog Yabo.f57 R) (initEnv args) w) : CallsV Yabo.prog 57 args w R :=
  callsV_of_W hmix Yabo.func57 rfl ok57 hn h.out
theorem ok58 : okCode Yabo.f58.ntmps (Yabo.f58.body.getD .skip) = true := by kernel_rfl
theorem ent58 {args : Array Value} {w : World} {R : Value → World → Prop} (hn : args.size ≤ 17) (h : VC Yabo.prog (Yabo.f58.body.getD .skip) (retK Yabo.prog Yabo.f58 R) (initEnv args) w) : CallsV Yabo.prog 58 args w R :=
  callsV_of_W hmix Yabo.func58 rfl ok58 hn h.out
theorem ok59 : okCode Yabo.f59.ntmps (Yabo.f59.body.getD .skip) = true := by kernel_rfl
theorem ent59 {args : Array Value} {w : World} {R : Value → World → Prop} (hn : args.size ≤ 70) (h : VC Yabo.prog (Yabo.f59.body.getD .skip) (retK Yabo.prog Yabo.f59 R) (initEnv args) w) : CallsV Yabo.prog 59 args w R :=
  callsV_of_W hmix Yabo.func59 rfl ok59 hn h.out
theorem ok60 : okCode Yabo.f60.ntmps (Yabo.f60.body.getD .skip) = true := by kernel_rfl
theorem ent60 {args : Array Value} {w : World} {R : Value → World → Prop} (hn : args.size ≤ 38) (h : VC Yabo.prog (Yabo.f60.body.getD .skip) (retK Yabo.prog Yabo.f60 R) (initEnv args) w) : CallsV Yabo.prog 60 args w R :=
  callsV_of_W hmix Yabo.func60 rfl ok60 hn h.out
theorem ok61 : okCode Yabo.f61.ntmps (Yabo.f61.body.getD .skip) = true := by kernel_rfl
theorem ent61 {args : Array Value} {w : World} {R : Value → World → Prop} (hn : args.size ≤ 36) (h : VC Yabo.prog (Yabo.f61.body.getD .skip) (retK Yabo.prog Yabo.f61 R) (initEnv args) w) : CallsV Yabo.prog 61 args w R :=
  callsV_of_W hmix Yabo.func61 rfl ok61 hn h.out
theorem ok62 : okCode Yabo.f62.ntmps (Yabo.f62.body.getD .skip) = true := by kernel_rfl
theorem ent62 {args : Array Value} {w : World} {R : Value → World → Prop} (hn : args.size ≤ 183) (h : VC Yabo.prog (Yabo.f62.body.getD .skip) (retK Yabo.prog Yabo.f62 R) (initEnv args) w) : CallsV Yabo.prog 62 args w R :=
  callsV_of_W hmix Yabo.func62 rfl ok62 hn h.out
theorem ok63 : okCode Yabo.f63.ntmps (Yabo.f63.body.getD .skip) = true := by kernel_rfl
theorem ent63 {args : Array Value} {w : World} {R : Value → World → Prop} (hn : args.size ≤ 10) (h : VC Yabo.prog (Yabo.f63.body.getD .skip) (retK Yabo.prog Yabo.f63 R) (initEnv args) w) : CallsV Yabo.prog 63 args w R :=
  callsV_of_W hmix Yabo.func63 rfl ok63 hn h.out
theorem ok64 : okCode Yabo.f64.ntmps (Yabo.f64.body.getD .skip) = true := by kernel_rfl
theorem ent64 {args : Array Value} {w : World} {R : Value → World → Prop} (hn : args.size ≤ 19) (h : VC Yabo.prog (Yabo.f64.body.getD .skip) (retK Yabo.prog Yabo.f64 R) (initEnv args) w) : CallsV Yabo.prog 64 args w R :=
  callsV_of_W hmix Yabo.func64 rfl ok64 hn h.out
theorem ok65 : okCode Yabo.f65.ntmps (Yabo.f65.body.getD .skip) = true := by kernel_rfl
theorem ent65 {args : Array Value} {w : World} {R : Value → World → Prop} (hn : args.size ≤ 71) (h : VC Yabo.prog (Yabo.f65.body.getD .skip) (retK Yabo.prog Yabo.f65 R) (initEnv args) w) : CallsV Yabo.prog 65 args w R :=
  callsV_of_W hmix Yabo.func65 rfl ok65 hn h.out
theorem ok66 : okCode Yabo.f66.ntmps (Yabo.f66.body.getD .skip) = true := by kernel_rfl
theorem ent66 {args : Array Value} {w : World} {R : Value → World → Prop} (hn : args.size ≤ 28) (h : VC Yabo.prog (Yabo.f66.body.getD .skip) (retK Yabo.prog Yabo.f66 R) (initEnv args) w) : CallsV Yabo.prog 66 args w R :=
  callsV_of_W hmix Yabo.func66 rfl ok66 hn h.out
theorem ok67 : okCode Yabo.f67.ntmps (Yabo.f67.body.getD .skip) = true := by kernel_rfl
theorem ent67 {args : Array Value} {w : World} {R : Value → World → Prop} (hn : args.size ≤ 68) (h : VC Yabo.prog (Yabo.f67.body.getD .skip) (retK Yabo.prog Yabo.f67 R) (initEnv args) w) : CallsV Yabo.prog 67 args w R :=
  callsV_of_W hmix Yabo.func67 rfl ok67 hn h.out
theorem ok68 : okCode Yabo.f68.ntmps (Yabo.f68.body.getD .skip) = true := by kernel_rfl
theorem ent68 {args : Array Value} {w : World} {R : Value → World → Prop} (hn : args.size ≤ 42) (h : VC Yabo.prog (Yabo.f68.body.getD .skip) (retK Yabo.prog Yabo.f68 R) (initEnv args) w) : CallsV Yabo.prog 68 args w R :=
  callsV_of_W hmix Yabo.func68 rfl ok68 hn h.out
theorem ok69 : okCode Yabo.f69.ntmps (Yabo.f69.body.getD .skip) = true := by kernel_rfl
theorem ent69 {args : Array Value} {w : World} {R : Value → World → Prop} (hn : args.size ≤ 35) (h : VC Yabo.prog (Yabo.f69.body.getD .skip) (retK Yabo.prog Yabo.f69 R) (initEnv args) w) : CallsV Yabo.prog 69 args w R :=
  callsV_of_W hmix Yabo.func69 rfl ok69 hn h.out
theorem ok70 : okCode Yabo.f70.ntmps (Yabo.f70.body.getD .skip) = true := by kernel_rfl
theorem ent70 {args : Array Value} {w : World} {R : Value → World → Prop} (hn : args.size ≤ 13) (h : VC Yabo.prog (Yabo.f70.body.getD .skip) (retK Yabo.prog Yabo.f70 R) (initEnv args) w) : CallsV Yabo.prog 70 args w R :=
  callsV_of_W hmix Yabo.func70 rfl ok70 hn h.out
theorem ok71 : okCode Yabo.f71.ntmps (Yabo.f71.body.getD .skip) = true := by kernel_rfl
theorem ent71 {args : Array Value} {w : World} {R : Value → World → Prop} (hn : args.size ≤ 33) (h : VC Yabo.prog (Yabo.f71.body.getD .skip) (retK Yabo.prog Yabo.f71 R) (initEnv args) w) : CallsV Yabo.prog 71 args w R :=
  callsV_of_W hmix Yabo.func71 rfl ok71 hn h.out
theorem ok72 : okCode Yabo.f72.ntmps (Yabo.f72.body.getD .skip) = true := by kernel_rfl
theorem ent72 {args : Array Value} {w : World} {R : Value → World → Prop} (hn : args.size ≤ 12) (h : VC Yabo.prog (Yabo.f72.body.getD .skip) (retK Yabo.prog Yabo.f72 R) (initEnv args) w) : CallsV Yabo.prog 72 args w R :=
  callsV_of_W hmix Yabo.func72 rfl ok72 hn h.out
theorem ok73 : okCode Yabo.f73.ntmps (Yabo.f73.body.getD .skip) = true := by kernel_rfl
theorem ent73 {args : Array Value} {w : World} {R : Value → World → Prop} (hn : args.size ≤ 39) (h : VC Yabo.prog (Yabo.f73.body.getD .skip) (retK Yabo.prog Yabo.f73 R) (initEnv args) w) : CallsV Yabo.prog 73 args w R :=
  callsV_of_W hmix Yabo.func73 rfl ok73 hn h.out
theorem ok74 : okCode Yabo.f74.ntmps (Yabo.f74.body.getD .skip) = true := by kernel_rfl
theorem ent74 {args : Array Value} {w : World} {R : Value → World → Prop} (hn : args.size ≤ 13) (h : VC Yabo.prog (Yabo.f74.body.getD .skip) (retK Yabo.prog Yabo.f74 R) (initEnv args) w) : CallsV Yabo.prog 74 args w R :=
  callsV_of_W hmix Yabo.func74 rfl ok74 hn h.out
theorem ok75 : okCode Yabo.f75.ntmps (Yabo.f75.body.getD .skip) = true := by kernel_rfl
theorem ent75 {args : Array Value} {w : World} {R : Value → World → Prop} (hn : args.size ≤ 172) (h : VC Yabo.prog (Yabo.f75.body.getD .skip) (retK Yabo.prog Yabo.f75 R) (initEnv args) w) : CallsV Yabo.prog 75 args w R :=
  callsV_of_W hmix Yabo.func75 rfl ok75 hn h.out
theorem ok76 : okCode Yabo.f76.ntmps (Yabo.f76.body.getD .skip) = true := by kernel_rfl
theorem ent76 {args : Array Value} {w : World} {R : Value → World → Prop} (hn : args.size ≤ 51) (h : VC Yabo.prog (Yabo.f76.body.getD .skip) (retK Yabo.prog Yabo.f76 R) (initEnv args) w) : CallsV Yabo.prog 76 args w R :=
  callsV_of_W hmix Yabo.func76 rfl ok76 hn h.out
theorem ok77 : okCode Yabo.f77.ntmps (Yabo.f77.body.getD .skip) = true := by kernel_rfl
theorem ent77 {args : Array Value} {w : World} {R : Value → World → Prop} (hn : args.size ≤ 60) (h : VC Yabo.prog (Yabo.f77.body.getD .skip) (retK Yabo.prog Yabo.f77 R) (initEnv args) w) : CallsV Yabo.prog 77 args w R :=
  callsV_of_W hmix Yabo.func77 rfl ok77 hn h.out
theorem ok78 : okCode Yabo.f78.ntmps (Yabo.f78.body.getD .skip) = true := by kernel_rfl
theorem ent78 {args : Array Value} {w : World} {R : Value → World → Prop} (hn : args.size ≤ 181) (h : VC Yabo.prog (Yabo.f78.body.getD .skip) (retK Yabo.prog Yabo.f78 R) (initEnv args) w) : CallsV Yabo.prog 78 args w R :=
  callsV_of_W hmix Yabo.func78 rfl ok78 hn h.out
theorem ok79 : okCode Yabo.f79.ntmps (Yabo.f79.body.getD .skip) = true := by kernel_rfl
theorem ent79 {args : Array Value} {w : World} {R : Value → World → Prop} (hn : args.size ≤ 53) (h : VC Yabo.prog (Yabo.f79.body.getD .skip) (retK Yabo.prog Yabo.f79 R) (initEnv args) w) : CallsV Yabo.prog 79 args w R :=
  callsV_of_W hmix Yabo.func79 rfl ok79 hn h.out
theorem ok80 : okCode Yabo.f80.ntmps (Yabo.f80.body.getD .skip) = true := by kernel_rfl
theorem ent80 {args : Array Value} {w : World} {R : Value → World → Prop} (hn : args.size ≤ 28) (h : VC Yabo.prog (Yabo.f80.body.getD .skip) (retK Yabo.prog Yabo.f80 R) (initEnv args) w) : CallsV Yabo.prog 80 args w R :=
  callsV_of_W hmix Yabo.func80 rfl ok80 hn h.out
theorem ok81 : okCode Yabo.f81.ntmps (Yabo.f81.body.getD .skip) = true := by kernel_rfl
theorem ent81 {args : Array Value} {w : World} {R : Value → World → Prop} (hn : args.size ≤ 78) (h : VC Yabo.prog (Yabo.f81.body.getD .skip) (retK Yabo.prog Yabo.f81 R) (initEnv args) w) : CallsV Yabo.prog 81 args w R :=
  callsV_of_W hmix Yabo.func81 rfl ok81 hn h.out
theorem ok82 : okCode Yabo.f82.ntmps (Yabo.f82.body.getD .skip) = true := by kernel_rfl
theorem ent82 {args : Array Value} {w : World} {R : Value → World → Prop} (hn : args.size ≤ 9) (h : VC Yabo.prog (Yabo.f82.body.getD .skip) (retK Yabo.prog Yabo.f82 R) (initEnv args) w) : CallsV Yabo.prog 82 args w R :=
  callsV_of_W hmix Yabo.func82 rfl ok82 hn h.out
theorem ok83 : okCode Yabo.f83.ntmps (Yabo.f83.body.getD .skip) = true := by kernel_rfl
theorem ent83 {args : Array Value} {w : World} {R : Value → World → Prop} (hn : args.size ≤ 9) (h : VC Yabo.prog (Yabo.f83.body.getD .skip) (retK Yabo.prog Yabo.f83 R) (initEnv args) w) : CallsV Yabo.prog 83 args w R :=
  callsV_of_W hmix Yabo.func83 rfl ok83 hn h.out
theorem ok84 : okCode Yabo.f84.ntmps (Yabo.f84.body.getD .skip) = true := by kernel_rfl
theorem ent84 {args : Array Value} {w : World} {R : Value → World → Prop} (hn : args.size ≤ 9) (h : VC Yabo.prog (Yabo.f84.body.getD .skip) (retK Yabo.prog Yabo.f84 R) (initEnv args) w) : CallsV Yabo.prog 84 args w R :=
  callsV_of_W hmix Yabo.func84 rfl ok84 hn h.out
theorem ok85 : okCode Yabo.f85.ntmps (Yabo.f85.body.getD .skip) = true := by kernel_rfl
theorem ent85 {args : Array Value} {w : World} {R : Value → World → Prop} (hn : args.size ≤ 13) (h : VC Yabo.prog (Yabo.f85.body.getD .skip) (retK Yabo.prog Yabo.f85 R) (initEnv args) w) : CallsV Yabo.prog 85 args w R :=
  callsV_of_W hmix Yabo.func85 rfl ok85 hn h.out
theorem ok86 : okCode Yabo.f86.ntmps (Yabo.f86.body.getD .skip) = true := by kernel_rfl
theorem ent86 {args : Array Value} {w : World} {R : Value → World → Prop} (hn : args.size ≤ 9) (h : VC Yabo.prog (Yabo.f86.body.getD .skip) (retK Yabo.prog Yabo.f86 R) (initEnv args) w) : CallsV Yabo.prog 86 args w R :=
  callsV_of_W hmix Yabo.func86 rfl ok86 hn h.out
theorem ok87 : okCode Yabo.f87.ntmps (Yabo.f87.body.getD .skip) = true := by kernel_rfl
theorem ent87 {args : Array Value} {w : World} {R : Value → World → Prop} (hn : args.size ≤ 10) (h : VC Yabo.prog (Yabo.f87.body.getD .skip) (retK Yabo.prog Yabo.f87 R) (initEnv args) w) : CallsV Yabo.prog 87 args w R :=
  callsV_of_W hmix Yabo.func87 rfl ok87 hn h.out
theorem ok88 : okCode Yabo.f88.ntmps (Yabo.f88.body.getD .skip) = true := by kernel_rfl
theorem ent88 {args : Array Value} {w : World} {R : Value → World → Prop} (hn : args.size ≤ 11) (h : VC Yabo.prog (Yabo.f88.body.getD .skip) (retK Yabo.prog Yabo.f88 R) (initEnv args) w) : CallsV Yabo.prog 88 args w R :=
  callsV_of_W hmix Yabo.func88 rfl ok88 hn h.out
theorem ok89 : okCode Yabo.f89.ntmps (Yabo.f89.body.getD .skip) = true := by kernel_rfl
theorem ent89 {args : Array Value} {w : World} {R : Value → World → Prop} (hn : args.size ≤ 34) (h : VC Yabo.prog (Yabo.f89.body.getD .skip) (retK Yabo.prog Yabo.f89 R) (initEnv args) w) : CallsV Yabo.prog 89 args w R :=
  callsV_of_W hmix Yabo.func89 rfl ok89 hn h.out
theorem ok90 : okCode Yabo.f90.ntmps (Yabo.f90.body.getD .skip) = true := by kernel_rfl
theorem ent90 {args : Array Value} {w : World} {R : Value → World → Prop} (hn : args.size ≤ 6) (h : VC Yabo.prog (Yabo.f90.body.getD .skip) (retK Yabo.prog Yabo.f90 R) (initEnv args) w) : CallsV Yabo.prog 90 args w R :=
  callsV_of_W hmix Yabo.func90 rfl ok90 hn h.out
theorem ok91 : okCode Yabo.f91.ntmps (Yabo.f91.body.getD .skip) = true := by kernel_rfl
theorem ent91 {args : Array Value} {w : World} {R : Value → World → Prop} (hn : args.size ≤ 35) (h : VC Yabo.prog (Yabo.f91.body.getD .skip) (retK Yabo.prog Yabo.f91 R) (initEnv args) w) : CallsV Yabo.prog 91 args w R :=
  callsV_of_W hmix Yabo.func91 rfl ok91 hn h.out
theorem ok92 : okCode Yabo.f92.ntmps (Yabo.f92.body.getD .skip) = true := by kernel_rfl
theorem ent92 {args : Array Value} {w : World} {R : Value → World → Prop} (hn : args.size ≤ 7) (h : VC Yabo.prog (Yabo.f92.body.getD .skip) (retK Yabo.prog Yabo.f92 R) (initEnv args) w) : CallsV Yabo.prog 92 args w R :=
  callsV_of_W hmix Yabo.func92 rfl ok92 hn h.out
theorem ok93 : okCode Yabo.f93.ntmps (Yabo.f93.body.getD .skip) = true := by kernel_rfl
theorem ent93 {args : Array Value} {w : World} {R : Value → World → Prop} (hn : args.size ≤ 56) (h : VC Yabo.prog (Yabo.f93.body.getD .skip) (retK Yabo.prog Yabo.f93 R) (initEnv args) w) : CallsV Yabo.prog 93 args w R :=
  callsV_of_W hmix Yabo.func93 rfl ok93 hn h.out
theorem ok94 : okCode Yabo.f94.ntmps (Yabo.f94.body.getD .skip) = true := by kernel_rfl
theorem ent94 {args : Array Value} {w : World} {R : Value → World → Prop} (hn : args.size ≤ 202) (h : VC Yabo.prog (Yabo.f94.body.getD .skip) (retK Yabo.prog Yabo.f94 R) (initEnv args) w) : CallsV Yabo.prog 94 args w R :=
  callsV_of_W hmix Yabo.func94 rfl ok94 hn h.out
theorem ok95 : okCode Yabo.f95.ntmps (Yabo.f95.body.getD .skip) = true := by kernel_rfl
theorem ent95 {args : Array Value} {w : World} {R : Value → World → Prop} (hn : args.size ≤ 35) (h : VC Yabo.prog (Yabo.f95.body.getD .skip) (retK Yabo.prog Yabo.f95 R) (initEnv args) w) : CallsV Yabo.prog 95 args w R :=
  callsV_of_W hmix Yabo.func95 rfl ok95 hn h.out
theorem ok96 : okCode Yabo.f96.ntmps (Yabo.f96.body.getD .skip) = true := by kernel_rfl
theorem ent96 {args : Array Value} {w : World} {R : Value → World → Prop} (hn : args.size ≤ 87) (h : VC Yabo.prog (Yabo.f96.body.getD .skip) (retK Yabo.prog Yabo.f96 R) (initEnv args) w) : CallsV Yabo.prog 96 args w R :=
  callsV_of_W hmix Yabo.func96 rfl ok96 hn h.out
theorem ok97 : okCode Yabo.f97.ntmps (Yabo.f97.body.getD .skip) = true := by kernel_rfl
theorem ent97 {args : Array Value} {w : World} {R : Value → World → Prop} (hn : args.size ≤ 48) (h : VC Yabo.prog (Yabo.f97.body.getD .skip) (retK Yabo.prog Yabo.f97 R) (initEnv args) w) : CallsV Yabo.prog 97 args w R :=
  callsV_of_W hmix Yabo.func97 rfl ok97 hn h.out
theorem ok98 : okCode Yabo.f98.ntmps (Yabo.f98.body.getD .skip) = true := by kernel_rfl
theorem ent98 {args : Array Value} {w : World} {R : Value → World → Prop} (hn : args.size ≤ 64) (h : VC Yabo.prog (Yabo.f98.body.getD .skip) (retK Yabo.prog Yabo.f98 R) (initEnv args) w) : CallsV Yabo.prog 98 args w R :=
  callsV_of_W hmix Yabo.func98 rfl ok98 hn h.out
theorem ok99 : okCode Yabo.f99.ntmps (Yabo.f99.body.getD .skip) = true := by kernel_rfl
theorem ent99 {args : Array Value} {w : World} {R : Value → World → Prop} (hn : args.size ≤ 20) (h : VC Yabo.prog (Yabo.f99.body.getD .skip) (retK Yabo.prog Yabo.f99 R) (initEnv args) w) : CallsV Yabo.prog 99 args w R :=
  callsV_of_W hmix Yabo.func99 rfl ok99 hn h.out
theorem ok100 : okCode Yabo.f100.ntmps (Yabo.f100.body.getD .skip) = true := by kernel_rfl
theorem ent100 {args : Array Value} {w : World} {R : Value → World → Prop} (hn : args.size ≤ 86) (h : VC Yabo.prog (Yabo.f100.body.getD .skip) (retK Yabo.prog Yabo.f100 R) (initEnv args) w) : CallsV Yabo.prog 100 args w R :=
  callsV_of_W hmix Yabo.func100 rfl ok100 hn h.out
theorem ok101 : okCode Yabo.f101.ntmps (Yabo.f101.body.getD .skip) = true := by kernel_rfl
theorem ent101 {args : Array Value} {w : World} {R : Value → World → Prop} (hn : args.size ≤ 115) (h : VC Yabo.prog (Yabo.f101.body.getD .skip) (retK Yabo.prog Yabo.f101 R) (initEnv args) w) : CallsV Yabo.prog 101 args w R :=
  callsV_of_W hmix Yabo.func101 rfl ok101 hn h.out
theorem ok102 : okCode Yabo.f102.ntmps (Yabo.f102.body.getD .skip) = true := by kernel_rfl
theorem ent102 {args : Array Value} {w : World} {R : Value → World → Prop} (hn : args.size ≤ 64) (h : VC Yabo.prog (Yabo.f102.body.getD .skip) (retK Yabo.prog Yabo.f102 R) (initEnv args) w) : CallsV Yabo.prog 102 args w R :=
  callsV_of_W hmix Yabo.func102 rfl ok102 hn h.out
theorem ok103 : okCode Yabo.f103.ntmps (Yabo.f103.body.getD .skip) = true := by kernel_rfl
theorem ent103 {args : Array Value} {w : World} {R : Value → World → Prop} (hn : args.size ≤ 53) (h : VC Yabo.prog (Yabo.f103.body.getD .skip) (retK Yabo.prog Yabo.f103 R) (initEnv args) w) : CallsV Yabo.prog 103 args w R :=
  callsV_of_W hmix Yabo.func103 rfl ok103 hn h.out
theorem ok104 : okCode Yabo.f104.ntmps (Yabo.f104.body.getD .skip) = true := by kernel_rfl
theorem ent104 {args : Array Value} {w : World} {R : Value → World → Prop} (hn : args.size ≤ 10) (h : VC Yabo.prog (Yabo.f104.body.getD .skip) (retK Yabo.prog Yabo.f104 R) (initEnv args) w) : CallsV Yabo.prog 104 args w R :=
  callsV_of_W hmix Yabo.func104 rfl ok104 hn h.out
theorem ok105 : okCode Yabo.f105.ntmps (Yabo.f105.body.getD .skip) = true := by kernel_rfl
theorem ent105 {args : Array Value} {w : World} {R : Value → World → Prop} (hn : args.size ≤ 11) (h : VC Yabo.prog (Yabo.f105.body.getD .skip) (retK Yabo.prog Yabo.f105 R) (initEnv args) w) : CallsV Yabo.prog 105 args w R :=
  callsV_of_W hmix Yabo.func105 rfl ok105 hn h.out
theorem ok106 : okCode Yabo.f106.ntmps (Yabo.f106.body.getD .skip) = true := by kernel_rfl
theorem ent106 {args : Array Value} {w : World} {R : Value → World → Prop} (hn : args.size ≤ 147) (h : VC Yabo.prog (Yabo.f106.body.getD .skip) (retK Yabo.prog Yabo.f106 R) (initEnv args) w) : CallsV Yabo.prog 106 args w R :=
  callsV_of_W hmix Yabo.func106 rfl ok106 hn h.out
theorem ok107 : okCode Yabo.f107.ntmps (Yabo.f107.body.getD .skip) = true := by kernel_rfl
theorem ent107 {args : Array Value} {w : World} {R : Value → World → Prop} (hn : args.size ≤ 63) (h : VC Yabo.prog (Yabo.f107.body.getD .skip) (retK Yabo.prog Yabo.f107 R) (initEnv args) w) : CallsV Yabo.prog 107 args w R :=
  callsV_of_W hmix Yabo.func107 rfl ok107 hn h.out
theorem ok108 : okCode Yabo.f108.ntmps (Yabo.f108.body.getD .skip) = true := by kernel_rfl
theorem ent108 {args : Array Value} {w : World} {R : Value → World → Prop} (hn : args.size ≤ 8) (h : VC Yabo.prog (Yabo.f108.body.getD .skip) (retK Yabo.prog Yabo.f108 R) (initEnv args) w) : CallsV Yabo.prog 108 args w R :=
  callsV_of_W hmix Yabo.func108 rfl ok108 hn h.out
theorem ok109 : okCode Yabo.f109.ntmps (Yabo.f109.body.getD .skip) = true := by kernel_rfl
theorem ent109 {args : Array Value} {w : World} {R : Value → World → Prop} (hn : args.size ≤ 51) (h : VC Yabo.prog (Yabo.f109.body.getD .skip) (retK Yabo.prog Yabo.f109 R) (initEnv args) w) : CallsV Yabo.prog 109 args w R :=
  callsV_of_W hmix Yabo.func109 rfl ok109 hn h.out
theorem ok110 : okCode Yabo.f110.ntmps (Yabo.f110.body.getD .skip) = true := by kernel_rfl
theorem ent110 {args : Array Value} {w : World} {R : Value → World → Prop} (hn : args.size ≤ 8) (h : VC Yabo.prog (Yabo.f110.body.getD .skip) (retK Yabo.prog Yabo.f110 R) (initEnv args) w) : CallsV Yabo.prog 110 args w R :=
  callsV_of_W hmix Yabo.func110 rfl ok110 hn h.out
theorem ok111 : okCode Yabo.f111.ntmps (Yabo.f111.body.getD .skip) = true := by kernel_rfl
theorem ent111 {args : Array Value} {w : World} {R : Value → World → Prop} (hn : args.size ≤ 82) (h : VC Yabo.prog (Yabo.f111.body.getD .skip) (retK Yabo.prog Yabo.f111 R) (initEnv args) w) : CallsV Yabo.prog 111 args w R :=
  callsV_of_W hmix Yabo.func111 rfl ok111 hn h.out
theorem ok112 : okCode Yabo.f112.ntmps (Yabo.f112.body.getD .skip) = true := by kernel_rfl
theorem ent112 {args : Array Value} {w : World} {R : Value → World → Prop} (hn : args.size ≤ 71) (h : VC Yabo.prog (Yabo.f112.body.getD .skip) (retK Yabo.prog Yabo.f112 R) (initEnv args) w) : CallsV Yabo.prog 112 args w R :=
  callsV_of_W hmix Yabo.func112 rfl ok112 hn h.out
theorem ok113 : okCode Yabo.f113.ntmps (Yabo.f113.body.getD .skip) = true := by kernel_rfl
theorem ent113 {args : Array Value} {w : World} {R : Value → World → Prop} (hn : args.size ≤ 11) (h : VC Yabo.prog (Yabo.f113.body.getD .skip) (retK Yabo.prog Yabo.f113 R) (initEnv args) w) : CallsV Yabo.prog 113 args w R :=
  callsV_of_W hmix Yabo.func113 rfl ok113 hn h.out
theorem ok114 : okCode Yabo.f114.ntmps (Yabo.f114.body.getD .skip) = true := by kernel_rfl
theorem ent114 {args : Array Value} {w : World} {R : Value → World → Prop} (hn : args.size ≤ 169) (h : VC Yabo.prog (Yabo.f114.body.getD .skip) (retK Yabo.prog Yabo.f114 R) (initEnv args) w) : CallsV Yabo.prog 114 args w R :=
  callsV_of_W hmix Yabo.func114 rfl ok114 hn h.out
theorem ok115 : okCode Yabo.f115.ntmps (Yabo.f115.body.getD .skip) = true := by kernel_rfl
theorem ent115 {args : Array Value} {w : World} {R : Value → World → Prop} (hn : args.size ≤ 65) (h : VC Yabo.prog (Yabo.f115.body.getD .skip) (retK Yabo.prog Yabo.f115 R) (initEnv args) w) : CallsV Yabo.prog 115 args w R :=
  callsV_of_W hmix Yabo.func115 rfl ok115 hn h.out
theorem ok116 : okCode Yabo.f116.ntmps (Yabo.f116.body.getD .skip) = true := by kernel_rfl
theorem ent116 {args : Array Value} {w : World} {R : Value → World → Prop} (hn : args.size ≤ 35) (h : VC Yabo.prog (Yabo.f116.body.getD .skip) (retK Yabo.prog Yabo.f116 R) (initEnv args) w) : CallsV Yabo.prog 116 args w R :=
  callsV_of_W hmix Yabo.func116 rfl ok116 hn h.out
theorem ok117 : okCode Yabo.f117.ntmps (Yabo.f117.body.getD .skip) = true := by kernel_rfl
theorem ent117 {args : Array Value} {w : World} {R : Value → World → Prop} (hn : args.size ≤ 30) (h : VC Yabo.prog (Yabo.f117.body.getD .skip) (retK Yabo.prog Yabo.f117 R) (initEnv args) w) : CallsV Yabo.prog 117 args w R :=
  callsV_of_W hmix Yabo.func117 rfl ok117 hn h.out
theorem ok118 : okCode Yabo.f118.ntmps (Yabo.f118.body.getD .skip) = true := by kernel_rfl
theorem ent118 {args : Array Value} {w : World} {R : Value → World → Prop} (hn : args.size ≤ 66) (h : VC Yabo.prog (Yabo.f118.body.getD .skip) (retK Yabo.prog Yabo.f118 R) (initEnv args) w) : CallsV Yabo.prog 118 args w R :=
  callsV_of_W hmix Yabo.func118 rfl ok118 hn h.out
theorem ok119 : okCode Yabo.f119.ntmps (Yabo.f119.body.getD .skip) = true := by kernel_rfl
theorem ent119 {args : Array Value} {w : World} {R : Value → World → Prop} (hn : args.size ≤ 35) (h : VC Yabo.prog (Yabo.f119.body.getD .skip) (retK Yabo.prog Yabo.f119 R) (initEnv args) w) : CallsV Yabo.prog 119 args w R :=
  callsV_of_W hmix Yabo.func119 rfl ok119 hn h.out
theorem ok120 : okCode Yabo.f120.ntmps (Yabo.f120.body.getD .skip) = true := by kernel_rfl
theorem ent120 {args : Array Value} {w : World} {R : Value → World → Prop} (hn : args.size ≤ 24) (h : VC Yabo.prog (Yabo.f120.body.getD .skip) (retK Yabo.prog Yabo.f120 R) (initEnv args) w) : CallsV Yabo.prog 120 args w R :=
  callsV_of_W hmix Yabo.func120 rfl ok120 hn h.out
theorem ok121 : okCode Yabo.f121.ntmps (Yabo.f121.body.getD .skip) = true := by kernel_rfl
theorem ent121 {args : Array Value} {w : World} {R : Value → World → Prop} (hn : args.size ≤ 32) (h : VC Yabo.prog (Yabo.f121.body.getD .skip) (retK Yabo.prog Yabo.f121 R) (initEnv args) w) : CallsV Yabo.prog 121 args w R :=
  callsV_of_W hmix Yabo.func121 rfl ok121 hn h.out
theorem ok122 : okCode Yabo.f122.ntmps (Yabo.f122.body.getD .skip) = true := by kernel_rfl
theorem ent122 {args : Array Value} {w : World} {R : Value → World → Prop} (hn : args.size ≤ 58) (h : VC Yabo.prog (Yabo.f122.body.getD .skip) (retK Yabo.prog Yabo.f122 R) (initEnv args) w) : CallsV Yabo.prog 122 args w R :=
  callsV_of_W hmix Yabo.func122 rfl ok122 hn h.out
theorem ok123 : okCode Yabo.f123.ntmps (Yabo.f123.body.getD .skip) = true := by kernel_rfl
theorem ent123 {args : Array Value} {w : World} {R : Value → World → Prop} (hn : args.size ≤ 10) (h : VC Yabo.prog (Yabo.f123.body.getD .skip) (retK Yabo.prog Yabo.f123 R) (initEnv args) w) : CallsV Yabo.prog 123 args w R :=
  callsV_of_W hmix Yabo.func123 rfl ok123 hn h.out
theorem ok124 : okCode Yabo.f124.ntmps (Yabo.f124.body.getD .skip) = true := by kernel_rfl
theorem ent124 {args : Array Value} {w : World} {R : Value → World → Prop} (hn : args.size ≤ 24) (h : VC Yabo.prog (Yabo.f124.body.getD .skip) (retK Yabo.prog Yabo.f124 R) (initEnv args) w) : CallsV Yabo.prog 124 args w R :=
  callsV_of_W hmix Yabo.func124 rfl ok124 hn h.out
theorem ok125 : okCode Yabo.f125.ntmps (Yabo.f125.body.getD .skip) = true := by kernel_rfl
theorem ent125 {args : Array Value} {w : World} {R : Value → World → Prop} (hn : args.size ≤ 18) (h : VC Yabo.prog (Yabo.f125.body.getD .skip) (retK Yabo.prog Yabo.f125 R) (initEnv args) w) : CallsV Yabo.prog 125 args w R :=
  callsV_of_W hmix Yabo.func125 rfl ok125 hn h.out
theorem ok126 : okCode Yabo.f126.ntmps (Yabo.f126.body.getD .skip) = true := by kernel_rfl
theorem ent126 {args : Array Value} {w : World} {R : Value → World → Prop} (hn : args.size ≤ 54) (h : VC Yabo.prog (Yabo.f126.body.getD .skip) (retK Yabo.prog Yabo.f126 R) (initEnv args) w) : CallsV Yabo.prog 126 args w R :=
  callsV_of_W hmix Yabo.func126 rfl ok126 hn h.out
theorem ok127 : okCode Yabo.f127.ntmps (Yabo.f127.body.getD .skip) = true := by kernel_rfl
theorem ent127 {args : Array Value} {w : World} {R : Value → World → Prop} (hn : args.size ≤ 2) (h : VC Yabo.prog (Yabo.f127.body.getD .skip) (retK Yabo.prog Yabo.f127 R) (initEnv args) w) : CallsV Yabo.prog 127 args w R :=
  callsV_of_W hmix Yabo.func127 rfl ok127 hn h.out
theorem ok128 : okCode Yabo.f128.ntmps (Yabo.f128.body.getD .skip) = true := by kernel_rfl
theorem ent128 {args : Array Value} {w : World} {R : Value → World → Prop} (hn : args.size ≤ 5) (h : VC Yabo.prog (Yabo.f128.body.getD .skip) (retK Yabo.prog Yabo.f128 R) (initEnv args) w) : CallsV Yabo.prog 128 args w R :=
  callsV_of_W hmix Yabo.func128 rfl ok128 hn h.out
theorem ok129 : okCode Yabo.f129.ntmps (Yabo.f129.body.getD .skip) = true := by kernel_rfl
theorem ent129 {args : Array Value} {w : World} {R : Value → World → Prop} (hn : args.size ≤ 19) (h : VC Yabo.prog (Yabo.f129.body.getD .skip) (retK Yabo.prog Yabo.f129 R) (initEnv args) w) : CallsV Yabo.prog 129 args w R :=
  callsV_of_W hmix Yabo.func129 rfl ok129 hn h.out
theorem ok130 : okCode Yabo.f130.ntmps (Yabo.f130.body.getD .skip) = true := by kernel_rfl
theorem ent130 {args : Array Value} {w : World} {R : Value → World → Prop} (hn : args.size ≤ 6) (h : VC Yabo.prog (Yabo.f130.body.getD .skip) (retK Yabo.prog Yabo.f130 R) (initEnv args) w) : CallsV Yabo.prog 130 args w R :=
  callsV_of_W hmix Yabo.func130 rfl ok130 hn h.out
theorem ok131 : okCode Yabo.f131.ntmps (Yabo.f131.body.getD .skip) = true := by kernel_rfl
theorem ent131 {args : Array Value} {w : World} {R : Value → World → Prop} (hn : args.size ≤ 12) (h : VC Yabo.prog (Yabo.f131.body.getD .skip) (retK Yabo.prog Yabo.f131 R) (initEnv args) w) : CallsV Yabo.prog 131 args w R :=
  callsV_of_W hmix Yabo.func131 rfl ok131 hn h.out
theorem ok132 : okCode Yabo.f132.ntmps (Yabo.f132.body.getD .skip) = true := by kernel_rfl
theorem ent132 {args : Array Value} {w : World} {R : Value → World → Prop} (hn : args.size ≤ 35) (h : VC Yabo.prog (Yabo.f132.body.getD .skip) (retK Yabo.prog Yabo.f132 R) (initEnv args) w) : CallsV Yabo.prog 132 args w R :=
  callsV_of_W hmix Yabo.func132 rfl ok132 hn h.out
theorem ok133 : okCode Yabo.f133.ntmps (Yabo.f133.body.getD .skip) = true := by kernel_rfl
theorem ent133 {args : Array Value} {w : World} {R : Value → World → Prop} (hn : args.size ≤ 25) (h : VC Yabo.prog (Yabo.f133.body.getD .skip) (retK Yabo.prog Yabo.f133 R) (initEnv args) w) : CallsV Yabo.prog 133 args w R :=
  callsV_of_W hmix Yabo.func133 rfl ok133 hn h.out
theorem ok134 : okCode Yabo.f134.ntmps (Yabo.f134.body.getD .skip) = true := by kernel_rfl
theorem ent134 {args : Array Value} {w : World} {R : Value → World → Prop} (hn : args.size ≤ 559) (h : VC Yabo.prog (Yabo.f134.body.getD .skip) (retK Yabo.prog Yabo.f134 R) (initEnv args) w) : CallsV Yabo.prog 134 args w R :=
  callsV_of_W hmix Yabo.func134 rfl ok134 hn h.out
theorem ok135 : okCode Yabo.f135.ntmps (Yabo.f135.body.getD .skip) = true := by kernel_rfl
theorem ent135 {args : Array Value} {w : World} {R : Value → World → Prop} (hn : args.size ≤ 19) (h : VC Yabo.prog (Yabo.f135.body.getD .skip) (retK Yabo.prog Yabo.f135 R) (initEnv args) w) : CallsV Yabo.prog 135 args w R :=
  callsV_of_W hmix Yabo.func135 rfl ok135 hn h.out
theorem ok136 : okCode Yabo.f136.ntmps (Yabo.f136.body.getD .skip) = true := by kernel_rfl
theorem ent136 {args : Array Value} {w : World} {R : Value → World → Prop} (hn : args.size ≤ 20) (h : VC Yabo.prog (Yabo.f136.body.getD .skip) (retK Yabo.prog Yabo.f136 R) (initEnv args) w) : CallsV Yabo.prog 136 args w R :=
  callsV_of_W hmix Yabo.func136 rfl ok136 hn h.out
theorem ok137 : okCode Yabo.f137.ntmps (Yabo.f137.body.getD .skip) = true := by kernel_rfl
theorem ent137 {args : Array Value} {w : World} {R : Value → World → Prop} (hn : args.size ≤ 45) (h : VC Yabo.prog (Yabo.f137.body.getD .skip) (retK Yabo.prog Yabo.f137 R) (initEnv args) w) : CallsV Yabo.prog 137 args w R :=
  callsV_of_W hmix Yabo.func137 rfl ok137 hn h.out
theorem ok138 : okCode Yabo.f138.ntmps (Yabo.f138.body.getD .skip) = true := by kernel_rfl
theorem ent138 {args : Array Value} {w : World} {R : Value → World → Prop} (hn : args.size ≤ 33) (h : VC Yabo.prog (Yabo.f138.body.getD .skip) (retK Yabo.prog Yabo.f138 R) (initEnv args) w) : CallsV Yabo.prog 138 args w R :=
  callsV_of_W hmix Yabo.func138 rfl ok138 hn h.out
theorem ok139 : okCode Yabo.f139.ntmps (Yabo.f139.body.getD .skip) = true := by kernel_rfl
theorem ent139 {args : Array Value} {w : World} {R : Value → World → Prop} (hn : args.size ≤ 626) (h : VC Yabo.prog (Yabo.f139.body.getD .skip) (retK Yabo.prog Yabo.f139 R) (initEnv args) w) : CallsV Yabo.prog 139 args w R :=
  callsV_of_W hmix Yabo.func139 rfl ok139 hn h.out
theorem ok140 : okCode Yabo.f140.ntmps (Yabo.f140.body.getD .skip) = true := by kernel_rfl
theorem ent140 {args : Array Value} {w : World} {R : Value → World → Prop} (hn : args.size ≤ 35) (h : VC Yabo.prog (Yabo.f140.body.getD .skip) (retK Yabo.prog Yabo.f140 R) (initEnv args) w) : CallsV Yabo.prog 140 args w R :=
  callsV_of_W hmix Yabo.func140 rfl ok140 hn h.out
theorem ok141 : okCode Yabo.f141.ntmps (Yabo.f141.body.getD .skip) = true := by kernel_rfl
theorem ent141 {args : Array Value} {w : World} {R : Value → World → Prop} (hn : args.size ≤ 35) (h : VC Yabo.prog (Yabo.f141.body.getD .skip) (retK Yabo.prog Yabo.f141 R) (initEnv args) w) : CallsV Yabo.prog 141 args w R :=
  callsV_of_W hmix Yabo.func141 rfl ok141 hn h.out
theorem ok142 : okCode Yabo.f142.ntmps (Yabo.f142.body.getD .skip) = true := by kernel_rfl
theorem ent142 {args : Array Value} {w : World} {R : Value → World → Prop} (hn : args.size ≤ 24) (h : VC Yabo.prog (Yabo.f142.body.getD .skip) (retK Yabo.prog Yabo.f142 R) (initEnv args) w) : CallsV Yabo.prog 142 args w R :=
  callsV_of_W hmix Yabo.func142 rfl ok142 hn h.out
theorem ok143 : okCode Yabo.f143.ntmps (Yabo.f143.body.getD .skip) = true := by kernel_rfl
theorem ent143 {args : Array Value} {w : World} {R : Value → World → Prop} (hn : args.size ≤ 28) (h : VC Yabo.prog (Yabo.f143.body.getD .skip) (retK Yabo.prog Yabo.f143 R) (initEnv args) w) : CallsV Yabo.prog 143 args w R :=
  callsV_of_W hmix Yabo.func143 rfl ok143 hn h.out
theorem ok144 : okCode Yabo.f144.ntmps (Yabo.f144.body.getD .skip) = true := by kernel_rfl
theorem ent144 {args : Array Value} {w : World} {R : Value → World → Prop} (hn : args.size ≤ 40) (h : VC Yabo.prog (Yabo.f144.body.getD .skip) (retK Yabo.prog Yabo.f144 R) (initEnv args) w) : CallsV Yabo.prog 144 args w R :=
  callsV_of_W hmix Yabo.func144 rfl ok144 hn h.out
theorem ok145 : okCode Yabo.f145.ntmps (Yabo.f145.body.getD .skip) = true := by kernel_rfl
theorem ent145 {args : Array Value} {w : World} {R : Value → World → Prop} (hn : args.size ≤ 21) (h : VC Yabo.prog (Yabo.f145.body.getD .skip) (retK Yabo.prog Yabo.f145 R) (initEnv args) w) : CallsV Yabo.prog 145 args w R :=
  callsV_of_W hmix Yabo.func145 rfl ok145 hn h.out
theorem ok146 : okCode Yabo.f146.ntmps (Yabo.f146.body.getD .skip) = true := by kernel_rfl
theorem ent146 {args : Array Value} {w : World} {R : Value → World → Prop} (hn : args.size ≤ 12) (h : VC Yabo.prog (Yabo.f146.body.getD .skip) (retK Yabo.prog Yabo.f146 R) (initEnv args) w) : CallsV Yabo.prog 146 args w R :=
  callsV_of_W hmix Yabo.func146 rfl ok146 hn h.out
theorem ok147 : okCode Yabo.f147.ntmps (Yabo.f147.body.getD .skip) = true := by kernel_rfl
theorem ent147 {args : Array Value} {w : World} {R : Value → World → Prop} (hn : args.size ≤ 6) (h : VC Yabo.prog (Yabo.f147.body.getD .skip) (retK Yabo.prog Yabo.f147 R) (initEnv args) w) : CallsV Yabo.prog 147 args w R :=
  callsV_of_W hmix Yabo.func147 rfl ok147 hn h.out
theorem ok148 : okCode Yabo.f148.ntmps (Yabo.f148.body.getD .skip) = true := by kernel_rfl
theorem ent148 {args : Array Value} {w : World} {R : Value → World → Prop} (hn : args.size ≤ 60) (h : VC Yabo.prog (Yabo.f148.body.getD .skip) (retK Yabo.prog Yabo.f148 R) (initEnv args) w) : CallsV Yabo.prog 148 args w R :=
  callsV_of_W hmix Yabo.func148 rfl ok148 hn h.out
theorem ok149 : okCode Yabo.f149.ntmps (Yabo.f149.body.getD .skip) = true := by kernel_rfl
theorem ent149 {args : Array Value} {w : World} {R : Value → World → Prop} (hn : args.size ≤ 13) (h : VC Yabo.prog (Yabo.f149.body.getD .skip) (retK Yabo.prog Yabo.f149 R) (initEnv args) w) : CallsV Yabo.prog 149 args w R :=
  callsV_of_W hmix Yabo.func149 rfl ok149 hn h.out
theorem ok150 : okCode Yabo.f150.ntmps (Yabo.f150.body.getD .skip) = true := by kernel_rfl
theorem ent150 {args : Array Value} {w : World} {R : Value → World → Prop} (hn : args.size ≤ 96) (h : VC Yabo.prog (Yabo.f150.body.getD .skip) (retK Yabo.prog Yabo.f150 R) (initEnv args) w) : CallsV Yabo.prog 150 args w R :=
  callsV_of_W hmix Yabo.func150 rfl ok150 hn h.out
theorem ok151 : okCode Yabo.f151.ntmps (Yabo.f151.body.getD .skip) = true := by kernel_rfl
theorem ent151 {args : Array Value} {w : World} {R : Value → World → Prop} (hn : args.size ≤ 46) (h : VC Yabo.prog (Yabo.f151.body.getD .skip) (retK Yabo.prog Yabo.f151 R) (initEnv args) w) : CallsV Yabo.prog 151 args w R :=
  callsV_of_W hmix Yabo.func151 rfl ok151 hn h.out
theorem ok152 : okCode Yabo.f152.ntmps (Yabo.f152.body.getD .skip) = true := by kernel_rfl
theorem ent152 {args : Array Value} {w : World} {R : Value → World → Prop} (hn : args.size ≤ 9) (h : VC Yabo.prog (Yabo.f152.body.getD .skip) (retK Yabo.prog Yabo.f152 R) (initEnv args) w) : CallsV Yabo.prog 152 args w R :=
  callsV_of_W hmix Yabo.func152 rfl ok152 hn h.out
theorem ok153 : okCode Yabo.f153.ntmps (Yabo.f153.body.getD .skip) = true := by kernel_rfl
theorem ent153 {args : Array Value} {w : World} {R : Value → World → Prop} (hn : args.size ≤ 36) (h : VC Yabo.prog (Yabo.f153.body.getD .skip) (retK Yabo.prog Yabo.f153 R) (initEnv args) w) : CallsV Yabo.prog 153 args w R :=
  callsV_of_W hmix Yabo.func153 rfl ok153 hn h.out
theorem ok154 : okCode Yabo.f154.ntmps (Yabo.f154.body.getD .skip) = true := by kernel_rfl
theorem ent154 {args : Array Value} {w : World} {R : Value → World → Prop} (hn : args.size ≤ 67) (h : VC Yabo.prog (Yabo.f154.body.getD .skip) (retK Yabo.prog Yabo.f154 R) (initEnv args) w) : CallsV Yabo.prog 154 args w R :=
  callsV_of_W hmix Yabo.func154 rfl ok154 hn h.out
theorem ok155 : okCode Yabo.f155.ntmps (Yabo.f155.body.getD .skip) = true := by kernel_rfl
theorem ent155 {args : Array Value} {w : World} {R : Value → World → Prop} (hn : args.size ≤ 34) (h : VC Yabo.prog (Yabo.f155.body.getD .skip) (retK Yabo.prog Yabo.f155 R) (initEnv args) w) : CallsV Yabo.prog 155 args w R :=
  callsV_of_W hmix Yabo.func155 rfl ok155 hn h.out
theorem ok156 : okCode Yabo.f156.ntmps (Yabo.f156.body.getD .skip) = true := by kernel_rfl
theorem ent156 {args : Array Value} {w : World} {R : Value → World → Prop} (hn : args.size ≤ 40) (h : VC Yabo.prog (Yabo.f156.body.getD .skip) (retK Yabo.prog Yabo.f156 R) (initEnv args) w) : CallsV Yabo.prog 156 args w R :=
  callsV_of_W hmix Yabo.func156 rfl ok156 hn h.out
theorem ok157 : okCode Yabo.f157.ntmps (Yabo.f157.body.getD .skip) = true := by kernel_rfl
theorem ent157 {args : Array Value} {w : World} {R : Value → World → Prop} (hn : args.size ≤ 34) (h : VC Yabo.prog (Yabo.f157.body.getD .skip) (retK Yabo.prog Yabo.f157 R) (initEnv args) w) : CallsV Yabo.prog 157 args w R :=
  callsV_of_W hmix Yabo.func157 rfl ok157 hn h.out
theorem ok158 : okCode Yabo.f158.ntmps (Yabo.f158.body.getD .skip) = true := by kernel_rfl
theorem ent158 {args : Array Value} {w : World} {R : Value → World → Prop} (hn : args.size ≤ 108) (h : VC Yabo.prog (Yabo.f158.body.getD .skip) (retK Yabo.prog Yabo.f158 R) (initEnv args) w) : CallsV Yabo.prog 158 args w R :=
  callsV_of_W hmix Yabo.func158 rfl ok158 hn h.out
theorem ok159 : okCode Yabo.f159.ntmps (Yabo.f159.body.getD .skip) = true := by kernel_rfl
theorem ent159 {args : Array Value} {w : World} {R : Value → World → Prop} (hn : args.size ≤ 100) (h : VC Yabo.prog (Yabo.f159.body.getD .skip) (retK Yabo.prog Yabo.f159 R) (initEnv args) w) : CallsV Yabo.prog 159 args w R :=
  callsV_of_W hmix Yabo.func159 rfl ok159 hn h.out
end Go.Proofs.Ybzabw
