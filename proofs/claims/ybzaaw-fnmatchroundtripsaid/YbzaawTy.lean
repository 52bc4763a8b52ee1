/-  Made by program for the seat's translation: closed facts of the type table and of the functions.  -/
import Derived.Test.YbzaawBase
import Derived.Test.YbzaawProg
namespace Go.Proofs.Ybzaaw
open Go.Wf
set_option maxRecDepth 1000000
theorem hmix : Yaao.prog.follows .mixedOrders = true := by kernel_rfl
theorem be100 : Yaao.prog.bytesOf (elT Yaao.prog 100) = 24 := by kernel_rfl
theorem be110 : Yaao.prog.bytesOf (elT Yaao.prog 110) = 24 := by kernel_rfl
theorem be133 : Yaao.prog.bytesOf (elT Yaao.prog 133) = 56 := by kernel_rfl
theorem be138 : Yaao.prog.bytesOf (elT Yaao.prog 138) = 72 := by kernel_rfl
theorem be140 : Yaao.prog.bytesOf (elT Yaao.prog 140) = 40 := by kernel_rfl
theorem be155 : Yaao.prog.bytesOf (elT Yaao.prog 155) = 40 := by kernel_rfl
theorem be156 : Yaao.prog.bytesOf (elT Yaao.prog 156) = 32 := by kernel_rfl
theorem be164 : Yaao.prog.bytesOf (elT Yaao.prog 164) = 40 := by kernel_rfl
theorem be165 : Yaao.prog.bytesOf (elT Yaao.prog 165) = 16 := by kernel_rfl
theorem be182 : Yaao.prog.bytesOf (elT Yaao.prog 182) = 40 := by kernel_rfl
theorem be22 : Yaao.prog.bytesOf (elT Yaao.prog 22) = 40 := by kernel_rfl
theorem be27 : Yaao.prog.bytesOf (elT Yaao.prog 27) = 1 := by kernel_rfl
theorem be28 : Yaao.prog.bytesOf (elT Yaao.prog 28) = 40 := by kernel_rfl
theorem be34 : Yaao.prog.bytesOf (elT Yaao.prog 34) = 48 := by kernel_rfl
theorem be40 : Yaao.prog.bytesOf (elT Yaao.prog 40) = 1 := by kernel_rfl
theorem be42 : Yaao.prog.bytesOf (elT Yaao.prog 42) = 16 := by kernel_rfl
theorem be51 : Yaao.prog.bytesOf (elT Yaao.prog 51) = 40 := by kernel_rfl
theorem be59 : Yaao.prog.bytesOf (elT Yaao.prog 59) = 72 := by kernel_rfl
theorem be62 : Yaao.prog.bytesOf (elT Yaao.prog 62) = 8 := by kernel_rfl
theorem be69 : Yaao.prog.bytesOf (elT Yaao.prog 69) = 72 := by kernel_rfl
theorem be96 : Yaao.prog.bytesOf (elT Yaao.prog 96) = 24 := by kernel_rfl
theorem be97 : Yaao.prog.bytesOf (elT Yaao.prog 97) = 24 := by kernel_rfl
theorem be98 : Yaao.prog.bytesOf (elT Yaao.prog 98) = 24 := by kernel_rfl
theorem be99 : Yaao.prog.bytesOf (elT Yaao.prog 99) = 24 := by kernel_rfl
theorem c100 : callable Yaao.prog 100 = true := by kernel_rfl
theorem c101 : callable Yaao.prog 101 = true := by kernel_rfl
theorem c102 : callable Yaao.prog 102 = true := by kernel_rfl
theorem c103 : callable Yaao.prog 103 = true := by kernel_rfl
theorem c104 : callable Yaao.prog 104 = true := by kernel_rfl
theorem c105 : callable Yaao.prog 105 = true := by kernel_rfl
theorem c106 : callable Yaao.prog 106 = true := by kernel_rfl
theorem c107 : callable Yaao.prog 107 = true := by kernel_rfl
theorem c108 : callable Yaao.prog 108 = true := by kernel_rfl
theorem c109 : callable Yaao.prog 109 = true := by kernel_rfl
theorem c110 : callable Yaao.prog 110 = true := by kernel_rfl
theorem c111 : callable Yaao.prog 111 = true := by kernel_rfl
theorem c112 : callable Yaao.prog 112 = true := by kernel_rfl
theorem c113 : callable Yaao.prog 113 = true := by kernel_rfl
theorem c114 : callable Yaao.prog 114 = true := by kernel_rfl
theorem c115 : callable Yaao.prog 115 = true := by kernel_rfl
theorem c116 : callable Yaao.prog 116 = true := by kernel_rfl
theorem c117 : callable Yaao.prog 117 = true := by kernel_rfl
theorem c118 : callable Yaao.prog 118 = true := by kernel_rfl
theorem c119 : callable Yaao.prog 119 = true := by kernel_rfl
theorem c120 : callable Yaao.prog 120 = true := by kernel_rfl
theorem c121 : callable Yaao.prog 121 = true := by kernel_rfl
theorem c122 : callable Yaao.prog 122 = true := by kernel_rfl
theorem c123 : callable Yaao.prog 123 = true := by kernel_rfl
theorem c124 : callable Yaao.prog 124 = true := by kernel_rfl
theorem c125 : callable Yaao.prog 125 = true := by kernel_rfl
theorem c126 : callable Yaao.prog 126 = true := by kernel_rfl
theorem c127 : callable Yaao.prog 127 = true := by kernel_rfl
theorem c128 : callable Yaao.prog 128 = true := by kernel_rfl
theorem c129 : callable Yaao.prog 129 = true := by kernel_rfl
theorem c13 : callable Yaao.prog 13 = true := by kernel_rfl
theorem c130 : callable Yaao.prog 130 = true := by kernel_rfl
theorem c131 : callable Yaao.prog 131 = true := by kernel_rfl
theorem c132 : callable Yaao.prog 132 = true := by kernel_rfl
theorem c133 : callable Yaao.prog 133 = true := by kernel_rfl
theorem c134 : callable Yaao.prog 134 = true := by kernel_rfl
theorem c135 : callable Yaao.prog 135 = true := by kernel_rfl
theorem c136 : callable Yaao.prog 136 = true := by kernel_rfl
theorem c137 : callable Yaao.prog 137 = true := by kernel_rfl
theorem c138 : callable Yaao.prog 138 = true := by kernel_rfl
theorem c139 : callable Yaao.prog 139 = true := by kernel_rfl
theorem c14 : callable Yaao.prog 14 = true := by kernel_rfl
theorem c140 : callable Yaao.prog 140 = true := by kernel_rfl
theorem c141 : callable Yaao.prog 141 = true := by kernel_rfl
theorem c142 : callable Yaao.prog 142 = true := by kernel_rfl
theorem c143 : callable Yaao.prog 143 = true := by kernel_rfl
theorem c144 : callable Yaao.prog 144 = true := by kernel_rfl
theorem c145 : callable Yaao.prog 145 = true := by kernel_rfl
theorem c15 : callable Yaao.prog 15 = true := by kernel_rfl
theorem c16 : callable Yaao.prog 16 = true := by kernel_rfl
theorem c17 : callable Yaao.prog 17 = true := by kernel_rfl
theorem c18 : callable Yaao.prog 18 = true := by kernel_rfl
theorem c19 : callable Yaao.prog 19 = true := by kernel_rfl
theorem c20 : callable Yaao.prog 20 = true := by kernel_rfl
theorem c21 : callable Yaao.prog 21 = true := by kernel_rfl
theorem c22 : callable Yaao.prog 22 = true := by kernel_rfl
theorem c23 : callable Yaao.prog 23 = true := by kernel_rfl
theorem c24 : callable Yaao.prog 24 = true := by kernel_rfl
theorem c25 : callable Yaao.prog 25 = true := by kernel_rfl
theorem c26 : callable Yaao.prog 26 = true := by kernel_rfl
theorem c27 : callable Yaao.prog 27 = true := by kernel_rfl
theorem c28 : callable Yaao.prog 28 = true := by kernel_rfl
theorem c29 : callable Yaao.prog 29 = true := by kernel_rfl
theorem c30 : callable Yaao.prog 30 = true := by kernel_rfl
theorem c31 : callable Yaao.prog 31 = true := by kernel_rfl
theorem c32 : callable Yaao.prog 32 = true := by kernel_rfl
theorem c33 : callable Yaao.prog 33 = true := by kernel_rfl
theorem c34 : callable Yaao.prog 34 = true := by kernel_rfl
theorem c35 : callable Yaao.prog 35 = true := by kernel_rfl
theorem c36 : callable Yaao.prog 36 = true := by kernel_rfl
theorem c37 : callable Yaao.prog 37 = true := by kernel_rfl
theorem c38 : callable Yaao.prog 38 = true := by kernel_rfl
theorem c39 : callable Yaao.prog 39 = true := by kernel_rfl
theorem c40 : callable Yaao.prog 40 = true := by kernel_rfl
theorem c41 : callable Yaao.prog 41 = true := by kernel_rfl
theorem c42 : callable Yaao.prog 42 = true := by kernel_rfl
theorem c43 : callable Yaao.prog 43 = true := by kernel_rfl
theorem c44 : callable Yaao.prog 44 = true := by kernel_rfl
theorem c45 : callable Yaao.prog 45 = true := by kernel_rfl
theorem c46 : callable Yaao.prog 46 = true := by kernel_rfl
theorem c47 : callable Yaao.prog 47 = true := by kernel_rfl
theorem c48 : callable Yaao.prog 48 = true := by kernel_rfl
theorem c49 : callable Yaao.prog 49 = true := by kernel_rfl
theorem c50 : callable Yaao.prog 50 = true := by kernel_rfl
theorem c51 : callable Yaao.prog 51 = true := by kernel_rfl
theorem c52 : callable Yaao.prog 52 = true := by kernel_rfl
theorem c53 : callable Yaao.prog 53 = true := by kernel_rfl
theorem c54 : callable Yaao.prog 54 = true := by kernel_rfl
theorem c55 : callable Yaao.prog 55 = true := by kernel_rfl
theorem c56 : callable Yaao.prog 56 = true := by kernel_rfl
theorem c57 : callable Yaao.prog 57 = true := by kernel_rfl
theorem c58 : callable Yaao.prog 58 = true := by kernel_rfl
theorem c59 : callable Yaao.prog 59 = true := by kernel_rfl
theorem c60 : callable Yaao.prog 60 = true := by kernel_rfl
theorem c61 : callable Yaao.prog 61 = true := by kernel_rfl
theorem c62 : callable Yaao.prog 62 = true := by kernel_rfl
theorem c63 : callable Yaao.prog 63 = true := by kernel_rfl
theorem c64 : callable Yaao.prog 64 = true := by kernel_rfl
theorem c65 : callable Yaao.prog 65 = true := by kernel_rfl
theorem c66 : callable Yaao.prog 66 = true := by kernel_rfl
theorem c67 : callable Yaao.prog 67 = true := by kernel_rfl
theorem c68 : callable Yaao.prog 68 = true := by kernel_rfl
theorem c69 : callable Yaao.prog 69 = true := by kernel_rfl
theorem c70 : callable Yaao.prog 70 = true := by kernel_rfl
theorem c71 : callable Yaao.prog 71 = true := by kernel_rfl
theorem c72 : callable Yaao.prog 72 = true := by kernel_rfl
theorem c73 : callable Yaao.prog 73 = true := by kernel_rfl
theorem c74 : callable Yaao.prog 74 = true := by kernel_rfl
theorem c75 : callable Yaao.prog 75 = true := by kernel_rfl
theorem c76 : callable Yaao.prog 76 = true := by kernel_rfl
theorem c77 : callable Yaao.prog 77 = true := by kernel_rfl
theorem c78 : callable Yaao.prog 78 = true := by kernel_rfl
theorem c79 : callable Yaao.prog 79 = true := by kernel_rfl
theorem c80 : callable Yaao.prog 80 = true := by kernel_rfl
theorem c81 : callable Yaao.prog 81 = true := by kernel_rfl
theorem c82 : callable Yaao.prog 82 = true := by kernel_rfl
theorem c83 : callable Yaao.prog 83 = true := by kernel_rfl
theorem c84 : callable Yaao.prog 84 = true := by kernel_rfl
theorem c85 : callable Yaao.prog 85 = true := by kernel_rfl
theorem c86 : callable Yaao.prog 86 = true := by kernel_rfl
theorem c87 : callable Yaao.prog 87 = true := by kernel_rfl
theorem c88 : callable Yaao.prog 88 = true := by kernel_rfl
theorem c89 : callable Yaao.prog 89 = true := by kernel_rfl
theorem c90 : callable Yaao.prog 90 = true := by kernel_rfl
theorem c91 : callable Yaao.prog 91 = true := by kernel_rfl
theorem c92 : callable Yaao.prog 92 = true := by kernel_rfl
theorem c93 : callable Yaao.prog 93 = true := by kernel_rfl
theorem c94 : callable Yaao.prog 94 = true := by kernel_rfl
theorem c95 : callable Yaao.prog 95 = true := by kernel_rfl
theorem c96 : callable Yaao.prog 96 = true := by kernel_rfl
theorem c97 : callable Yaao.prog 97 = true := by kernel_rfl
theorem c98 : callable Yaao.prog 98 = true := by kernel_rfl
theorem c99 : callable Yaao.prog 99 = true := by kernel_rfl
theorem e100 : elT Yaao.prog 100 = 59 := by kernel_rfl
theorem e101 : elT Yaao.prog 101 = 51 := by kernel_rfl
theorem e102 : elT Yaao.prog 102 = 22 := by kernel_rfl
theorem e103 : elT Yaao.prog 103 = 42 := by kernel_rfl
theorem e110 : elT Yaao.prog 110 = 131 := by kernel_rfl
theorem e133 : elT Yaao.prog 133 = 136 := by kernel_rfl
theorem e138 : elT Yaao.prog 138 = 144 := by kernel_rfl
theorem e140 : elT Yaao.prog 140 = 142 := by kernel_rfl
theorem e155 : elT Yaao.prog 155 = 154 := by kernel_rfl
theorem e156 : elT Yaao.prog 156 = 160 := by kernel_rfl
theorem e164 : elT Yaao.prog 164 = 167 := by kernel_rfl
theorem e165 : elT Yaao.prog 165 = 169 := by kernel_rfl
theorem e182 : elT Yaao.prog 182 = 187 := by kernel_rfl
theorem e22 : elT Yaao.prog 22 = 25 := by kernel_rfl
theorem e27 : elT Yaao.prog 27 = 4 := by kernel_rfl
theorem e28 : elT Yaao.prog 28 = 80 := by kernel_rfl
theorem e34 : elT Yaao.prog 34 = 36 := by kernel_rfl
theorem e40 : elT Yaao.prog 40 = 5 := by kernel_rfl
theorem e42 : elT Yaao.prog 42 = 9 := by kernel_rfl
theorem e51 : elT Yaao.prog 51 = 50 := by kernel_rfl
theorem e59 : elT Yaao.prog 59 = 64 := by kernel_rfl
theorem e62 : elT Yaao.prog 62 = 3 := by kernel_rfl
theorem e69 : elT Yaao.prog 69 = 112 := by kernel_rfl
theorem e96 : elT Yaao.prog 96 = 28 := by kernel_rfl
theorem e97 : elT Yaao.prog 97 = 62 := by kernel_rfl
theorem e98 : elT Yaao.prog 98 = 110 := by kernel_rfl
theorem e99 : elT Yaao.prog 99 = 69 := by kernel_rfl
theorem fl105 : flatT Yaao.prog 105 = true := by kernel_rfl
theorem fl112 : flatT Yaao.prog 112 = true := by kernel_rfl
theorem fl116 : flatT Yaao.prog 116 = true := by kernel_rfl
theorem fl131 : flatT Yaao.prog 131 = true := by kernel_rfl
theorem fl136 : flatT Yaao.prog 136 = true := by kernel_rfl
theorem fl142 : flatT Yaao.prog 142 = true := by kernel_rfl
theorem fl144 : flatT Yaao.prog 144 = false := by kernel_rfl
theorem fl150 : flatT Yaao.prog 150 = true := by kernel_rfl
theorem fl154 : flatT Yaao.prog 154 = true := by kernel_rfl
theorem fl160 : flatT Yaao.prog 160 = true := by kernel_rfl
theorem fl167 : flatT Yaao.prog 167 = true := by kernel_rfl
theorem fl169 : flatT Yaao.prog 169 = true := by kernel_rfl
theorem fl187 : flatT Yaao.prog 187 = true := by kernel_rfl
theorem fl25 : flatT Yaao.prog 25 = true := by kernel_rfl
theorem fl36 : flatT Yaao.prog 36 = true := by kernel_rfl
theorem fl50 : flatT Yaao.prog 50 = true := by kernel_rfl
theorem fl64 : flatT Yaao.prog 64 = true := by kernel_rfl
theorem fl80 : flatT Yaao.prog 80 = true := by kernel_rfl
theorem i100 : infoT Yaao.prog 100 = true := by kernel_rfl
theorem i101 : infoT Yaao.prog 101 = true := by kernel_rfl
theorem i102 : infoT Yaao.prog 102 = true := by kernel_rfl
theorem i103 : infoT Yaao.prog 103 = true := by kernel_rfl
theorem i105 : infoT Yaao.prog 105 = true := by kernel_rfl
theorem i110 : infoT Yaao.prog 110 = true := by kernel_rfl
theorem i112 : infoT Yaao.prog 112 = true := by kernel_rfl
theorem i131 : infoT Yaao.prog 131 = true := by kernel_rfl
theorem i136 : infoT Yaao.prog 136 = true := by kernel_rfl
theorem i140 : infoT Yaao.prog 140 = true := by kernel_rfl
theorem i142 : infoT Yaao.prog 142 = true := by kernel_rfl
theorem i144 : infoT Yaao.prog 144 = true := by kernel_rfl
theorem i154 : infoT Yaao.prog 154 = true := by kernel_rfl
theorem i160 : infoT Yaao.prog 160 = true := by kernel_rfl
theorem i167 : infoT Yaao.prog 167 = true := by kernel_rfl
theorem i169 : infoT Yaao.prog 169 = true := by kernel_rfl
theorem i187 : infoT Yaao.prog 187 = true := by kernel_rfl
theorem i22 : infoT Yaao.prog 22 = true := by kernel_rfl
theorem i25 : infoT Yaao.prog 25 = true := by kernel_rfl
theorem i28 : infoT Yaao.prog 28 = true := by kernel_rfl
theorem i3 : infoT Yaao.prog 3 = true := by kernel_rfl
theorem i34 : infoT Yaao.prog 34 = true := by kernel_rfl
theorem i36 : infoT Yaao.prog 36 = true := by kernel_rfl
theorem i4 : infoT Yaao.prog 4 = true := by kernel_rfl
theorem i42 : infoT Yaao.prog 42 = true := by kernel_rfl
theorem i5 : infoT Yaao.prog 5 = true := by kernel_rfl
theorem i50 : infoT Yaao.prog 50 = true := by kernel_rfl
theorem i51 : infoT Yaao.prog 51 = true := by kernel_rfl
theorem i59 : infoT Yaao.prog 59 = true := by kernel_rfl
theorem i62 : infoT Yaao.prog 62 = true := by kernel_rfl
theorem i64 : infoT Yaao.prog 64 = true := by kernel_rfl
theorem i69 : infoT Yaao.prog 69 = true := by kernel_rfl
theorem i80 : infoT Yaao.prog 80 = true := by kernel_rfl
theorem i9 : infoT Yaao.prog 9 = true := by kernel_rfl
theorem i96 : infoT Yaao.prog 96 = true := by kernel_rfl
theorem i97 : infoT Yaao.prog 97 = true := by kernel_rfl
theorem i98 : infoT Yaao.prog 98 = true := by kernel_rfl
theorem i99 : infoT Yaao.prog 99 = true := by kernel_rfl
theorem ie100 : infoT Yaao.prog (elT Yaao.prog 100) = true := by kernel_rfl
theorem ie101 : infoT Yaao.prog (elT Yaao.prog 101) = true := by kernel_rfl
theorem ie102 : infoT Yaao.prog (elT Yaao.prog 102) = true := by kernel_rfl
theorem ie103 : infoT Yaao.prog (elT Yaao.prog 103) = true := by kernel_rfl
theorem ie110 : infoT Yaao.prog (elT Yaao.prog 110) = true := by kernel_rfl
theorem ie133 : infoT Yaao.prog (elT Yaao.prog 133) = true := by kernel_rfl
theorem ie138 : infoT Yaao.prog (elT Yaao.prog 138) = true := by kernel_rfl
theorem ie140 : infoT Yaao.prog (elT Yaao.prog 140) = true := by kernel_rfl
theorem ie155 : infoT Yaao.prog (elT Yaao.prog 155) = true := by kernel_rfl
theorem ie156 : infoT Yaao.prog (elT Yaao.prog 156) = true := by kernel_rfl
theorem ie164 : infoT Yaao.prog (elT Yaao.prog 164) = true := by kernel_rfl
theorem ie165 : infoT Yaao.prog (elT Yaao.prog 165) = true := by kernel_rfl
theorem ie182 : infoT Yaao.prog (elT Yaao.prog 182) = true := by kernel_rfl
theorem ie22 : infoT Yaao.prog (elT Yaao.prog 22) = true := by kernel_rfl
theorem ie27 : infoT Yaao.prog (elT Yaao.prog 27) = true := by kernel_rfl
theorem ie28 : infoT Yaao.prog (elT Yaao.prog 28) = true := by kernel_rfl
theorem ie34 : infoT Yaao.prog (elT Yaao.prog 34) = true := by kernel_rfl
theorem ie40 : infoT Yaao.prog (elT Yaao.prog 40) = true := by kernel_rfl
theorem ie42 : infoT Yaao.prog (elT Yaao.prog 42) = true := by kernel_rfl
theorem ie51 : infoT Yaao.prog (elT Yaao.prog 51) = true := by kernel_rfl
theorem ie59 : infoT Yaao.prog (elT Yaao.prog 59) = true := by kernel_rfl
theorem ie62 : infoT Yaao.prog (elT Yaao.prog 62) = true := by kernel_rfl
theorem ie69 : infoT Yaao.prog (elT Yaao.prog 69) = true := by kernel_rfl
theorem ie96 : infoT Yaao.prog (elT Yaao.prog 96) = true := by kernel_rfl
theorem ie97 : infoT Yaao.prog (elT Yaao.prog 97) = true := by kernel_rfl
theorem ie98 : infoT Yaao.prog (elT Yaao.prog 98) = true := by kernel_rfl
theorem ie99 : infoT Yaao.prog (elT Yaao.prog 99) = true := by kernel_rfl
theorem k100 : kindT Yaao.prog 100 = 6 := by kernel_rfl
theorem k101 : kindT Yaao.prog 101 = 6 := by kernel_rfl
theorem k102 : kindT Yaao.prog 102 = 6 := by kernel_rfl
theorem k103 : kindT Yaao.prog 103 = 6 := by kernel_rfl
theorem k105 : kindT Yaao.prog 105 = 7 := by kernel_rfl
theorem k110 : kindT Yaao.prog 110 = 6 := by kernel_rfl
theorem k112 : kindT Yaao.prog 112 = 7 := by kernel_rfl
theorem k131 : kindT Yaao.prog 131 = 7 := by kernel_rfl
theorem k133 : kindT Yaao.prog 133 = 6 := by kernel_rfl
theorem k136 : kindT Yaao.prog 136 = 7 := by kernel_rfl
theorem k138 : kindT Yaao.prog 138 = 6 := by kernel_rfl
theorem k140 : kindT Yaao.prog 140 = 6 := by kernel_rfl
theorem k142 : kindT Yaao.prog 142 = 7 := by kernel_rfl
theorem k144 : kindT Yaao.prog 144 = 7 := by kernel_rfl
theorem k154 : kindT Yaao.prog 154 = 7 := by kernel_rfl
theorem k155 : kindT Yaao.prog 155 = 6 := by kernel_rfl
theorem k156 : kindT Yaao.prog 156 = 6 := by kernel_rfl
theorem k160 : kindT Yaao.prog 160 = 7 := by kernel_rfl
theorem k164 : kindT Yaao.prog 164 = 6 := by kernel_rfl
theorem k165 : kindT Yaao.prog 165 = 6 := by kernel_rfl
theorem k167 : kindT Yaao.prog 167 = 7 := by kernel_rfl
theorem k169 : kindT Yaao.prog 169 = 7 := by kernel_rfl
theorem k176 : kindT Yaao.prog 176 = 3 := by kernel_rfl
theorem k182 : kindT Yaao.prog 182 = 6 := by kernel_rfl
theorem k187 : kindT Yaao.prog 187 = 7 := by kernel_rfl
theorem k22 : kindT Yaao.prog 22 = 6 := by kernel_rfl
theorem k25 : kindT Yaao.prog 25 = 7 := by kernel_rfl
theorem k27 : kindT Yaao.prog 27 = 6 := by kernel_rfl
theorem k28 : kindT Yaao.prog 28 = 6 := by kernel_rfl
theorem k3 : kindT Yaao.prog 3 = 1 := by kernel_rfl
theorem k34 : kindT Yaao.prog 34 = 6 := by kernel_rfl
theorem k36 : kindT Yaao.prog 36 = 7 := by kernel_rfl
theorem k4 : kindT Yaao.prog 4 = 4 := by kernel_rfl
theorem k40 : kindT Yaao.prog 40 = 6 := by kernel_rfl
theorem k42 : kindT Yaao.prog 42 = 6 := by kernel_rfl
theorem k46 : kindT Yaao.prog 46 = 3 := by kernel_rfl
theorem k5 : kindT Yaao.prog 5 = 2 := by kernel_rfl
theorem k50 : kindT Yaao.prog 50 = 7 := by kernel_rfl
theorem k51 : kindT Yaao.prog 51 = 6 := by kernel_rfl
theorem k59 : kindT Yaao.prog 59 = 6 := by kernel_rfl
theorem k62 : kindT Yaao.prog 62 = 6 := by kernel_rfl
theorem k64 : kindT Yaao.prog 64 = 7 := by kernel_rfl
theorem k69 : kindT Yaao.prog 69 = 6 := by kernel_rfl
theorem k80 : kindT Yaao.prog 80 = 7 := by kernel_rfl
theorem k9 : kindT Yaao.prog 9 = 5 := by kernel_rfl
theorem k96 : kindT Yaao.prog 96 = 6 := by kernel_rfl
theorem k97 : kindT Yaao.prog 97 = 6 := by kernel_rfl
theorem k98 : kindT Yaao.prog 98 = 6 := by kernel_rfl
theorem k99 : kindT Yaao.prog 99 = 6 := by kernel_rfl
theorem n100 : oneT Yaao.prog 100 = true := by kernel_rfl
theorem n101 : oneT Yaao.prog 101 = true := by kernel_rfl
theorem n102 : oneT Yaao.prog 102 = true := by kernel_rfl
theorem n103 : oneT Yaao.prog 103 = true := by kernel_rfl
theorem n110 : oneT Yaao.prog 110 = true := by kernel_rfl
theorem n140 : oneT Yaao.prog 140 = true := by kernel_rfl
theorem n22 : oneT Yaao.prog 22 = true := by kernel_rfl
theorem n28 : oneT Yaao.prog 28 = true := by kernel_rfl
theorem n3 : oneT Yaao.prog 3 = true := by kernel_rfl
theorem n34 : oneT Yaao.prog 34 = true := by kernel_rfl
theorem n4 : oneT Yaao.prog 4 = true := by kernel_rfl
theorem n42 : oneT Yaao.prog 42 = true := by kernel_rfl
theorem n5 : oneT Yaao.prog 5 = true := by kernel_rfl
theorem n51 : oneT Yaao.prog 51 = true := by kernel_rfl
theorem n59 : oneT Yaao.prog 59 = true := by kernel_rfl
theorem n62 : oneT Yaao.prog 62 = true := by kernel_rfl
theorem n69 : oneT Yaao.prog 69 = true := by kernel_rfl
theorem n9 : oneT Yaao.prog 9 = true := by kernel_rfl
theorem n96 : oneT Yaao.prog 96 = true := by kernel_rfl
theorem n97 : oneT Yaao.prog 97 = true := by kernel_rfl
theorem n98 : oneT Yaao.prog 98 = true := by kernel_rfl
theorem n99 : oneT Yaao.prog 99 = true := by kernel_rfl
theorem o105_0 : offT Yaao.prog 105 0 = some 0 := by kernel_rfl
theorem o105_1 : offT Yaao.prog 105 1 = some 1 := by kernel_rfl
theorem o105_2 : offT Yaao.prog 105 2 = some 2 := by kernel_rfl
theorem o105_3 : offT Yaao.prog 105 3 = some 3 := by kernel_rfl
theorem o105_4 : offT Yaao.prog 105 4 = some 4 := by kernel_rfl
theorem o105_5 : offT Yaao.prog 105 5 = some 5 := by kernel_rfl
theorem o105_6 : offT Yaao.prog 105 6 = some 6 := by kernel_rfl
theorem o105_7 : offT Yaao.prog 105 7 = some 7 := by kernel_rfl
theorem o112_0 : offT Yaao.prog 112 0 = some 0 := by kernel_rfl
theorem o112_1 : offT Yaao.prog 112 1 = some 1 := by kernel_rfl
theorem o112_2 : offT Yaao.prog 112 2 = some 2 := by kernel_rfl
theorem o112_3 : offT Yaao.prog 112 3 = some 3 := by kernel_rfl
theorem o112_4 : offT Yaao.prog 112 4 = some 4 := by kernel_rfl
theorem o116_0 : offT Yaao.prog 116 0 = some 0 := by kernel_rfl
theorem o116_1 : offT Yaao.prog 116 1 = some 1 := by kernel_rfl
theorem o116_2 : offT Yaao.prog 116 2 = some 2 := by kernel_rfl
theorem o116_3 : offT Yaao.prog 116 3 = some 3 := by kernel_rfl
theorem o131_0 : offT Yaao.prog 131 0 = some 0 := by kernel_rfl
theorem o136_0 : offT Yaao.prog 136 0 = some 0 := by kernel_rfl
theorem o136_1 : offT Yaao.prog 136 1 = some 1 := by kernel_rfl
theorem o136_2 : offT Yaao.prog 136 2 = some 2 := by kernel_rfl
theorem o142_0 : offT Yaao.prog 142 0 = some 0 := by kernel_rfl
theorem o142_1 : offT Yaao.prog 142 1 = some 1 := by kernel_rfl
theorem o142_2 : offT Yaao.prog 142 2 = some 2 := by kernel_rfl
theorem o144_0 : offT Yaao.prog 144 0 = some 0 := by kernel_rfl
theorem o144_1 : offT Yaao.prog 144 1 = some 1 := by kernel_rfl
theorem o144_2 : offT Yaao.prog 144 2 = some 4 := by kernel_rfl
theorem o150_0 : offT Yaao.prog 150 0 = some 0 := by kernel_rfl
theorem o150_1 : offT Yaao.prog 150 1 = some 1 := by kernel_rfl
theorem o150_2 : offT Yaao.prog 150 2 = some 2 := by kernel_rfl
theorem o154_0 : offT Yaao.prog 154 0 = some 0 := by kernel_rfl
theorem o154_1 : offT Yaao.prog 154 1 = some 1 := by kernel_rfl
theorem o154_2 : offT Yaao.prog 154 2 = some 2 := by kernel_rfl
theorem o160_0 : offT Yaao.prog 160 0 = some 0 := by kernel_rfl
theorem o160_1 : offT Yaao.prog 160 1 = some 1 := by kernel_rfl
theorem o160_3 : offT Yaao.prog 160 3 = some 3 := by kernel_rfl
theorem o167_0 : offT Yaao.prog 167 0 = some 0 := by kernel_rfl
theorem o167_1 : offT Yaao.prog 167 1 = some 1 := by kernel_rfl
theorem o167_2 : offT Yaao.prog 167 2 = some 2 := by kernel_rfl
theorem o169_0 : offT Yaao.prog 169 0 = some 0 := by kernel_rfl
theorem o169_1 : offT Yaao.prog 169 1 = some 1 := by kernel_rfl
theorem o187_0 : offT Yaao.prog 187 0 = some 0 := by kernel_rfl
theorem o187_1 : offT Yaao.prog 187 1 = some 1 := by kernel_rfl
theorem o187_2 : offT Yaao.prog 187 2 = some 2 := by kernel_rfl
theorem o25_0 : offT Yaao.prog 25 0 = some 0 := by kernel_rfl
theorem o25_1 : offT Yaao.prog 25 1 = some 1 := by kernel_rfl
theorem o25_2 : offT Yaao.prog 25 2 = some 2 := by kernel_rfl
theorem o25_3 : offT Yaao.prog 25 3 = some 3 := by kernel_rfl
theorem o36_0 : offT Yaao.prog 36 0 = some 0 := by kernel_rfl
theorem o36_1 : offT Yaao.prog 36 1 = some 1 := by kernel_rfl
theorem o36_2 : offT Yaao.prog 36 2 = some 2 := by kernel_rfl
theorem o50_0 : offT Yaao.prog 50 0 = some 0 := by kernel_rfl
theorem o50_1 : offT Yaao.prog 50 1 = some 1 := by kernel_rfl
theorem o64_0 : offT Yaao.prog 64 0 = some 0 := by kernel_rfl
theorem o64_1 : offT Yaao.prog 64 1 = some 1 := by kernel_rfl
theorem o64_2 : offT Yaao.prog 64 2 = some 2 := by kernel_rfl
theorem o64_3 : offT Yaao.prog 64 3 = some 3 := by kernel_rfl
theorem o64_4 : offT Yaao.prog 64 4 = some 4 := by kernel_rfl
theorem o80_0 : offT Yaao.prog 80 0 = some 0 := by kernel_rfl
theorem o80_1 : offT Yaao.prog 80 1 = some 1 := by kernel_rfl
theorem o80_2 : offT Yaao.prog 80 2 = some 2 := by kernel_rfl
theorem o80_3 : offT Yaao.prog 80 3 = some 3 := by kernel_rfl
theorem s100 : szT Yaao.prog 100 = 1 := by kernel_rfl
theorem s101 : szT Yaao.prog 101 = 1 := by kernel_rfl
theorem s102 : szT Yaao.prog 102 = 1 := by kernel_rfl
theorem s103 : szT Yaao.prog 103 = 1 := by kernel_rfl
theorem s105 : szT Yaao.prog 105 = 8 := by kernel_rfl
theorem s110 : szT Yaao.prog 110 = 1 := by kernel_rfl
theorem s112 : szT Yaao.prog 112 = 5 := by kernel_rfl
theorem s131 : szT Yaao.prog 131 = 1 := by kernel_rfl
theorem s136 : szT Yaao.prog 136 = 3 := by kernel_rfl
theorem s140 : szT Yaao.prog 140 = 1 := by kernel_rfl
theorem s142 : szT Yaao.prog 142 = 3 := by kernel_rfl
theorem s144 : szT Yaao.prog 144 = 5 := by kernel_rfl
theorem s154 : szT Yaao.prog 154 = 3 := by kernel_rfl
theorem s160 : szT Yaao.prog 160 = 4 := by kernel_rfl
theorem s167 : szT Yaao.prog 167 = 3 := by kernel_rfl
theorem s169 : szT Yaao.prog 169 = 2 := by kernel_rfl
theorem s187 : szT Yaao.prog 187 = 3 := by kernel_rfl
theorem s22 : szT Yaao.prog 22 = 1 := by kernel_rfl
theorem s25 : szT Yaao.prog 25 = 4 := by kernel_rfl
theorem s28 : szT Yaao.prog 28 = 1 := by kernel_rfl
theorem s3 : szT Yaao.prog 3 = 1 := by kernel_rfl
theorem s34 : szT Yaao.prog 34 = 1 := by kernel_rfl
theorem s36 : szT Yaao.prog 36 = 3 := by kernel_rfl
theorem s4 : szT Yaao.prog 4 = 1 := by kernel_rfl
theorem s42 : szT Yaao.prog 42 = 1 := by kernel_rfl
theorem s5 : szT Yaao.prog 5 = 1 := by kernel_rfl
theorem s50 : szT Yaao.prog 50 = 2 := by kernel_rfl
theorem s51 : szT Yaao.prog 51 = 1 := by kernel_rfl
theorem s59 : szT Yaao.prog 59 = 1 := by kernel_rfl
theorem s62 : szT Yaao.prog 62 = 1 := by kernel_rfl
theorem s64 : szT Yaao.prog 64 = 5 := by kernel_rfl
theorem s69 : szT Yaao.prog 69 = 1 := by kernel_rfl
theorem s80 : szT Yaao.prog 80 = 4 := by kernel_rfl
theorem s9 : szT Yaao.prog 9 = 1 := by kernel_rfl
theorem s96 : szT Yaao.prog 96 = 1 := by kernel_rfl
theorem s97 : szT Yaao.prog 97 = 1 := by kernel_rfl
theorem s98 : szT Yaao.prog 98 = 1 := by kernel_rfl
theorem s99 : szT Yaao.prog 99 = 1 := by kernel_rfl
theorem se100 : szT Yaao.prog (elT Yaao.prog 100) = 1 := by kernel_rfl
theorem se101 : szT Yaao.prog (elT Yaao.prog 101) = 1 := by kernel_rfl
theorem se102 : szT Yaao.prog (elT Yaao.prog 102) = 1 := by kernel_rfl
theorem se103 : szT Yaao.prog (elT Yaao.prog 103) = 1 := by kernel_rfl
theorem se110 : szT Yaao.prog (elT Yaao.prog 110) = 1 := by kernel_rfl
theorem se133 : szT Yaao.prog (elT Yaao.prog 133) = 3 := by kernel_rfl
theorem se138 : szT Yaao.prog (elT Yaao.prog 138) = 5 := by kernel_rfl
theorem se140 : szT Yaao.prog (elT Yaao.prog 140) = 3 := by kernel_rfl
theorem se155 : szT Yaao.prog (elT Yaao.prog 155) = 3 := by kernel_rfl
theorem se156 : szT Yaao.prog (elT Yaao.prog 156) = 4 := by kernel_rfl
theorem se164 : szT Yaao.prog (elT Yaao.prog 164) = 3 := by kernel_rfl
theorem se165 : szT Yaao.prog (elT Yaao.prog 165) = 2 := by kernel_rfl
theorem se182 : szT Yaao.prog (elT Yaao.prog 182) = 3 := by kernel_rfl
theorem se22 : szT Yaao.prog (elT Yaao.prog 22) = 4 := by kernel_rfl
theorem se27 : szT Yaao.prog (elT Yaao.prog 27) = 1 := by kernel_rfl
theorem se28 : szT Yaao.prog (elT Yaao.prog 28) = 4 := by kernel_rfl
theorem se34 : szT Yaao.prog (elT Yaao.prog 34) = 3 := by kernel_rfl
theorem se40 : szT Yaao.prog (elT Yaao.prog 40) = 1 := by kernel_rfl
theorem se42 : szT Yaao.prog (elT Yaao.prog 42) = 1 := by kernel_rfl
theorem se51 : szT Yaao.prog (elT Yaao.prog 51) = 2 := by kernel_rfl
theorem se59 : szT Yaao.prog (elT Yaao.prog 59) = 5 := by kernel_rfl
theorem se62 : szT Yaao.prog (elT Yaao.prog 62) = 1 := by kernel_rfl
theorem se69 : szT Yaao.prog (elT Yaao.prog 69) = 5 := by kernel_rfl
theorem se96 : szT Yaao.prog (elT Yaao.prog 96) = 1 := by kernel_rfl
theorem se97 : szT Yaao.prog (elT Yaao.prog 97) = 1 := by kernel_rfl
theorem se98 : szT Yaao.prog (elT Yaao.prog 98) = 1 := by kernel_rfl
theorem se99 : szT Yaao.prog (elT Yaao.prog 99) = 1 := by kernel_rfl
theorem u176 : (Yaao.prog.underlying 176).isSome = true := by kernel_rfl
theorem u3 : (Yaao.prog.underlying 3).isSome = true := by kernel_rfl
theorem u5 : (Yaao.prog.underlying 5).isSome = true := by kernel_rfl
theorem z105 : zeroT Yaao.prog 105 = some [.slice none 0 0, .slice none 0 0, .slice none 0 0, .slice none 0 0, .slice none 0 0, .slice none 0 0, .slice none 0 0, .slice none 0 0] := by kernel_rfl
theorem z112 : zeroT Yaao.prog 112 = some [.bool false, .int .i64 0, .int .i64 0, .slice none 0 0, .slice none 0 0] := by kernel_rfl
theorem z116 : zeroT Yaao.prog 116 = some [.slice none 0 0, .int .i64 0, .slice none 0 0, .bool false] := by kernel_rfl
theorem z131 : zeroT Yaao.prog 131 = some [.slice none 0 0] := by kernel_rfl
theorem z136 : zeroT Yaao.prog 136 = some [.slice none 0 0, .slice none 0 0, .int .i64 0] := by kernel_rfl
theorem z142 : zeroT Yaao.prog 142 = some [.int .i64 0, .int .i64 0, .slice none 0 0] := by kernel_rfl
theorem z144 : zeroT Yaao.prog 144 = some [.slice none 0 0, .int .i64 0, .int .i64 0, .slice none 0 0, .int .i64 0] := by kernel_rfl
theorem z150 : zeroT Yaao.prog 150 = some [.slice none 0 0, .int .i64 0, .bool false] := by kernel_rfl
theorem z154 : zeroT Yaao.prog 154 = some [.slice none 0 0, .int .i64 0, .int .i64 0] := by kernel_rfl
theorem z160 : zeroT Yaao.prog 160 = some [.int .i64 0, .bool false, .int .i64 0, .int .i64 0] := by kernel_rfl
theorem z167 : zeroT Yaao.prog 167 = some [.slice none 0 0, .int .i64 0, .int .i64 0] := by kernel_rfl
theorem z169 : zeroT Yaao.prog 169 = some [.int .i64 0, .bool false] := by kernel_rfl
theorem z187 : zeroT Yaao.prog 187 = some [.bool false, .slice none 0 0, .int .i64 0] := by kernel_rfl
theorem z25 : zeroT Yaao.prog 25 = some [.int .i64 0, .string ⟨#[]⟩, .int .i64 0, .int .i64 0] := by kernel_rfl
theorem z36 : zeroT Yaao.prog 36 = some [.int .i64 0, .string ⟨#[]⟩, .slice none 0 0] := by kernel_rfl
theorem z50 : zeroT Yaao.prog 50 = some [.string ⟨#[]⟩, .slice none 0 0] := by kernel_rfl
theorem z64 : zeroT Yaao.prog 64 = some [.int .i64 0, .slice none 0 0, .int .i64 0, .slice none 0 0, .int .i64 0] := by kernel_rfl
theorem z80 : zeroT Yaao.prog 80 = some [.int .i64 0, .string ⟨#[]⟩, .int .i64 0, .int .i64 0] := by kernel_rfl
theorem ze100 : zeroT Yaao.prog (elT Yaao.prog 100) = some [.slice none 0 0] := by kernel_rfl
theorem ze110 : zeroT Yaao.prog (elT Yaao.prog 110) = some [.slice none 0 0] := by kernel_rfl
theorem ze133 : zeroT Yaao.prog (elT Yaao.prog 133) = some [.slice none 0 0, .slice none 0 0, .int .i64 0] := by kernel_rfl
theorem ze138 : zeroT Yaao.prog (elT Yaao.prog 138) = some [.slice none 0 0, .int .i64 0, .int .i64 0, .slice none 0 0, .int .i64 0] := by kernel_rfl
theorem ze140 : zeroT Yaao.prog (elT Yaao.prog 140) = some [.int .i64 0, .int .i64 0, .slice none 0 0] := by kernel_rfl
theorem ze155 : zeroT Yaao.prog (elT Yaao.prog 155) = some [.slice none 0 0, .int .i64 0, .int .i64 0] := by kernel_rfl
theorem ze156 : zeroT Yaao.prog (elT Yaao.prog 156) = some [.int .i64 0, .bool false, .int .i64 0, .int .i64 0] := by kernel_rfl
theorem ze164 : zeroT Yaao.prog (elT Yaao.prog 164) = some [.slice none 0 0, .int .i64 0, .int .i64 0] := by kernel_rfl
theorem ze165 : zeroT Yaao.prog (elT Yaao.prog 165) = some [.int .i64 0, .bool false] := by kernel_rfl
theorem ze182 : zeroT Yaao.prog (elT Yaao.prog 182) = some [.bool false, .slice none 0 0, .int .i64 0] := by kernel_rfl
theorem ze22 : zeroT Yaao.prog (elT Yaao.prog 22) = some [.int .i64 0, .string ⟨#[]⟩, .int .i64 0, .int .i64 0] := by kernel_rfl
theorem ze27 : zeroT Yaao.prog (elT Yaao.prog 27) = some [.bool false] := by kernel_rfl
theorem ze28 : zeroT Yaao.prog (elT Yaao.prog 28) = some [.int .i64 0, .string ⟨#[]⟩, .int .i64 0, .int .i64 0] := by kernel_rfl
theorem ze34 : zeroT Yaao.prog (elT Yaao.prog 34) = some [.int .i64 0, .string ⟨#[]⟩, .slice none 0 0] := by kernel_rfl
theorem ze40 : zeroT Yaao.prog (elT Yaao.prog 40) = some [.int .u8 0] := by kernel_rfl
theorem ze42 : zeroT Yaao.prog (elT Yaao.prog 42) = some [.string ⟨#[]⟩] := by kernel_rfl
theorem ze51 : zeroT Yaao.prog (elT Yaao.prog 51) = some [.string ⟨#[]⟩, .slice none 0 0] := by kernel_rfl
theorem ze59 : zeroT Yaao.prog (elT Yaao.prog 59) = some [.int .i64 0, .slice none 0 0, .int .i64 0, .slice none 0 0, .int .i64 0] := by kernel_rfl
theorem ze62 : zeroT Yaao.prog (elT Yaao.prog 62) = some [.int .i64 0] := by kernel_rfl
theorem ze69 : zeroT Yaao.prog (elT Yaao.prog 69) = some [.bool false, .int .i64 0, .int .i64 0, .slice none 0 0, .slice none 0 0] := by kernel_rfl
theorem ze96 : zeroT Yaao.prog (elT Yaao.prog 96) = some [.slice none 0 0] := by kernel_rfl
theorem ze97 : zeroT Yaao.prog (elT Yaao.prog 97) = some [.slice none 0 0] := by kernel_rfl
theorem ze98 : zeroT Yaao.prog (elT Yaao.prog 98) = some [.slice none 0 0] := by kernel_rfl
theorem ze99 : zeroT Yaao.prog (elT Yaao.prog 99) = some [.slice none 0 0] := by kernel_rfl
theorem ok3 : okCode Yaao.f3.ntmps (Yaao.f3.body.getD .skip) = true := by kernel_rfl
theorem ent3 {args : Array Value} {w : World} {R : Value → World → Prop} (hn : args.size ≤ 74) (h : VC Yaao.prog (Yaao.f3.body.getD .skip) (retK Yaao.prog Yaao.f3 R) (initEnv args) w) : CallsV Yaao.prog 3 args w R :=
  callsV_of_W hmix Yaao.func3 rfl ok3 hn h.out
theorem ok4 : okCode Yaao.f4.ntmps (Yaao.f4.body.getD .skip) = true := by kernel_rfl
theorem ent4 {args : Array Value} {w : World} {R : Value → World → Prop} (hn : args.size ≤ 142) (h : VC Yaao.prog (Yaao.f4.body.getD .skip) (retK Yaao.prog Yaao.f4 R) (initEnv args) w) : CallsV Yaao.prog 4 args w R :=
  callsV_of_W hmix Yaao.func4 rfl ok4 hn h.out
theorem ok5 : okCode Yaao.f5.ntmps (Yaao.f5.body.getD .skip) = true := by kernel_rfl
theorem ent5 {args : Array Value} {w : World} {R : Value → World → Prop} (hn : args.size ≤ 35) (h : VC Yaao.prog (Yaao.f5.body.getD .skip) (retK Yaao.prog Yaao.f5 R) (initEnv args) w) : CallsV Yaao.prog 5 args w R :=
  callsV_of_W hmix Yaao.func5 rfl ok5 hn h.out
theorem ok6 : okCode Yaao.f6.ntmps (Yaao.f6.body.getD .skip) = true := by kernel_rfl
theorem ent6 {args : Array Value} {w : World} {R : Value → World → Prop} (hn : args.size ≤ 109) (h : VC Yaao.prog (Yaao.f6.body.getD .skip) (retK Yaao.prog Yaao.f6 R) (initEnv args) w) : CallsV Yaao.prog 6 args w R :=
  callsV_of_W hmix Yaao.func6 rfl ok6 hn h.out
theorem ok7 : okCode Yaao.f7.ntmps (Yaao.f7.body.getD .skip) = true := by kernel_rfl
theorem ent7 {args : Array Value} {w : World} {R : Value → World → Prop} (hn : args.size ≤ 87) (h : VC Yaao.prog (Yaao.f7.body.getD .skip) (retK Yaao.prog Yaao.f7 R) (initEnv args) w) : CallsV Yaao.prog 7 args w R :=
  callsV_of_W hmix Yaao.func7 rfl ok7 hn h.out
theorem ok8 : okCode Yaao.f8.ntmps (Yaao.f8.body.getD .skip) = true := by kernel_rfl
theorem ent8 {args : Array Value} {w : World} {R : Value → World → Prop} (hn : args.size ≤ 184) (h : VC Yaao.prog (Yaao.f8.body.getD .skip) (retK Yaao.prog Yaao.f8 R) (initEnv args) w) : CallsV Yaao.prog 8 args w R :=
  callsV_of_W hmix Yaao.func8 rfl ok8 hn h.out
theorem ok9 : okCode Yaao.f9.ntmps (Yaao.f9.body.getD .skip) = true := by kernel_rfl
theorem ent9 {args : Array Value} {w : World} {R : Value → World → Prop} (hn : args.size ≤ 145) (h : VC Yaao.prog (Yaao.f9.body.getD .skip) (retK Yaao.prog Yaao.f9 R) (initEnv args) w) : CallsV Yaao.prog 9 args w R :=
  callsV_of_W hmix Yaao.func9 rfl ok9 hn h.out
theorem ok10 : okCode Yaao.f10.ntmps (Yaao.f10.body.getD .skip) = true := by kernel_rfl
theorem ent10 {args : Array Value} {w : World} {R : Value → World → Prop} (hn : args.size ≤ 175) (h : VC Yaao.prog (Yaao.f10.body.getD .skip) (retK Yaao.prog Yaao.f10 R) (initEnv args) w) : CallsV Yaao.prog 10 args w R :=
  callsV_of_W hmix Yaao.func10 rfl ok10 hn h.out
theorem ok11 : okCode Yaao.f11.ntmps (Yaao.f11.body.getD .skip) = true := by kernel_rfl
theorem ent11 {args : Array Value} {w : World} {R : Value → World → Prop} (hn : args.size ≤ 99) (h : VC Yaao.prog (Yaao.f11.body.getD .skip) (retK Yaao.prog Yaao.f11 R) (initEnv args) w) : CallsV Yaao.prog 11 args w R :=
  callsV_of_W hmix Yaao.func11 rfl ok11 hn h.out
theorem ok12 : okCode Yaao.f12.ntmps (Yaao.f12.body.getD .skip) = true := by kernel_rfl
theorem ent12 {args : Array Value} {w : World} {R : Value → World → Prop} (hn : args.size ≤ 16) (h : VC Yaao.prog (Yaao.f12.body.getD .skip) (retK Yaao.prog Yaao.f12 R) (initEnv args) w) : CallsV Yaao.prog 12 args w R :=
  callsV_of_W hmix Yaao.func12 rfl ok12 hn h.out
theorem ok13 : okCode Yaao.f13.ntmps (Yaao.f13.body.getD .skip) = true := by kernel_rfl
theorem ent13 {args : Array Value} {w : World} {R : Value → World → Prop} (hn : args.size ≤ 200) (h : VC Yaao.prog (Yaao.f13.body.getD .skip) (retK Yaao.prog Yaao.f13 R) (initEnv args) w) : CallsV Yaao.prog 13 args w R :=
  callsV_of_W hmix Yaao.func13 rfl ok13 hn h.out
theorem ok14 : okCode Yaao.f14.ntmps (Yaao.f14.body.getD .skip) = true := by kernel_rfl
theorem ent14 {args : Array Value} {w : World} {R : Value → World → Prop} (hn : args.size ≤ 179) (h : VC Yaao.prog (Yaao.f14.body.getD .skip) (retK Yaao.prog Yaao.f14 R) (initEnv args) w) : CallsV Yaao.prog 14 args w R :=
  callsV_of_W hmix Yaao.func14 rfl ok14 hn h.out
theorem ok15 : okCode Yaao.f15.ntmps (Yaao.f15.body.getD .skip) = true := by kernel_rfl
theorem ent15 {args : Array Value} {w : World} {R : Value → World → Prop} (hn : args.size ≤ 9) (h : VC Yaao.prog (Yaao.f15.body.getD .skip) (retK Yaao.prog Yaao.f15 R) (initEnv args) w) : CallsV Yaao.prog 15 args w R :=
  callsV_of_W hmix Yaao.func15 rfl ok15 hn h.out
theorem ok16 : okCode Yaao.f16.ntmps (Yaao.f16.body.getD .skip) = true := by kernel_rfl
theorem ent16 {args : Array Value} {w : World} {R : Value → World → Prop} (hn : args.size ≤ 9) (h : VC Yaao.prog (Yaao.f16.body.getD .skip) (retK Yaao.prog Yaao.f16 R) (initEnv args) w) : CallsV Yaao.prog 16 args w R :=
  callsV_of_W hmix Yaao.func16 rfl ok16 hn h.out
theorem ok17 : okCode Yaao.f17.ntmps (Yaao.f17.body.getD .skip) = true := by kernel_rfl
theorem ent17 {args : Array Value} {w : World} {R : Value → World → Prop} (hn : args.size ≤ 8) (h : VC Yaao.prog (Yaao.f17.body.getD .skip) (retK Yaao.prog Yaao.f17 R) (initEnv args) w) : CallsV Yaao.prog 17 args w R :=
  callsV_of_W hmix Yaao.func17 rfl ok17 hn h.out
theorem ok18 : okCode Yaao.f18.ntmps (Yaao.f18.body.getD .skip) = true := by kernel_rfl
theorem ent18 {args : Array Value} {w : World} {R : Value → World → Prop} (hn : args.size ≤ 11) (h : VC Yaao.prog (Yaao.f18.body.getD .skip) (retK Yaao.prog Yaao.f18 R) (initEnv args) w) : CallsV Yaao.prog 18 args w R :=
  callsV_of_W hmix Yaao.func18 rfl ok18 hn h.out
theorem ok19 : okCode Yaao.f19.ntmps (Yaao.f19.body.getD .skip) = true := by kernel_rfl
theorem ent19 {args : Array Value} {w : World} {R : Value → World → Prop} (hn : args.size ≤ 12) (h : VC Yaao.prog (Yaao.f19.body.getD .skip) (retK Yaao.prog Yaao.f19 R) (initEnv args) w) : CallsV Yaao.prog 19 args w R :=
  callsV_of_W hmix Yaao.func19 rfl ok19 hn h.out
theorem ok20 : okCode Yaao.f20.ntmps (Yaao.f20.body.getD .skip) = true := by kernel_rfl
theorem ent20 {args : Array Value} {w : World} {R : Value → World → Prop} (hn : args.size ≤ 14) (h : VC Yaao.prog (Yaao.f20.body.getD .skip) (retK Yaao.prog Yaao.f20 R) (initEnv args) w) : CallsV Yaao.prog 20 args w R :=
  callsV_of_W hmix Yaao.func20 rfl ok20 hn h.out
theorem ok21 : okCode Yaao.f21.ntmps (Yaao.f21.body.getD .skip) = true := by kernel_rfl
theorem ent21 {args : Array Value} {w : World} {R : Value → World → Prop} (hn : args.size ≤ 26) (h : VC Yaao.prog (Yaao.f21.body.getD .skip) (retK Yaao.prog Yaao.f21 R) (initEnv args) w) : CallsV Yaao.prog 21 args w R :=
  callsV_of_W hmix Yaao.func21 rfl ok21 hn h.out
theorem ok22 : okCode Yaao.f22.ntmps (Yaao.f22.body.getD .skip) = true := by kernel_rfl
theorem ent22 {args : Array Value} {w : World} {R : Value → World → Prop} (hn : args.size ≤ 28) (h : VC Yaao.prog (Yaao.f22.body.getD .skip) (retK Yaao.prog Yaao.f22 R) (initEnv args) w) : CallsV Yaao.prog 22 args w R :=
  callsV_of_W hmix Yaao.func22 rfl ok22 hn h.out
theorem ok23 : okCode Yaao.f23.ntmps (Yaao.f23.body.getD .skip) = true := by kernel_rfl
theorem ent23 {args : Array Value} {w : World} {R : Value → World → Prop} (hn : args.size ≤ 46) (h : VC Yaao.prog (Yaao.f23.body.getD .skip) (retK Yaao.prog Yaao.f23 R) (initEnv args) w) : CallsV Yaao.prog 23 args w R :=
  callsV_of_W hmix Yaao.func23 rfl ok23 hn h.out
theorem ok24 : okCode Yaao.f24.ntmps (Yaao.f24.body.getD .skip) = true := by kernel_rfl
theorem ent24 {args : Array Value} {w : World} {R : Value → World → Prop} (hn : args.size ≤ 53) (h : VC Yaao.prog (Yaao.f24.body.getD .skip) (retK Yaao.prog Yaao.f24 R) (initEnv args) w) : CallsV Yaao.prog 24 args w R :=
  callsV_of_W hmix Yaao.func24 rfl ok24 hn h.out
theorem ok25 : okCode Yaao.f25.ntmps (Yaao.f25.body.getD .skip) = true := by kernel_rfl
theorem ent25 {args : Array Value} {w : World} {R : Value → World → Prop} (hn : args.size ≤ 286) (h : VC Yaao.prog (Yaao.f25.body.getD .skip) (retK Yaao.prog Yaao.f25 R) (initEnv args) w) : CallsV Yaao.prog 25 args w R :=
  callsV_of_W hmix Yaao.func25 rfl ok25 hn h.out
theorem ok26 : okCode Yaao.f26.ntmps (Yaao.f26.body.getD .skip) = true := by kernel_rfl
theorem ent26 {args : Array Value} {w : World} {R : Value → World → Prop} (hn : args.size ≤ 11) (h : VC Yaao.prog (Yaao.f26.body.getD .skip) (retK Yaao.prog Yaao.f26 R) (initEnv args) w) : CallsV Yaao.prog 26 args w R :=
  callsV_of_W hmix Yaao.func26 rfl ok26 hn h.out
theorem ok27 : okCode Yaao.f27.ntmps (Yaao.f27.body.getD .skip) = true := by kernel_rfl
theorem ent27 {args : Array Value} {w : World} {R : Value → World → Prop} (hn : args.size ≤ 42) (h : VC Yaao.prog (Yaao.f27.body.getD .skip) (retK Yaao.prog Yaao.f27 R) (initEnv args) w) : CallsV Yaao.prog 27 args w R :=
  callsV_of_W hmix Yaao.func27 rfl ok27 hn h.out
theorem ok28 : okCode Yaao.f28.ntmps (Yaao.f28.body.getD .skip) = true := by kernel_rfl
theorem ent28 {args : Array Value} {w : World} {R : Value → World → Prop} (hn : args.size ≤ 26) (h : VC Yaao.prog (Yaao.f28.body.getD .skip) (retK Yaao.prog Yaao.f28 R) (initEnv args) w) : CallsV Yaao.prog 28 args w R :=
  callsV_of_W hmix Yaao.func28 rfl ok28 hn h.out
theorem ok29 : okCode Yaao.f29.ntmps (Yaao.f29.body.getD .skip) = true := by kernel_rfl
theorem ent29 {args : Array Value} {w : World} {R : Value → World → Prop} (hn : args.size ≤ 15) (h : VC Yaao.prog (Yaao.f29.body.getD .skip) (retK Yaao.prog Yaao.f29 R) (initEnv args) w) : CallsV Yaao.prog 29 args w R :=
  callsV_of_W hmix Yaao.func29 rfl ok29 hn h.out
theorem ok30 : okCode Yaao.f30.ntmps (Yaao.f30.body.getD .skip) = true := by kernel_rfl
theorem ent30 {args : Array Value} {w : World} {R : Value → World → Prop} (hn : args.size ≤ 19) (h : VC Yaao.prog (Yaao.f30.body.getD .skip) (retK Yaao.prog Yaao.f30 R) (initEnv args) w) : CallsV Yaao.prog 30 args w R :=
  callsV_of_W hmix Yaao.func30 rfl ok30 hn h.out
theorem ok31 : okCode Yaao.f31.ntmps (Yaao.f31.body.getD .skip) = true := by kernel_rfl
theorem ent31 {args : Array Value} {w : World} {R : Value → World → Prop} (hn : args.size ≤ 145) (h : VC Yaao.prog (Yaao.f31.body.getD .skip) (retK Yaao.prog Yaao.f31 R) (initEnv args) w) : CallsV Yaao.prog 31 args w R :=
  callsV_of_W hmix Yaao.func31 rfl ok31 hn h.out
theorem ok32 : okCode Yaao.f32.ntmps (Yaao.f32.body.getD .skip) = true := by kernel_rfl
theorem ent32 {args : Array Value} {w : World} {R : Value → World → Prop} (hn : args.size ≤ 20) (h : VC Yaao.prog (Yaao.f32.body.getD .skip) (retK Yaao.prog Yaao.f32 R) (initEnv args) w) : CallsV Yaao.prog 32 args w R :=
  callsV_of_W hmix Yaao.func32 rfl ok32 hn h.out
theorem ok33 : okCode Yaao.f33.ntmps (Yaao.f33.body.getD .skip) = true := by kernel_rfl
theorem ent33 {args : Array Value} {w : World} {R : Value → World → Prop} (hn : args.size ≤ 183) (h : VC Yaao.prog (Yaao.f33.body.getD .skip) (retK Yaao.prog Yaao.f33 R) (initEnv args) w) : CallsV Yaao.prog 33 args w R :=
  callsV_of_W hmix Yaao.func33 rfl ok33 hn h.out
theorem ok34 : okCode Yaao.f34.ntmps (Yaao.f34.body.getD .skip) = true := by kernel_rfl
theorem ent34 {args : Array Value} {w : World} {R : Value → World → Prop} (hn : args.size ≤ 36) (h : VC Yaao.prog (Yaao.f34.body.getD .skip) (retK Yaao.prog Yaao.f34 R) (initEnv args) w) : CallsV Yaao.prog 34 args w R :=
  callsV_of_W hmix Yaao.func34 rfl ok34 hn h.out
theorem ok35 : okCode Yaao.f35.ntmps (Yaao.f35.body.getD .skip) = true := by kernel_rfl
theorem ent35 {args : Array Value} {w : World} {R : Value → World → Prop} (hn : args.size ≤ 68) (h : VC Yaao.prog (Yaao.f35.body.getD .skip) (retK Yaao.prog Yaao.f35 R) (initEnv args) w) : CallsV Yaao.prog 35 args w R :=
  callsV_of_W hmix Yaao.func35 rfl ok35 hn h.out
theorem ok36 : okCode Yaao.f36.ntmps (Yaao.f36.body.getD .skip) = true := by kernel_rfl
theorem ent36 {args : Array Value} {w : World} {R : Value → World → Prop} (hn : args.size ≤ 71) (h : VC Yaao.prog (Yaao.f36.body.getD .skip) (retK Yaao.prog Yaao.f36 R) (initEnv args) w) : CallsV Yaao.prog 36 args w R :=
  callsV_of_W hmix Yaao.func36 rfl ok36 hn h.out
theorem ok37 : okCode Yaao.f37.ntmps (Yaao.f37.body.getD .skip) = true := by kernel_rfl
theorem ent37 {args : Array Value} {w : World} {R : Value → World → Prop} (hn : args.size ≤ 42) (h : VC Yaao.prog (Yaao.f37.body.getD .skip) (retK Yaao.prog Yaao.f37 R) (initEnv args) w) : CallsV Yaao.prog 37 args w R :=
  callsV_of_W hmix Yaao.func37 rfl ok37 hn h.out
theorem ok38 : okCode Yaao.f38.ntmps (Yaao.f38.body.getD .skip) = true := by kernel_rfl
theorem ent38 {args : Array Value} {w : World} {R : Value → World → Prop} (hn : args.size ≤ 51) (h : VC Yaao.prog (Yaao.f38.body.getD .skip) (retK Yaao.prog Yaao.f38 R) (initEnv args) w) : CallsV Yaao.prog 38 args w R :=
  callsV_of_W hmix Yaao.func38 rfl ok38 hn h.out
theorem ok39 : okCode Yaao.f39.ntmps (Yaao.f39.body.getD .skip) = true := by kernel_rfl
theorem ent39 {args : Array Value} {w : World} {R : Value → World → Prop} (hn : args.size ≤ 40) (h : VC Yaao.prog (Yaao.f39.body.getD .skip) (retK Yaao.prog Yaao.f39 R) (initEnv args) w) : CallsV Yaao.prog 39 args w R :=
  callsV_of_W hmix Yaao.func39 rfl ok39 hn h.out
theorem ok40 : okCode Yaao.f40.ntmps (Yaao.f40.body.getD .skip) = true := by kernel_rfl
theorem ent40 {args : Array Value} {w : World} {R : Value → World → Prop} (hn : args.size ≤ 38) (h : VC Yaao.prog (Yaao.f40.body.getD .skip) (retK Yaao.prog Yaao.f40 R) (initEnv args) w) : CallsV Yaao.prog 40 args w R :=
  callsV_of_W hmix Yaao.func40 rfl ok40 hn h.out
theorem ok41 : okCode Yaao.f41.ntmps (Yaao.f41.body.getD .skip) = true := by kernel_rfl
theorem ent41 {args : Array Value} {w : World} {R : Value → World → Prop} (hn : args.size ≤ 32) (h : VC Yaao.prog (Yaao.f41.body.getD .skip) (retK Yaao.prog Yaao.f41 R) (initEnv args) w) : CallsV Yaao.prog 41 args w R :=
  callsV_of_W hmix Yaao.func41 rfl ok41 hn h.out
theorem ok42 : okCode Yaao.f42.ntmps (Yaao.f42.body.getD .skip) = true := by kernel_rfl
theorem ent42 {args : Array Value} {w : World} {R : Value → World → Prop} (hn : args.size ≤ 162) (h : VC Yaao.prog (Yaao.f42.body.getD .skip) (retK Yaao.prog Yaao.f42 R) (initEnv args) w) : CallsV Yaao.prog 42 args w R :=
  callsV_of_W hmix Yaao.func42 rfl ok42 hn h.out
theorem ok43 : okCode Yaao.f43.ntmps (Yaao.f43.body.getD .skip) = true := by kernel_rfl
theorem ent43 {args : Array Value} {w : World} {R : Value → World → Prop} (hn : args.size ≤ 152) (h : VC Yaao.prog (Yaao.f43.body.getD .skip) (retK Yaao.prog Yaao.f43 R) (initEnv args) w) : CallsV Yaao.prog 43 args w R :=
  callsV_of_W hmix Yaao.func43 rfl ok43 hn h.out
theorem ok44 : okCode Yaao.f44.ntmps (Yaao.f44.body.getD .skip) = true := by kernel_rfl
theorem ent44 {args : Array Value} {w : World} {R : Value → World → Prop} (hn : args.size ≤ 38) (h : VC Yaao.prog (Yaao.f44.body.getD .skip) (retK Yaao.prog Yaao.f44 R) (initEnv args) w) : CallsV Yaao.prog 44 args w R :=
  callsV_of_W hmix Yaao.func44 rfl ok44 hn h.out
theorem ok45 : okCode Yaao.f45.ntmps (Yaao.f45.body.getD .skip) = true := by kernel_rfl
theorem ent45 {args : Array Value} {w : World} {R : Value → World → Prop} (hn : args.size ≤ 13) (h : VC Yaao.prog (Yaao.f45.body.getD .skip) (retK Yaao.prog Yaao.f45 R) (initEnv args) w) : CallsV Yaao.prog 45 args w R :=
  callsV_of_W hmix Yaao.func45 rfl ok45 hn h.out
theorem ok46 : okCode Yaao.f46.ntmps (Yaao.f46.body.getD .skip) = true := by kernel_rfl
theorem ent46 {args : Array Value} {w : World} {R : Value → World → Prop} (hn : args.size ≤ 38) (h : VC Yaao.prog (Yaao.f46.body.getD .skip) (retK Yaao.prog Yaao.f46 R) (initEnv args) w) : CallsV Yaao.prog 46 args w R :=
  callsV_of_W hmix Yaao.func46 rfl ok46 hn h.out
theorem ok47 : okCode Yaao.f47.ntmps (Yaao.f47.body.getD .skip) = true := by kernel_rfl
theorem ent47 {args : Array Value} {w : World} {R : Value → World → Prop} (hn : args.size ≤ 8) (h : VC Yaao.prog (Yaao.f47.body.getD .skip) (retK Yaao.prog Yaao.f47 R) (initEnv args) w) : CallsV Yaao.prog 47 args w R :=
  callsV_of_W hmix Yaao.func47 rfl ok47 hn h.out
theorem ok48 : okCode Yaao.f48.ntmps (Yaao.f48.body.getD .skip) = true := by kernel_rfl
theorem ent48 {args : Array Value} {w : World} {R : Value → World → Prop} (hn : args.size ≤ 6) (h : VC Yaao.prog (Yaao.f48.body.getD .skip) (retK Yaao.prog Yaao.f48 R) (initEnv args) w) : CallsV Yaao.prog 48 args w R :=
  callsV_of_W hmix Yaao.func48 rfl ok48 hn h.out
theorem ok49 : okCode Yaao.f49.ntmps (Yaao.f49.body.getD .skip) = true := by kernel_rfl
theorem ent49 {args : Array Value} {w : World} {R : Value → World → Prop} (hn : args.size ≤ 27) (h : VC Yaao.prog (Yaao.f49.body.getD .skip) (retK Yaao.prog Yaao.f49 R) (initEnv args) w) : CallsV Yaao.prog 49 args w R :=
  callsV_of_W hmix Yaao.func49 rfl ok49 hn h.out
theorem ok50 : okCode Yaao.f50.ntmps (Yaao.f50.body.getD .skip) = true := by kernel_rfl
theorem ent50 {args : Array Value} {w : World} {R : Value → World → Prop} (hn : args.size ≤ 6) (h : VC Yaao.prog (Yaao.f50.body.getD .skip) (retK Yaao.prog Yaao.f50 R) (initEnv args) w) : CallsV Yaao.prog 50 args w R :=
  callsV_of_W hmix Yaao.func50 rfl ok50 hn h.out
theorem ok51 : okCode Yaao.f51.ntmps (Yaao.f51.body.getD .skip) = true := by kernel_rfl
theorem ent51 {args : Array Value} {w : World} {R : Value → World → Prop} (hn : args.size ≤ 8) (h : VC Yaao.prog (Yaao.f51.body.getD .skip) (retK Yaao.prog Yaao.f51 R) (initEnv args) w) : CallsV Yaao.prog 51 args w R :=
  callsV_of_W hmix Yaao.func51 rfl ok51 hn h.out
theorem ok52 : okCode Yaao.f52.ntmps (Yaao.f52.body.getD .skip) = true := by kernel_rfl
theorem ent52 {args : Array Value} {w : World} {R : Value → World → Prop} (hn : args.size ≤ 9) (h : VC Yaao.prog (Yaao.f52.body.getD .skip) (retK Yaao.prog Yaao.f52 R) (initEnv args) w) : CallsV Yaao.prog 52 args w R :=
  callsV_of_W hmix Yaao.func52 rfl ok52 hn h.out
theorem ok53 : okCode Yaao.f53.ntmps (Yaao.f53.body.getD .skip) = true := by kernel_rfl
theorem ent53 {args : Array Value} {w : World} {R : Value → World → Prop} (hn : args.size ≤ 13) (h : VC Yaao.prog (Yaao.f53.body.getD .skip) (retK Yaao.prog Yaao.f53 R) (initEnv args) w) : CallsV Yaao.prog 53 args w R :=
  callsV_of_W hmix Yaao.func53 rfl ok53 hn h.out
theorem ok54 : okCode Yaao.f54.ntmps (Yaao.f54.body.getD .skip) = true := by kernel_rfl
theorem ent54 {args : Array Value} {w : World} {R : Value → World → Prop} (hn : args.size ≤ 9) (h : VC Yaao.prog (Yaao.f54.body.getD .skip) (retK Yaao.prog Yaao.f54 R) (initEnv args) w) : CallsV Yaao.prog 54 args w R :=
  callsV_of_W hmix Yaao.func54 rfl ok54 hn h.out
theorem ok55 : okCode Yaao.f55.ntmps (Yaao.f55.body.getD .skip) = true := by kernel_rfl
theorem ent55 {args : Array Value} {w : World} {R : Value → World → Prop} (hn : args.size ≤ 9) (h : VC Yaao.prog (Yaao.f55.body.getD .skip) (retK Yaao.prog Yaao.f55 R) (initEnv args) w) : CallsV Yaao.prog 55 args w R :=
  callsV_of_W hmix Yaao.func55 rfl ok55 hn h.out
theorem ok56 : okCode Yaao.f56.ntmps (Yaao.f56.body.getD .skip) = true := by kernel_rfl
theorem ent56 {args : Array Value} {w : World} {R : Value → World → Prop} (hn : args.size ≤ 9) (h : VC Yaao.prog (Yaao.f56.body.getD .skip) (retK Yaao.prog Yaao.f56 R) (initEnv args) w) : CallsV Yaao.prog 56 args w R :=
  callsV_of_W hmix Yaao.func56 rfl ok56 hn h.out
theorem ok57 : okCode Yaao.f57.ntmps (Yaao.f57.body.getD .skip) = true := by kernel_rfl
theorem ent57 {args : Array Value} {w : World} {R : Value → World → Prop} (hn : args.size ≤ 38) (h : VC Yaao.prog (Yaao.f57.body.getD .skip) (retK Yaao.prog Yaao.f57 R) (initEnv args) w) : CallsV Yaao.prog 57 args w R :=
  callsV_of_W hmix Yaao.func57 rfl ok57 hn h.out
theorem ok58 : okCode Yaao.f58.ntmps (Yaao.f58.body.getD .skip) = true := by kernel_rfl
theorem ent58 {args : Array Value} {w : World} {R : Value → World → Prop} (hn : args.size ≤ 15) (h : VC Yaao.prog (Yaao.f58.body.getD .skip) (retK Yaao.prog Yaao.f58 R) (initEnv args) w) : CallsV Yaao.prog 58 args w R :=
  callsV_of_W hmix Yaao.func58 rfl ok58 hn h.out
theorem ok59 : okCode Yaao.f59.ntmps (Yaao.f59.body.getD .skip) = true := by kernel_rfl
theorem ent59 {args : Array Value} {w : World} {R : Value → World → Prop} (hn : args.size ≤ 202) (h : VC Yaao.prog (Yaao.f59.body.getD .skip) (retK Yaao.prog Yaao.f59 R) (initEnv args) w) : CallsV Yaao.prog 59 args w R :=
  callsV_of_W hmix Yaao.func59 rfl ok59 hn h.out
theorem ok60 : okCode Yaao.f60.ntmps (Yaao.f60.body.getD .skip) = true := by kernel_rfl
theorem ent60 {args : Array Value} {w : World} {R : Value → World → Prop} (hn : args.size ≤ 56) (h : VC Yaao.prog (Yaao.f60.body.getD .skip) (retK Yaao.prog Yaao.f60 R) (initEnv args) w) : CallsV Yaao.prog 60 args w R :=
  callsV_of_W hmix Yaao.func60 rfl ok60 hn h.out
theorem ok61 : okCode Yaao.f61.ntmps (Yaao.f61.body.getD .skip) = true := by kernel_rfl
theorem ent61 {args : Array Value} {w : World} {R : Value → World → Prop} (hn : args.size ≤ 7) (h : VC Yaao.prog (Yaao.f61.body.getD .skip) (retK Yaao.prog Yaao.f61 R) (initEnv args) w) : CallsV Yaao.prog 61 args w R :=
  callsV_of_W hmix Yaao.func61 rfl ok61 hn h.out
theorem ok62 : okCode Yaao.f62.ntmps (Yaao.f62.body.getD .skip) = true := by kernel_rfl
theorem ent62 {args : Array Value} {w : World} {R : Value → World → Prop} (hn : args.size ≤ 169) (h : VC Yaao.prog (Yaao.f62.body.getD .skip) (retK Yaao.prog Yaao.f62 R) (initEnv args) w) : CallsV Yaao.prog 62 args w R :=
  callsV_of_W hmix Yaao.func62 rfl ok62 hn h.out
theorem ok63 : okCode Yaao.f63.ntmps (Yaao.f63.body.getD .skip) = true := by kernel_rfl
theorem ent63 {args : Array Value} {w : World} {R : Value → World → Prop} (hn : args.size ≤ 19) (h : VC Yaao.prog (Yaao.f63.body.getD .skip) (retK Yaao.prog Yaao.f63 R) (initEnv args) w) : CallsV Yaao.prog 63 args w R :=
  callsV_of_W hmix Yaao.func63 rfl ok63 hn h.out
theorem ok64 : okCode Yaao.f64.ntmps (Yaao.f64.body.getD .skip) = true := by kernel_rfl
theorem ent64 {args : Array Value} {w : World} {R : Value → World → Prop} (hn : args.size ≤ 19) (h : VC Yaao.prog (Yaao.f64.body.getD .skip) (retK Yaao.prog Yaao.f64 R) (initEnv args) w) : CallsV Yaao.prog 64 args w R :=
  callsV_of_W hmix Yaao.func64 rfl ok64 hn h.out
theorem ok65 : okCode Yaao.f65.ntmps (Yaao.f65.body.getD .skip) = true := by kernel_rfl
theorem ent65 {args : Array Value} {w : World} {R : Value → World → Prop} (hn : args.size ≤ 26) (h : VC Yaao.prog (Yaao.f65.body.getD .skip) (retK Yaao.prog Yaao.f65 R) (initEnv args) w) : CallsV Yaao.prog 65 args w R :=
  callsV_of_W hmix Yaao.func65 rfl ok65 hn h.out
theorem ok66 : okCode Yaao.f66.ntmps (Yaao.f66.body.getD .skip) = true := by kernel_rfl
theorem ent66 {args : Array Value} {w : World} {R : Value → World → Prop} (hn : args.size ≤ 35) (h : VC Yaao.prog (Yaao.f66.body.getD .skip) (retK Yaao.prog Yaao.f66 R) (initEnv args) w) : CallsV Yaao.prog 66 args w R :=
  callsV_of_W hmix Yaao.func66 rfl ok66 hn h.out
theorem ok67 : okCode Yaao.f67.ntmps (Yaao.f67.body.getD .skip) = true := by kernel_rfl
theorem ent67 {args : Array Value} {w : World} {R : Value → World → Prop} (hn : args.size ≤ 87) (h : VC Yaao.prog (Yaao.f67.body.getD .skip) (retK Yaao.prog Yaao.f67 R) (initEnv args) w) : CallsV Yaao.prog 67 args w R :=
  callsV_of_W hmix Yaao.func67 rfl ok67 hn h.out
theorem ok68 : okCode Yaao.f68.ntmps (Yaao.f68.body.getD .skip) = true := by kernel_rfl
theorem ent68 {args : Array Value} {w : World} {R : Value → World → Prop} (hn : args.size ≤ 48) (h : VC Yaao.prog (Yaao.f68.body.getD .skip) (retK Yaao.prog Yaao.f68 R) (initEnv args) w) : CallsV Yaao.prog 68 args w R :=
  callsV_of_W hmix Yaao.func68 rfl ok68 hn h.out
theorem ok69 : okCode Yaao.f69.ntmps (Yaao.f69.body.getD .skip) = true := by kernel_rfl
theorem ent69 {args : Array Value} {w : World} {R : Value → World → Prop} (hn : args.size ≤ 6) (h : VC Yaao.prog (Yaao.f69.body.getD .skip) (retK Yaao.prog Yaao.f69 R) (initEnv args) w) : CallsV Yaao.prog 69 args w R :=
  callsV_of_W hmix Yaao.func69 rfl ok69 hn h.out
theorem ok70 : okCode Yaao.f70.ntmps (Yaao.f70.body.getD .skip) = true := by kernel_rfl
theorem ent70 {args : Array Value} {w : World} {R : Value → World → Prop} (hn : args.size ≤ 64) (h : VC Yaao.prog (Yaao.f70.body.getD .skip) (retK Yaao.prog Yaao.f70 R) (initEnv args) w) : CallsV Yaao.prog 70 args w R :=
  callsV_of_W hmix Yaao.func70 rfl ok70 hn h.out
theorem ok71 : okCode Yaao.f71.ntmps (Yaao.f71.body.getD .skip) = true := by kernel_rfl
theorem ent71 {args : Array Value} {w : World} {R : Value → World → Prop} (hn : args.size ≤ 115) (h : VC Yaao.prog (Yaao.f71.body.getD .skip) (retK Yaao.prog Yaao.f71 R) (initEnv args) w) : CallsV Yaao.prog 71 args w R :=
  callsV_of_W hmix Yaao.func71 rfl ok71 hn h.out
theorem ok72 : okCode Yaao.f72.ntmps (Yaao.f72.body.getD .skip) = true := by kernel_rfl
theorem ent72 {args : Array Value} {w : World} {R : Value → World → Prop} (hn : args.size ≤ 20) (h : VC Yaao.prog (Yaao.f72.body.getD .skip) (retK Yaao.prog Yaao.f72 R) (initEnv args) w) : CallsV Yaao.prog 72 args w R :=
  callsV_of_W hmix Yaao.func72 rfl ok72 hn h.out
theorem ok73 : okCode Yaao.f73.ntmps (Yaao.f73.body.getD .skip) = true := by kernel_rfl
theorem ent73 {args : Array Value} {w : World} {R : Value → World → Prop} (hn : args.size ≤ 86) (h : VC Yaao.prog (Yaao.f73.body.getD .skip) (retK Yaao.prog Yaao.f73 R) (initEnv args) w) : CallsV Yaao.prog 73 args w R :=
  callsV_of_W hmix Yaao.func73 rfl ok73 hn h.out
theorem ok74 : okCode Yaao.f74.ntmps (Yaao.f74.body.getD .skip) = true := by kernel_rfl
theorem ent74 {args : Array Value} {w : World} {R : Value → World → Prop} (hn : args.size ≤ 26) (h : VC Yaao.prog (Yaao.f74.body.getD .skip) (retK Yaao.prog Yaao.f74 R) (initEnv args) w) : CallsV Yaao.prog 74 args w R :=
  callsV_of_W hmix Yaao.func74 rfl ok74 hn h.out
theorem ok75 : okCode Yaao.f75.ntmps (Yaao.f75.body.getD .skip) = true := by kernel_rfl
theorem ent75 {args : Array Value} {w : World} {R : Value → World → Prop} (hn : args.size ≤ 4) (h : VC Yaao.prog (Yaao.f75.body.getD .skip) (retK Yaao.prog Yaao.f75 R) (initEnv args) w) : CallsV Yaao.prog 75 args w R :=
  callsV_of_W hmix Yaao.func75 rfl ok75 hn h.out
theorem ok76 : okCode Yaao.f76.ntmps (Yaao.f76.body.getD .skip) = true := by kernel_rfl
theorem ent76 {args : Array Value} {w : World} {R : Value → World → Prop} (hn : args.size ≤ 35) (h : VC Yaao.prog (Yaao.f76.body.getD .skip) (retK Yaao.prog Yaao.f76 R) (initEnv args) w) : CallsV Yaao.prog 76 args w R :=
  callsV_of_W hmix Yaao.func76 rfl ok76 hn h.out
theorem ok77 : okCode Yaao.f77.ntmps (Yaao.f77.body.getD .skip) = true := by kernel_rfl
theorem ent77 {args : Array Value} {w : World} {R : Value → World → Prop} (hn : args.size ≤ 14) (h : VC Yaao.prog (Yaao.f77.body.getD .skip) (retK Yaao.prog Yaao.f77 R) (initEnv args) w) : CallsV Yaao.prog 77 args w R :=
  callsV_of_W hmix Yaao.func77 rfl ok77 hn h.out
theorem ok78 : okCode Yaao.f78.ntmps (Yaao.f78.body.getD .skip) = true := by kernel_rfl
theorem ent78 {args : Array Value} {w : World} {R : Value → World → Prop} (hn : args.size ≤ 19) (h : VC Yaao.prog (Yaao.f78.body.getD .skip) (retK Yaao.prog Yaao.f78 R) (initEnv args) w) : CallsV Yaao.prog 78 args w R :=
  callsV_of_W hmix Yaao.func78 rfl ok78 hn h.out
theorem ok79 : okCode Yaao.f79.ntmps (Yaao.f79.body.getD .skip) = true := by kernel_rfl
theorem ent79 {args : Array Value} {w : World} {R : Value → World → Prop} (hn : args.size ≤ 27) (h : VC Yaao.prog (Yaao.f79.body.getD .skip) (retK Yaao.prog Yaao.f79 R) (initEnv args) w) : CallsV Yaao.prog 79 args w R :=
  callsV_of_W hmix Yaao.func79 rfl ok79 hn h.out
theorem ok80 : okCode Yaao.f80.ntmps (Yaao.f80.body.getD .skip) = true := by kernel_rfl
theorem ent80 {args : Array Value} {w : World} {R : Value → World → Prop} (hn : args.size ≤ 639) (h : VC Yaao.prog (Yaao.f80.body.getD .skip) (retK Yaao.prog Yaao.f80 R) (initEnv args) w) : CallsV Yaao.prog 80 args w R :=
  callsV_of_W hmix Yaao.func80 rfl ok80 hn h.out
theorem ok81 : okCode Yaao.f81.ntmps (Yaao.f81.body.getD .skip) = true := by kernel_rfl
theorem ent81 {args : Array Value} {w : World} {R : Value → World → Prop} (hn : args.size ≤ 70) (h : VC Yaao.prog (Yaao.f81.body.getD .skip) (retK Yaao.prog Yaao.f81 R) (initEnv args) w) : CallsV Yaao.prog 81 args w R :=
  callsV_of_W hmix Yaao.func81 rfl ok81 hn h.out
theorem ok82 : okCode Yaao.f82.ntmps (Yaao.f82.body.getD .skip) = true := by kernel_rfl
theorem ent82 {args : Array Value} {w : World} {R : Value → World → Prop} (hn : args.size ≤ 60) (h : VC Yaao.prog (Yaao.f82.body.getD .skip) (retK Yaao.prog Yaao.f82 R) (initEnv args) w) : CallsV Yaao.prog 82 args w R :=
  callsV_of_W hmix Yaao.func82 rfl ok82 hn h.out
theorem ok83 : okCode Yaao.f83.ntmps (Yaao.f83.body.getD .skip) = true := by kernel_rfl
theorem ent83 {args : Array Value} {w : World} {R : Value → World → Prop} (hn : args.size ≤ 67) (h : VC Yaao.prog (Yaao.f83.body.getD .skip) (retK Yaao.prog Yaao.f83 R) (initEnv args) w) : CallsV Yaao.prog 83 args w R :=
  callsV_of_W hmix Yaao.func83 rfl ok83 hn h.out
theorem ok84 : okCode Yaao.f84.ntmps (Yaao.f84.body.getD .skip) = true := by kernel_rfl
theorem ent84 {args : Array Value} {w : World} {R : Value → World → Prop} (hn : args.size ≤ 78) (h : VC Yaao.prog (Yaao.f84.body.getD .skip) (retK Yaao.prog Yaao.f84 R) (initEnv args) w) : CallsV Yaao.prog 84 args w R :=
  callsV_of_W hmix Yaao.func84 rfl ok84 hn h.out
theorem ok85 : okCode Yaao.f85.ntmps (Yaao.f85.body.getD .skip) = true := by kernel_rfl
theorem ent85 {args : Array Value} {w : World} {R : Value → World → Prop} (hn : args.size ≤ 35) (h : VC Yaao.prog (Yaao.f85.body.getD .skip) (retK Yaao.prog Yaao.f85 R) (initEnv args) w) : CallsV Yaao.prog 85 args w R :=
  callsV_of_W hmix Yaao.func85 rfl ok85 hn h.out
theorem ok86 : okCode Yaao.f86.ntmps (Yaao.f86.body.getD .skip) = true := by kernel_rfl
theorem ent86 {args : Array Value} {w : World} {R : Value → World → Prop} (hn : args.size ≤ 34) (h : VC Yaao.prog (Yaao.f86.body.getD .skip) (retK Yaao.prog Yaao.f86 R) (initEnv args) w) : CallsV Yaao.prog 86 args w R :=
  callsV_of_W hmix Yaao.func86 rfl ok86 hn h.out
theorem ok87 : okCode Yaao.f87.ntmps (Yaao.f87.body.getD .skip) = true := by kernel_rfl
theorem ent87 {args : Array Value} {w : World} {R : Value → World → Prop} (hn : args.size ≤ 24) (h : VC Yaao.prog (Yaao.f87.body.getD .skip) (retK Yaao.prog Yaao.f87 R) (initEnv args) w) : CallsV Yaao.prog 87 args w R :=
  callsV_of_W hmix Yaao.func87 rfl ok87 hn h.out
theorem ok88 : okCode Yaao.f88.ntmps (Yaao.f88.body.getD .skip) = true := by kernel_rfl
theorem ent88 {args : Array Value} {w : World} {R : Value → World → Prop} (hn : args.size ≤ 10) (h : VC Yaao.prog (Yaao.f88.body.getD .skip) (retK Yaao.prog Yaao.f88 R) (initEnv args) w) : CallsV Yaao.prog 88 args w R :=
  callsV_of_W hmix Yaao.func88 rfl ok88 hn h.out
theorem ok89 : okCode Yaao.f89.ntmps (Yaao.f89.body.getD .skip) = true := by kernel_rfl
theorem ent89 {args : Array Value} {w : World} {R : Value → World → Prop} (hn : args.size ≤ 58) (h : VC Yaao.prog (Yaao.f89.body.getD .skip) (retK Yaao.prog Yaao.f89 R) (initEnv args) w) : CallsV Yaao.prog 89 args w R :=
  callsV_of_W hmix Yaao.func89 rfl ok89 hn h.out
theorem ok90 : okCode Yaao.f90.ntmps (Yaao.f90.body.getD .skip) = true := by kernel_rfl
theorem ent90 {args : Array Value} {w : World} {R : Value → World → Prop} (hn : args.size ≤ 35) (h : VC Yaao.prog (Yaao.f90.body.getD .skip) (retK Yaao.prog Yaao.f90 R) (initEnv args) w) : CallsV Yaao.prog 90 args w R :=
  callsV_of_W hmix Yaao.func90 rfl ok90 hn h.out
theorem ok91 : okCode Yaao.f91.ntmps (Yaao.f91.body.getD .skip) = true := by kernel_rfl
theorem ent91 {args : Array Value} {w : World} {R : Value → World → Prop} (hn : args.size ≤ 5) (h : VC Yaao.prog (Yaao.f91.body.getD .skip) (retK Yaao.prog Yaao.f91 R) (initEnv args) w) : CallsV Yaao.prog 91 args w R :=
  callsV_of_W hmix Yaao.func91 rfl ok91 hn h.out
theorem ok92 : okCode Yaao.f92.ntmps (Yaao.f92.body.getD .skip) = true := by kernel_rfl
theorem ent92 {args : Array Value} {w : World} {R : Value → World → Prop} (hn : args.size ≤ 2) (h : VC Yaao.prog (Yaao.f92.body.getD .skip) (retK Yaao.prog Yaao.f92 R) (initEnv args) w) : CallsV Yaao.prog 92 args w R :=
  callsV_of_W hmix Yaao.func92 rfl ok92 hn h.out
theorem ok93 : okCode Yaao.f93.ntmps (Yaao.f93.body.getD .skip) = true := by kernel_rfl
theorem ent93 {args : Array Value} {w : World} {R : Value → World → Prop} (hn : args.size ≤ 6) (h : VC Yaao.prog (Yaao.f93.body.getD .skip) (retK Yaao.prog Yaao.f93 R) (initEnv args) w) : CallsV Yaao.prog 93 args w R :=
  callsV_of_W hmix Yaao.func93 rfl ok93 hn h.out
theorem ok94 : okCode Yaao.f94.ntmps (Yaao.f94.body.getD .skip) = true := by kernel_rfl
theorem ent94 {args : Array Value} {w : World} {R : Value → World → Prop} (hn : args.size ≤ 12) (h : VC Yaao.prog (Yaao.f94.body.getD .skip) (retK Yaao.prog Yaao.f94 R) (initEnv args) w) : CallsV Yaao.prog 94 args w R :=
  callsV_of_W hmix Yaao.func94 rfl ok94 hn h.out
theorem ok95 : okCode Yaao.f95.ntmps (Yaao.f95.body.getD .skip) = true := by kernel_rfl
theorem ent95 {args : Array Value} {w : World} {R : Value → World → Prop} (hn : args.size ≤ 18) (h : VC Yaao.prog (Yaao.f95.body.getD .skip) (retK Yaao.prog Yaao.f95 R) (initEnv args) w) : CallsV Yaao.prog 95 args w R :=
  callsV_of_W hmix Yaao.func95 rfl ok95 hn h.out
theorem ok96 : okCode Yaao.f96.ntmps (Yaao.f96.body.getD .skip) = true := by kernel_rfl
theorem ent96 {args : Array Value} {w : World} {R : Value → World → Prop} (hn : args.size ≤ 66) (h : VC Yaao.prog (Yaao.f96.body.getD .skip) (retK Yaao.prog Yaao.f96 R) (initEnv args) w) : CallsV Yaao.prog 96 args w R :=
  callsV_of_W hmix Yaao.func96 rfl ok96 hn h.out
theorem ok97 : okCode Yaao.f97.ntmps (Yaao.f97.body.getD .skip) = true := by kernel_rfl
theorem ent97 {args : Array Value} {w : World} {R : Value → World → Prop} (hn : args.size ≤ 54) (h : VC Yaao.prog (Yaao.f97.body.getD .skip) (retK Yaao.prog Yaao.f97 R) (initEnv args) w) : CallsV Yaao.prog 97 args w R :=
  callsV_of_W hmix Yaao.func97 rfl ok97 hn h.out
theorem ok98 : okCode Yaao.f98.ntmps (Yaao.f98.body.getD .skip) = true := by kernel_rfl
theorem ent98 {args : Array Value} {w : World} {R : Value → World → Prop} (hn : args.size ≤ 13) (h : VC Yaao.prog (Yaao.f98.body.getD .skip) (retK Yaao.prog Yaao.f98 R) (initEnv args) w) : CallsV Yaao.prog 98 args w R :=
  callsV_of_W hmix Yaao.func98 rfl ok98 hn h.out
theorem ok99 : okCode Yaao.f99.ntmps (Yaao.f99.body.getD .skip) = true := by kernel_rfl
theorem ent99 {args : Array Value} {w : World} {R : Value → World → Prop} (hn : args.size ≤ 26) (h : VC Yaao.prog (Yaao.f99.body.getD .skip) (retK Yaao.prog Yaao.f99 R) (initEnv args) w) : CallsV Yaao.prog 99 args w R :=
  callsV_of_W hmix Yaao.func99 rfl ok99 hn h.out
theorem ok100 : okCode Yaao.f100.ntmps (Yaao.f100.body.getD .skip) = true := by kernel_rfl
theorem ent100 {args : Array Value} {w : World} {R : Value → World → Prop} (hn : args.size ≤ 10) (h : VC Yaao.prog (Yaao.f100.body.getD .skip) (retK Yaao.prog Yaao.f100 R) (initEnv args) w) : CallsV Yaao.prog 100 args w R :=
  callsV_of_W hmix Yaao.func100 rfl ok100 hn h.out
theorem ok101 : okCode Yaao.f101.ntmps (Yaao.f101.body.getD .skip) = true := by kernel_rfl
theorem ent101 {args : Array Value} {w : World} {R : Value → World → Prop} (hn : args.size ≤ 11) (h : VC Yaao.prog (Yaao.f101.body.getD .skip) (retK Yaao.prog Yaao.f101 R) (initEnv args) w) : CallsV Yaao.prog 101 args w R :=
  callsV_of_W hmix Yaao.func101 rfl ok101 hn h.out
theorem ok102 : okCode Yaao.f102.ntmps (Yaao.f102.body.getD .skip) = true := by kernel_rfl
theorem ent102 {args : Array Value} {w : World} {R : Value → World → Prop} (hn : args.size ≤ 172) (h : VC Yaao.prog (Yaao.f102.body.getD .skip) (retK Yaao.prog Yaao.f102 R) (initEnv args) w) : CallsV Yaao.prog 102 args w R :=
  callsV_of_W hmix Yaao.func102 rfl ok102 hn h.out
theorem ok103 : okCode Yaao.f103.ntmps (Yaao.f103.body.getD .skip) = true := by kernel_rfl
theorem ent103 {args : Array Value} {w : World} {R : Value → World → Prop} (hn : args.size ≤ 51) (h : VC Yaao.prog (Yaao.f103.body.getD .skip) (retK Yaao.prog Yaao.f103 R) (initEnv args) w) : CallsV Yaao.prog 103 args w R :=
  callsV_of_W hmix Yaao.func103 rfl ok103 hn h.out
theorem ok104 : okCode Yaao.f104.ntmps (Yaao.f104.body.getD .skip) = true := by kernel_rfl
theorem ent104 {args : Array Value} {w : World} {R : Value → World → Prop} (hn : args.size ≤ 181) (h : VC Yaao.prog (Yaao.f104.body.getD .skip) (retK Yaao.prog Yaao.f104 R) (initEnv args) w) : CallsV Yaao.prog 104 args w R :=
  callsV_of_W hmix Yaao.func104 rfl ok104 hn h.out
theorem ok105 : okCode Yaao.f105.ntmps (Yaao.f105.body.getD .skip) = true := by kernel_rfl
theorem ent105 {args : Array Value} {w : World} {R : Value → World → Prop} (hn : args.size ≤ 53) (h : VC Yaao.prog (Yaao.f105.body.getD .skip) (retK Yaao.prog Yaao.f105 R) (initEnv args) w) : CallsV Yaao.prog 105 args w R :=
  callsV_of_W hmix Yaao.func105 rfl ok105 hn h.out
theorem ok106 : okCode Yaao.f106.ntmps (Yaao.f106.body.getD .skip) = true := by kernel_rfl
theorem ent106 {args : Array Value} {w : World} {R : Value → World → Prop} (hn : args.size ≤ 35) (h : VC Yaao.prog (Yaao.f106.body.getD .skip) (retK Yaao.prog Yaao.f106 R) (initEnv args) w) : CallsV Yaao.prog 106 args w R :=
  callsV_of_W hmix Yaao.func106 rfl ok106 hn h.out
theorem ok107 : okCode Yaao.f107.ntmps (Yaao.f107.body.getD .skip) = true := by kernel_rfl
theorem ent107 {args : Array Value} {w : World} {R : Value → World → Prop} (hn : args.size ≤ 24) (h : VC Yaao.prog (Yaao.f107.body.getD .skip) (retK Yaao.prog Yaao.f107 R) (initEnv args) w) : CallsV Yaao.prog 107 args w R :=
  callsV_of_W hmix Yaao.func107 rfl ok107 hn h.out
theorem ok108 : okCode Yaao.f108.ntmps (Yaao.f108.body.getD .skip) = true := by kernel_rfl
theorem ent108 {args : Array Value} {w : World} {R : Value → World → Prop} (hn : args.size ≤ 32) (h : VC Yaao.prog (Yaao.f108.body.getD .skip) (retK Yaao.prog Yaao.f108 R) (initEnv args) w) : CallsV Yaao.prog 108 args w R :=
  callsV_of_W hmix Yaao.func108 rfl ok108 hn h.out
theorem ok109 : okCode Yaao.f109.ntmps (Yaao.f109.body.getD .skip) = true := by kernel_rfl
theorem ent109 {args : Array Value} {w : World} {R : Value → World → Prop} (hn : args.size ≤ 35) (h : VC Yaao.prog (Yaao.f109.body.getD .skip) (retK Yaao.prog Yaao.f109 R) (initEnv args) w) : CallsV Yaao.prog 109 args w R :=
  callsV_of_W hmix Yaao.func109 rfl ok109 hn h.out
theorem ok110 : okCode Yaao.f110.ntmps (Yaao.f110.body.getD .skip) = true := by kernel_rfl
theorem ent110 {args : Array Value} {w : World} {R : Value → World → Prop} (hn : args.size ≤ 30) (h : VC Yaao.prog (Yaao.f110.body.getD .skip) (retK Yaao.prog Yaao.f110 R) (initEnv args) w) : CallsV Yaao.prog 110 args w R :=
  callsV_of_W hmix Yaao.func110 rfl ok110 hn h.out
theorem ok111 : okCode Yaao.f111.ntmps (Yaao.f111.body.getD .skip) = true := by kernel_rfl
theorem ent111 {args : Array Value} {w : World} {R : Value → World → Prop} (hn : args.size ≤ 12) (h : VC Yaao.prog (Yaao.f111.body.getD .skip) (retK Yaao.prog Yaao.f111 R) (initEnv args) w) : CallsV Yaao.prog 111 args w R :=
  callsV_of_W hmix Yaao.func111 rfl ok111 hn h.out
theorem ok112 : okCode Yaao.f112.ntmps (Yaao.f112.body.getD .skip) = true := by kernel_rfl
theorem ent112 {args : Array Value} {w : World} {R : Value → World → Prop} (hn : args.size ≤ 65) (h : VC Yaao.prog (Yaao.f112.body.getD .skip) (retK Yaao.prog Yaao.f112 R) (initEnv args) w) : CallsV Yaao.prog 112 args w R :=
  callsV_of_W hmix Yaao.func112 rfl ok112 hn h.out
theorem ok113 : okCode Yaao.f113.ntmps (Yaao.f113.body.getD .skip) = true := by kernel_rfl
theorem ent113 {args : Array Value} {w : World} {R : Value → World → Prop} (hn : args.size ≤ 53) (h : VC Yaao.prog (Yaao.f113.body.getD .skip) (retK Yaao.prog Yaao.f113 R) (initEnv args) w) : CallsV Yaao.prog 113 args w R :=
  callsV_of_W hmix Yaao.func113 rfl ok113 hn h.out
theorem ok114 : okCode Yaao.f114.ntmps (Yaao.f114.body.getD .skip) = true := by kernel_rfl
theorem ent114 {args : Array Value} {w : World} {R : Value → World → Prop} (hn : args.size ≤ 10) (h : VC Yaao.prog (Yaao.f114.body.getD .skip) (retK Yaao.prog Yaao.f114 R) (initEnv args) w) : CallsV Yaao.prog 114 args w R :=
  callsV_of_W hmix Yaao.func114 rfl ok114 hn h.out
theorem ok115 : okCode Yaao.f115.ntmps (Yaao.f115.body.getD .skip) = true := by kernel_rfl
theorem ent115 {args : Array Value} {w : World} {R : Value → World → Prop} (hn : args.size ≤ 11) (h : VC Yaao.prog (Yaao.f115.body.getD .skip) (retK Yaao.prog Yaao.f115 R) (initEnv args) w) : CallsV Yaao.prog 115 args w R :=
  callsV_of_W hmix Yaao.func115 rfl ok115 hn h.out
theorem ok116 : okCode Yaao.f116.ntmps (Yaao.f116.body.getD .skip) = true := by kernel_rfl
theorem ent116 {args : Array Value} {w : World} {R : Value → World → Prop} (hn : args.size ≤ 147) (h : VC Yaao.prog (Yaao.f116.body.getD .skip) (retK Yaao.prog Yaao.f116 R) (initEnv args) w) : CallsV Yaao.prog 116 args w R :=
  callsV_of_W hmix Yaao.func116 rfl ok116 hn h.out
theorem ok117 : okCode Yaao.f117.ntmps (Yaao.f117.body.getD .skip) = true := by kernel_rfl
theorem ent117 {args : Array Value} {w : World} {R : Value → World → Prop} (hn : args.size ≤ 63) (h : VC Yaao.prog (Yaao.f117.body.getD .skip) (retK Yaao.prog Yaao.f117 R) (initEnv args) w) : CallsV Yaao.prog 117 args w R :=
  callsV_of_W hmix Yaao.func117 rfl ok117 hn h.out
theorem ok118 : okCode Yaao.f118.ntmps (Yaao.f118.body.getD .skip) = true := by kernel_rfl
theorem ent118 {args : Array Value} {w : World} {R : Value → World → Prop} (hn : args.size ≤ 51) (h : VC Yaao.prog (Yaao.f118.body.getD .skip) (retK Yaao.prog Yaao.f118 R) (initEnv args) w) : CallsV Yaao.prog 118 args w R :=
  callsV_of_W hmix Yaao.func118 rfl ok118 hn h.out
theorem ok119 : okCode Yaao.f119.ntmps (Yaao.f119.body.getD .skip) = true := by kernel_rfl
theorem ent119 {args : Array Value} {w : World} {R : Value → World → Prop} (hn : args.size ≤ 8) (h : VC Yaao.prog (Yaao.f119.body.getD .skip) (retK Yaao.prog Yaao.f119 R) (initEnv args) w) : CallsV Yaao.prog 119 args w R :=
  callsV_of_W hmix Yaao.func119 rfl ok119 hn h.out
theorem ok120 : okCode Yaao.f120.ntmps (Yaao.f120.body.getD .skip) = true := by kernel_rfl
theorem ent120 {args : Array Value} {w : World} {R : Value → World → Prop} (hn : args.size ≤ 82) (h : VC Yaao.prog (Yaao.f120.body.getD .skip) (retK Yaao.prog Yaao.f120 R) (initEnv args) w) : CallsV Yaao.prog 120 args w R :=
  callsV_of_W hmix Yaao.func120 rfl ok120 hn h.out
theorem ok121 : okCode Yaao.f121.ntmps (Yaao.f121.body.getD .skip) = true := by kernel_rfl
theorem ent121 {args : Array Value} {w : World} {R : Value → World → Prop} (hn : args.size ≤ 71) (h : VC Yaao.prog (Yaao.f121.body.getD .skip) (retK Yaao.prog Yaao.f121 R) (initEnv args) w) : CallsV Yaao.prog 121 args w R :=
  callsV_of_W hmix Yaao.func121 rfl ok121 hn h.out
theorem ok122 : okCode Yaao.f122.ntmps (Yaao.f122.body.getD .skip) = true := by kernel_rfl
theorem ent122 {args : Array Value} {w : World} {R : Value → World → Prop} (hn : args.size ≤ 11) (h : VC Yaao.prog (Yaao.f122.body.getD .skip) (retK Yaao.prog Yaao.f122 R) (initEnv args) w) : CallsV Yaao.prog 122 args w R :=
  callsV_of_W hmix Yaao.func122 rfl ok122 hn h.out
theorem ok123 : okCode Yaao.f123.ntmps (Yaao.f123.body.getD .skip) = true := by kernel_rfl
theorem ent123 {args : Array Value} {w : World} {R : Value → World → Prop} (hn : args.size ≤ 40) (h : VC Yaao.prog (Yaao.f123.body.getD .skip) (retK Yaao.prog Yaao.f123 R) (initEnv args) w) : CallsV Yaao.prog 123 args w R :=
  callsV_of_W hmix Yaao.func123 rfl ok123 hn h.out
theorem ok124 : okCode Yaao.f124.ntmps (Yaao.f124.body.getD .skip) = true := by kernel_rfl
theorem ent124 {args : Array Value} {w : World} {R : Value → World → Prop} (hn : args.size ≤ 21) (h : VC Yaao.prog (Yaao.f124.body.getD .skip) (retK Yaao.prog Yaao.f124 R) (initEnv args) w) : CallsV Yaao.prog 124 args w R :=
  callsV_of_W hmix Yaao.func124 rfl ok124 hn h.out
theorem ok125 : okCode Yaao.f125.ntmps (Yaao.f125.body.getD .skip) = true := by kernel_rfl
theorem ent125 {args : Array Value} {w : World} {R : Value → World → Prop} (hn : args.size ≤ 35) (h : VC Yaao.prog (Yaao.f125.body.getD .skip) (retK Yaao.prog Yaao.f125 R) (initEnv args) w) : CallsV Yaao.prog 125 args w R :=
  callsV_of_W hmix Yaao.func125 rfl ok125 hn h.out
theorem ok126 : okCode Yaao.f126.ntmps (Yaao.f126.body.getD .skip) = true := by kernel_rfl
theorem ent126 {args : Array Value} {w : World} {R : Value → World → Prop} (hn : args.size ≤ 24) (h : VC Yaao.prog (Yaao.f126.body.getD .skip) (retK Yaao.prog Yaao.f126 R) (initEnv args) w) : CallsV Yaao.prog 126 args w R :=
  callsV_of_W hmix Yaao.func126 rfl ok126 hn h.out
theorem ok127 : okCode Yaao.f127.ntmps (Yaao.f127.body.getD .skip) = true := by kernel_rfl
theorem ent127 {args : Array Value} {w : World} {R : Value → World → Prop} (hn : args.size ≤ 28) (h : VC Yaao.prog (Yaao.f127.body.getD .skip) (retK Yaao.prog Yaao.f127 R) (initEnv args) w) : CallsV Yaao.prog 127 args w R :=
  callsV_of_W hmix Yaao.func127 rfl ok127 hn h.out
theorem ok128 : okCode Yaao.f128.ntmps (Yaao.f128.body.getD .skip) = true := by kernel_rfl
theorem ent128 {args : Array Value} {w : World} {R : Value → World → Prop} (hn : args.size ≤ 25) (h : VC Yaao.prog (Yaao.f128.body.getD .skip) (retK Yaao.prog Yaao.f128 R) (initEnv args) w) : CallsV Yaao.prog 128 args w R :=
  callsV_of_W hmix Yaao.func128 rfl ok128 hn h.out
theorem ok129 : okCode Yaao.f129.ntmps (Yaao.f129.body.getD .skip) = true := by kernel_rfl
theorem ent129 {args : Array Value} {w : World} {R : Value → World → Prop} (hn : args.size ≤ 559) (h : VC Yaao.prog (Yaao.f129.body.getD .skip) (retK Yaao.prog Yaao.f129 R) (initEnv args) w) : CallsV Yaao.prog 129 args w R :=
  callsV_of_W hmix Yaao.func129 rfl ok129 hn h.out
theorem ok130 : okCode Yaao.f130.ntmps (Yaao.f130.body.getD .skip) = true := by kernel_rfl
theorem ent130 {args : Array Value} {w : World} {R : Value → World → Prop} (hn : args.size ≤ 20) (h : VC Yaao.prog (Yaao.f130.body.getD .skip) (retK Yaao.prog Yaao.f130 R) (initEnv args) w) : CallsV Yaao.prog 130 args w R :=
  callsV_of_W hmix Yaao.func130 rfl ok130 hn h.out
theorem ok131 : okCode Yaao.f131.ntmps (Yaao.f131.body.getD .skip) = true := by kernel_rfl
theorem ent131 {args : Array Value} {w : World} {R : Value → World → Prop} (hn : args.size ≤ 45) (h : VC Yaao.prog (Yaao.f131.body.getD .skip) (retK Yaao.prog Yaao.f131 R) (initEnv args) w) : CallsV Yaao.prog 131 args w R :=
  callsV_of_W hmix Yaao.func131 rfl ok131 hn h.out
theorem ok132 : okCode Yaao.f132.ntmps (Yaao.f132.body.getD .skip) = true := by kernel_rfl
theorem ent132 {args : Array Value} {w : World} {R : Value → World → Prop} (hn : args.size ≤ 33) (h : VC Yaao.prog (Yaao.f132.body.getD .skip) (retK Yaao.prog Yaao.f132 R) (initEnv args) w) : CallsV Yaao.prog 132 args w R :=
  callsV_of_W hmix Yaao.func132 rfl ok132 hn h.out
theorem ok133 : okCode Yaao.f133.ntmps (Yaao.f133.body.getD .skip) = true := by kernel_rfl
theorem ent133 {args : Array Value} {w : World} {R : Value → World → Prop} (hn : args.size ≤ 626) (h : VC Yaao.prog (Yaao.f133.body.getD .skip) (retK Yaao.prog Yaao.f133 R) (initEnv args) w) : CallsV Yaao.prog 133 args w R :=
  callsV_of_W hmix Yaao.func133 rfl ok133 hn h.out
theorem ok134 : okCode Yaao.f134.ntmps (Yaao.f134.body.getD .skip) = true := by kernel_rfl
theorem ent134 {args : Array Value} {w : World} {R : Value → World → Prop} (hn : args.size ≤ 40) (h : VC Yaao.prog (Yaao.f134.body.getD .skip) (retK Yaao.prog Yaao.f134 R) (initEnv args) w) : CallsV Yaao.prog 134 args w R :=
  callsV_of_W hmix Yaao.func134 rfl ok134 hn h.out
theorem ok135 : okCode Yaao.f135.ntmps (Yaao.f135.body.getD .skip) = true := by kernel_rfl
theorem ent135 {args : Array Value} {w : World} {R : Value → World → Prop} (hn : args.size ≤ 34) (h : VC Yaao.prog (Yaao.f135.body.getD .skip) (retK Yaao.prog Yaao.f135 R) (initEnv args) w) : CallsV Yaao.prog 135 args w R :=
  callsV_of_W hmix Yaao.func135 rfl ok135 hn h.out
theorem ok136 : okCode Yaao.f136.ntmps (Yaao.f136.body.getD .skip) = true := by kernel_rfl
theorem ent136 {args : Array Value} {w : World} {R : Value → World → Prop} (hn : args.size ≤ 6) (h : VC Yaao.prog (Yaao.f136.body.getD .skip) (retK Yaao.prog Yaao.f136 R) (initEnv args) w) : CallsV Yaao.prog 136 args w R :=
  callsV_of_W hmix Yaao.func136 rfl ok136 hn h.out
theorem ok137 : okCode Yaao.f137.ntmps (Yaao.f137.body.getD .skip) = true := by kernel_rfl
theorem ent137 {args : Array Value} {w : World} {R : Value → World → Prop} (hn : args.size ≤ 60) (h : VC Yaao.prog (Yaao.f137.body.getD .skip) (retK Yaao.prog Yaao.f137 R) (initEnv args) w) : CallsV Yaao.prog 137 args w R :=
  callsV_of_W hmix Yaao.func137 rfl ok137 hn h.out
theorem ok138 : okCode Yaao.f138.ntmps (Yaao.f138.body.getD .skip) = true := by kernel_rfl
theorem ent138 {args : Array Value} {w : World} {R : Value → World → Prop} (hn : args.size ≤ 13) (h : VC Yaao.prog (Yaao.f138.body.getD .skip) (retK Yaao.prog Yaao.f138 R) (initEnv args) w) : CallsV Yaao.prog 138 args w R :=
  callsV_of_W hmix Yaao.func138 rfl ok138 hn h.out
theorem ok139 : okCode Yaao.f139.ntmps (Yaao.f139.body.getD .skip) = true := by kernel_rfl
theorem ent139 {args : Array Value} {w : World} {R : Value → World → Prop} (hn : args.size ≤ 96) (h : VC Yaao.prog (Yaao.f139.body.getD .skip) (retK Yaao.prog Yaao.f139 R) (initEnv args) w) : CallsV Yaao.prog 139 args w R :=
  callsV_of_W hmix Yaao.func139 rfl ok139 hn h.out
theorem ok140 : okCode Yaao.f140.ntmps (Yaao.f140.body.getD .skip) = true := by kernel_rfl
theorem ent140 {args : Array Value} {w : World} {R : Value → World → Prop} (hn : args.size ≤ 9) (h : VC Yaao.prog (Yaao.f140.body.getD .skip) (retK Yaao.prog Yaao.f140 R) (initEnv args) w) : CallsV Yaao.prog 140 args w R :=
  callsV_of_W hmix Yaao.func140 rfl ok140 hn h.out
theorem ok141 : okCode Yaao.f141.ntmps (Yaao.f141.body.getD .skip) = true := by kernel_rfl
theorem ent141 {args : Array Value} {w : World} {R : Value → World → Prop} (hn : args.size ≤ 36) (h : VC Yaao.prog (Yaao.f141.body.getD .skip) (retK Yaao.prog Yaao.f141 R) (initEnv args) w) : CallsV Yaao.prog 141 args w R :=
  callsV_of_W hmix Yaao.func141 rfl ok141 hn h.out
theorem ok142 : okCode Yaao.f142.ntmps (Yaao.f142.body.getD .skip) = true := by kernel_rfl
theorem ent142 {args : Array Value} {w : World} {R : Value → World → Prop} (hn : args.size ≤ 67) (h : VC Yaao.prog (Yaao.f142.body.getD .skip) (retK Yaao.prog Yaao.f142 R) (initEnv args) w) : CallsV Yaao.prog 142 args w R :=
  callsV_of_W hmix Yaao.func142 rfl ok142 hn h.out
theorem ok143 : okCode Yaao.f143.ntmps (Yaao.f143.body.getD .skip) = true := by kernel_rfl
theorem ent143 {args : Array Value} {w : World} {R : Value → World → Prop} (hn : args.size ≤ 108) (h : VC Yaao.prog (Yaao.f143.body.getD .skip) (retK Yaao.prog Yaao.f143 R) (initEnv args) w) : CallsV Yaao.prog 143 args w R :=
  callsV_of_W hmix Yaao.func143 rfl ok143 hn h.out
theorem ok144 : okCode Yaao.f144.ntmps (Yaao.f144.body.getD .skip) = true := by kernel_rfl
theorem ent144 {args : Array Value} {w : World} {R : Value → World → Prop} (hn : args.size ≤ 34) (h : VC Yaao.prog (Yaao.f144.body.getD .skip) (retK Yaao.prog Yaao.f144 R) (initEnv args) w) : CallsV Yaao.prog 144 args w R :=
  callsV_of_W hmix Yaao.func144 rfl ok144 hn h.out
theorem ok145 : okCode Yaao.f145.ntmps (Yaao.f145.body.getD .skip) = true := by kernel_rfl
theorem ent145 {args : Array Value} {w : World} {R : Value → World → Prop} (hn : args.size ≤ 100) (h : VC Yaao.prog (Yaao.f145.body.getD .skip) (retK Yaao.prog Yaao.f145 R) (initEnv args) w) : CallsV Yaao.prog 145 args w R :=
  callsV_of_W hmix Yaao.func145 rfl ok145 hn h.out
end Go.Proofs.Ybzaaw
