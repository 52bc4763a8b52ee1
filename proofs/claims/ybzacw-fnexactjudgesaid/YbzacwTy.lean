/-  Made by program for the seat's translation: closed facts of the type table and of the functions.  -/
import Derived.Test.YbzacwBase
import Derived.Test.YbzacwProg
namespace Go.Proofs.Ybzacw
open Go.Wf
set_option maxRecDepth 1000000
theorem hmix : Yaco.prog.follows .mixedOrders = true := by kernel_rfl
theorem be100 : Yaco.prog.bytesOf (elT Yaco.prog 100) = 40 := by kernel_rfl
theorem be106 : Yaco.prog.bytesOf (elT Yaco.prog 106) = 56 := by kernel_rfl
theorem be115 : Yaco.prog.bytesOf (elT Yaco.prog 115) = 48 := by kernel_rfl
theorem be126 : Yaco.prog.bytesOf (elT Yaco.prog 126) = 40 := by kernel_rfl
theorem be127 : Yaco.prog.bytesOf (elT Yaco.prog 127) = 16 := by kernel_rfl
theorem be141 : Yaco.prog.bytesOf (elT Yaco.prog 141) = 40 := by kernel_rfl
theorem be142 : Yaco.prog.bytesOf (elT Yaco.prog 142) = 32 := by kernel_rfl
theorem be159 : Yaco.prog.bytesOf (elT Yaco.prog 159) = 1 := by kernel_rfl
theorem be168 : Yaco.prog.bytesOf (elT Yaco.prog 168) = 1 := by kernel_rfl
theorem be174 : Yaco.prog.bytesOf (elT Yaco.prog 174) = 40 := by kernel_rfl
theorem be24 : Yaco.prog.bytesOf (elT Yaco.prog 24) = 40 := by kernel_rfl
theorem be25 : Yaco.prog.bytesOf (elT Yaco.prog 25) = 8 := by kernel_rfl
theorem be29 : Yaco.prog.bytesOf (elT Yaco.prog 29) = 40 := by kernel_rfl
theorem be34 : Yaco.prog.bytesOf (elT Yaco.prog 34) = 24 := by kernel_rfl
theorem be35 : Yaco.prog.bytesOf (elT Yaco.prog 35) = 24 := by kernel_rfl
theorem be36 : Yaco.prog.bytesOf (elT Yaco.prog 36) = 24 := by kernel_rfl
theorem be37 : Yaco.prog.bytesOf (elT Yaco.prog 37) = 24 := by kernel_rfl
theorem be38 : Yaco.prog.bytesOf (elT Yaco.prog 38) = 24 := by kernel_rfl
theorem be46 : Yaco.prog.bytesOf (elT Yaco.prog 46) = 72 := by kernel_rfl
theorem be48 : Yaco.prog.bytesOf (elT Yaco.prog 48) = 72 := by kernel_rfl
theorem be56 : Yaco.prog.bytesOf (elT Yaco.prog 56) = 72 := by kernel_rfl
theorem be58 : Yaco.prog.bytesOf (elT Yaco.prog 58) = 72 := by kernel_rfl
theorem be67 : Yaco.prog.bytesOf (elT Yaco.prog 67) = 40 := by kernel_rfl
theorem be80 : Yaco.prog.bytesOf (elT Yaco.prog 80) = 24 := by kernel_rfl
theorem be89 : Yaco.prog.bytesOf (elT Yaco.prog 89) = 16 := by kernel_rfl
theorem be93 : Yaco.prog.bytesOf (elT Yaco.prog 93) = 24 := by kernel_rfl
theorem be98 : Yaco.prog.bytesOf (elT Yaco.prog 98) = 72 := by kernel_rfl
theorem c10 : callable Yaco.prog 10 = true := by kernel_rfl
theorem c100 : callable Yaco.prog 100 = true := by kernel_rfl
theorem c101 : callable Yaco.prog 101 = true := by kernel_rfl
theorem c102 : callable Yaco.prog 102 = true := by kernel_rfl
theorem c103 : callable Yaco.prog 103 = true := by kernel_rfl
theorem c104 : callable Yaco.prog 104 = true := by kernel_rfl
theorem c105 : callable Yaco.prog 105 = true := by kernel_rfl
theorem c106 : callable Yaco.prog 106 = true := by kernel_rfl
theorem c107 : callable Yaco.prog 107 = true := by kernel_rfl
theorem c108 : callable Yaco.prog 108 = true := by kernel_rfl
theorem c109 : callable Yaco.prog 109 = true := by kernel_rfl
theorem c11 : callable Yaco.prog 11 = true := by kernel_rfl
theorem c110 : callable Yaco.prog 110 = true := by kernel_rfl
theorem c111 : callable Yaco.prog 111 = true := by kernel_rfl
theorem c112 : callable Yaco.prog 112 = true := by kernel_rfl
theorem c113 : callable Yaco.prog 113 = true := by kernel_rfl
theorem c114 : callable Yaco.prog 114 = true := by kernel_rfl
theorem c115 : callable Yaco.prog 115 = true := by kernel_rfl
theorem c116 : callable Yaco.prog 116 = true := by kernel_rfl
theorem c117 : callable Yaco.prog 117 = true := by kernel_rfl
theorem c12 : callable Yaco.prog 12 = true := by kernel_rfl
theorem c13 : callable Yaco.prog 13 = true := by kernel_rfl
theorem c14 : callable Yaco.prog 14 = true := by kernel_rfl
theorem c15 : callable Yaco.prog 15 = true := by kernel_rfl
theorem c16 : callable Yaco.prog 16 = true := by kernel_rfl
theorem c17 : callable Yaco.prog 17 = true := by kernel_rfl
theorem c18 : callable Yaco.prog 18 = true := by kernel_rfl
theorem c19 : callable Yaco.prog 19 = true := by kernel_rfl
theorem c20 : callable Yaco.prog 20 = true := by kernel_rfl
theorem c21 : callable Yaco.prog 21 = true := by kernel_rfl
theorem c22 : callable Yaco.prog 22 = true := by kernel_rfl
theorem c23 : callable Yaco.prog 23 = true := by kernel_rfl
theorem c24 : callable Yaco.prog 24 = true := by kernel_rfl
theorem c25 : callable Yaco.prog 25 = true := by kernel_rfl
theorem c26 : callable Yaco.prog 26 = true := by kernel_rfl
theorem c27 : callable Yaco.prog 27 = true := by kernel_rfl
theorem c28 : callable Yaco.prog 28 = true := by kernel_rfl
theorem c29 : callable Yaco.prog 29 = true := by kernel_rfl
theorem c30 : callable Yaco.prog 30 = true := by kernel_rfl
theorem c31 : callable Yaco.prog 31 = true := by kernel_rfl
theorem c32 : callable Yaco.prog 32 = true := by kernel_rfl
theorem c33 : callable Yaco.prog 33 = true := by kernel_rfl
theorem c34 : callable Yaco.prog 34 = true := by kernel_rfl
theorem c35 : callable Yaco.prog 35 = true := by kernel_rfl
theorem c36 : callable Yaco.prog 36 = true := by kernel_rfl
theorem c37 : callable Yaco.prog 37 = true := by kernel_rfl
theorem c38 : callable Yaco.prog 38 = true := by kernel_rfl
theorem c39 : callable Yaco.prog 39 = true := by kernel_rfl
theorem c40 : callable Yaco.prog 40 = true := by kernel_rfl
theorem c41 : callable Yaco.prog 41 = true := by kernel_rfl
theorem c42 : callable Yaco.prog 42 = true := by kernel_rfl
theorem c43 : callable Yaco.prog 43 = true := by kernel_rfl
theorem c44 : callable Yaco.prog 44 = true := by kernel_rfl
theorem c45 : callable Yaco.prog 45 = true := by kernel_rfl
theorem c46 : callable Yaco.prog 46 = true := by kernel_rfl
theorem c47 : callable Yaco.prog 47 = true := by kernel_rfl
theorem c48 : callable Yaco.prog 48 = true := by kernel_rfl
theorem c49 : callable Yaco.prog 49 = true := by kernel_rfl
theorem c50 : callable Yaco.prog 50 = true := by kernel_rfl
theorem c51 : callable Yaco.prog 51 = true := by kernel_rfl
theorem c52 : callable Yaco.prog 52 = true := by kernel_rfl
theorem c53 : callable Yaco.prog 53 = true := by kernel_rfl
theorem c54 : callable Yaco.prog 54 = true := by kernel_rfl
theorem c55 : callable Yaco.prog 55 = true := by kernel_rfl
theorem c56 : callable Yaco.prog 56 = true := by kernel_rfl
theorem c57 : callable Yaco.prog 57 = true := by kernel_rfl
theorem c58 : callable Yaco.prog 58 = true := by kernel_rfl
theorem c59 : callable Yaco.prog 59 = true := by kernel_rfl
theorem c60 : callable Yaco.prog 60 = true := by kernel_rfl
theorem c61 : callable Yaco.prog 61 = true := by kernel_rfl
theorem c62 : callable Yaco.prog 62 = true := by kernel_rfl
theorem c63 : callable Yaco.prog 63 = true := by kernel_rfl
theorem c64 : callable Yaco.prog 64 = true := by kernel_rfl
theorem c65 : callable Yaco.prog 65 = true := by kernel_rfl
theorem c66 : callable Yaco.prog 66 = true := by kernel_rfl
theorem c67 : callable Yaco.prog 67 = true := by kernel_rfl
theorem c68 : callable Yaco.prog 68 = true := by kernel_rfl
theorem c69 : callable Yaco.prog 69 = true := by kernel_rfl
theorem c70 : callable Yaco.prog 70 = true := by kernel_rfl
theorem c71 : callable Yaco.prog 71 = true := by kernel_rfl
theorem c72 : callable Yaco.prog 72 = true := by kernel_rfl
theorem c73 : callable Yaco.prog 73 = true := by kernel_rfl
theorem c74 : callable Yaco.prog 74 = true := by kernel_rfl
theorem c75 : callable Yaco.prog 75 = true := by kernel_rfl
theorem c76 : callable Yaco.prog 76 = true := by kernel_rfl
theorem c77 : callable Yaco.prog 77 = true := by kernel_rfl
theorem c78 : callable Yaco.prog 78 = true := by kernel_rfl
theorem c79 : callable Yaco.prog 79 = true := by kernel_rfl
theorem c8 : callable Yaco.prog 8 = true := by kernel_rfl
theorem c80 : callable Yaco.prog 80 = true := by kernel_rfl
theorem c81 : callable Yaco.prog 81 = true := by kernel_rfl
theorem c82 : callable Yaco.prog 82 = true := by kernel_rfl
theorem c83 : callable Yaco.prog 83 = true := by kernel_rfl
theorem c84 : callable Yaco.prog 84 = true := by kernel_rfl
theorem c85 : callable Yaco.prog 85 = true := by kernel_rfl
theorem c86 : callable Yaco.prog 86 = true := by kernel_rfl
theorem c87 : callable Yaco.prog 87 = true := by kernel_rfl
theorem c88 : callable Yaco.prog 88 = true := by kernel_rfl
theorem c89 : callable Yaco.prog 89 = true := by kernel_rfl
theorem c9 : callable Yaco.prog 9 = true := by kernel_rfl
theorem c90 : callable Yaco.prog 90 = true := by kernel_rfl
theorem c91 : callable Yaco.prog 91 = true := by kernel_rfl
theorem c92 : callable Yaco.prog 92 = true := by kernel_rfl
theorem c93 : callable Yaco.prog 93 = true := by kernel_rfl
theorem c94 : callable Yaco.prog 94 = true := by kernel_rfl
theorem c95 : callable Yaco.prog 95 = true := by kernel_rfl
theorem c96 : callable Yaco.prog 96 = true := by kernel_rfl
theorem c97 : callable Yaco.prog 97 = true := by kernel_rfl
theorem c98 : callable Yaco.prog 98 = true := by kernel_rfl
theorem c99 : callable Yaco.prog 99 = true := by kernel_rfl
theorem e100 : elT Yaco.prog 100 = 102 := by kernel_rfl
theorem e106 : elT Yaco.prog 106 = 109 := by kernel_rfl
theorem e115 : elT Yaco.prog 115 = 117 := by kernel_rfl
theorem e126 : elT Yaco.prog 126 = 131 := by kernel_rfl
theorem e127 : elT Yaco.prog 127 = 133 := by kernel_rfl
theorem e141 : elT Yaco.prog 141 = 140 := by kernel_rfl
theorem e142 : elT Yaco.prog 142 = 144 := by kernel_rfl
theorem e159 : elT Yaco.prog 159 = 5 := by kernel_rfl
theorem e168 : elT Yaco.prog 168 = 4 := by kernel_rfl
theorem e174 : elT Yaco.prog 174 = 181 := by kernel_rfl
theorem e24 : elT Yaco.prog 24 = 113 := by kernel_rfl
theorem e25 : elT Yaco.prog 25 = 3 := by kernel_rfl
theorem e29 : elT Yaco.prog 29 = 53 := by kernel_rfl
theorem e34 : elT Yaco.prog 34 = 29 := by kernel_rfl
theorem e35 : elT Yaco.prog 35 = 25 := by kernel_rfl
theorem e36 : elT Yaco.prog 36 = 80 := by kernel_rfl
theorem e37 : elT Yaco.prog 37 = 58 := by kernel_rfl
theorem e38 : elT Yaco.prog 38 = 48 := by kernel_rfl
theorem e39 : elT Yaco.prog 39 = 85 := by kernel_rfl
theorem e40 : elT Yaco.prog 40 = 67 := by kernel_rfl
theorem e41 : elT Yaco.prog 41 = 89 := by kernel_rfl
theorem e46 : elT Yaco.prog 46 = 27 := by kernel_rfl
theorem e48 : elT Yaco.prog 48 = 31 := by kernel_rfl
theorem e56 : elT Yaco.prog 56 = 97 := by kernel_rfl
theorem e58 : elT Yaco.prog 58 = 84 := by kernel_rfl
theorem e67 : elT Yaco.prog 67 = 71 := by kernel_rfl
theorem e80 : elT Yaco.prog 80 = 82 := by kernel_rfl
theorem e85 : elT Yaco.prog 85 = 88 := by kernel_rfl
theorem e89 : elT Yaco.prog 89 = 9 := by kernel_rfl
theorem e93 : elT Yaco.prog 93 = 95 := by kernel_rfl
theorem e98 : elT Yaco.prog 98 = 104 := by kernel_rfl
theorem fl102 : flatT Yaco.prog 102 = true := by kernel_rfl
theorem fl104 : flatT Yaco.prog 104 = false := by kernel_rfl
theorem fl109 : flatT Yaco.prog 109 = true := by kernel_rfl
theorem fl113 : flatT Yaco.prog 113 = true := by kernel_rfl
theorem fl117 : flatT Yaco.prog 117 = true := by kernel_rfl
theorem fl124 : flatT Yaco.prog 124 = true := by kernel_rfl
theorem fl131 : flatT Yaco.prog 131 = true := by kernel_rfl
theorem fl133 : flatT Yaco.prog 133 = true := by kernel_rfl
theorem fl140 : flatT Yaco.prog 140 = true := by kernel_rfl
theorem fl144 : flatT Yaco.prog 144 = true := by kernel_rfl
theorem fl150 : flatT Yaco.prog 150 = true := by kernel_rfl
theorem fl181 : flatT Yaco.prog 181 = true := by kernel_rfl
theorem fl27 : flatT Yaco.prog 27 = true := by kernel_rfl
theorem fl31 : flatT Yaco.prog 31 = true := by kernel_rfl
theorem fl43 : flatT Yaco.prog 43 = true := by kernel_rfl
theorem fl53 : flatT Yaco.prog 53 = true := by kernel_rfl
theorem fl71 : flatT Yaco.prog 71 = true := by kernel_rfl
theorem fl82 : flatT Yaco.prog 82 = true := by kernel_rfl
theorem fl84 : flatT Yaco.prog 84 = true := by kernel_rfl
theorem fl88 : flatT Yaco.prog 88 = true := by kernel_rfl
theorem fl95 : flatT Yaco.prog 95 = true := by kernel_rfl
theorem fl97 : flatT Yaco.prog 97 = true := by kernel_rfl
theorem i100 : infoT Yaco.prog 100 = true := by kernel_rfl
theorem i102 : infoT Yaco.prog 102 = true := by kernel_rfl
theorem i104 : infoT Yaco.prog 104 = true := by kernel_rfl
theorem i109 : infoT Yaco.prog 109 = true := by kernel_rfl
theorem i113 : infoT Yaco.prog 113 = true := by kernel_rfl
theorem i115 : infoT Yaco.prog 115 = true := by kernel_rfl
theorem i117 : infoT Yaco.prog 117 = true := by kernel_rfl
theorem i131 : infoT Yaco.prog 131 = true := by kernel_rfl
theorem i133 : infoT Yaco.prog 133 = true := by kernel_rfl
theorem i140 : infoT Yaco.prog 140 = true := by kernel_rfl
theorem i144 : infoT Yaco.prog 144 = true := by kernel_rfl
theorem i181 : infoT Yaco.prog 181 = true := by kernel_rfl
theorem i24 : infoT Yaco.prog 24 = true := by kernel_rfl
theorem i25 : infoT Yaco.prog 25 = true := by kernel_rfl
theorem i27 : infoT Yaco.prog 27 = true := by kernel_rfl
theorem i29 : infoT Yaco.prog 29 = true := by kernel_rfl
theorem i3 : infoT Yaco.prog 3 = true := by kernel_rfl
theorem i31 : infoT Yaco.prog 31 = true := by kernel_rfl
theorem i34 : infoT Yaco.prog 34 = true := by kernel_rfl
theorem i35 : infoT Yaco.prog 35 = true := by kernel_rfl
theorem i36 : infoT Yaco.prog 36 = true := by kernel_rfl
theorem i37 : infoT Yaco.prog 37 = true := by kernel_rfl
theorem i38 : infoT Yaco.prog 38 = true := by kernel_rfl
theorem i39 : infoT Yaco.prog 39 = true := by kernel_rfl
theorem i4 : infoT Yaco.prog 4 = true := by kernel_rfl
theorem i40 : infoT Yaco.prog 40 = true := by kernel_rfl
theorem i41 : infoT Yaco.prog 41 = true := by kernel_rfl
theorem i43 : infoT Yaco.prog 43 = true := by kernel_rfl
theorem i48 : infoT Yaco.prog 48 = true := by kernel_rfl
theorem i5 : infoT Yaco.prog 5 = true := by kernel_rfl
theorem i53 : infoT Yaco.prog 53 = true := by kernel_rfl
theorem i58 : infoT Yaco.prog 58 = true := by kernel_rfl
theorem i67 : infoT Yaco.prog 67 = true := by kernel_rfl
theorem i71 : infoT Yaco.prog 71 = true := by kernel_rfl
theorem i80 : infoT Yaco.prog 80 = true := by kernel_rfl
theorem i82 : infoT Yaco.prog 82 = true := by kernel_rfl
theorem i84 : infoT Yaco.prog 84 = true := by kernel_rfl
theorem i85 : infoT Yaco.prog 85 = true := by kernel_rfl
theorem i88 : infoT Yaco.prog 88 = true := by kernel_rfl
theorem i89 : infoT Yaco.prog 89 = true := by kernel_rfl
theorem i9 : infoT Yaco.prog 9 = true := by kernel_rfl
theorem i93 : infoT Yaco.prog 93 = true := by kernel_rfl
theorem i97 : infoT Yaco.prog 97 = true := by kernel_rfl
theorem ie100 : infoT Yaco.prog (elT Yaco.prog 100) = true := by kernel_rfl
theorem ie106 : infoT Yaco.prog (elT Yaco.prog 106) = true := by kernel_rfl
theorem ie115 : infoT Yaco.prog (elT Yaco.prog 115) = true := by kernel_rfl
theorem ie126 : infoT Yaco.prog (elT Yaco.prog 126) = true := by kernel_rfl
theorem ie127 : infoT Yaco.prog (elT Yaco.prog 127) = true := by kernel_rfl
theorem ie141 : infoT Yaco.prog (elT Yaco.prog 141) = true := by kernel_rfl
theorem ie142 : infoT Yaco.prog (elT Yaco.prog 142) = true := by kernel_rfl
theorem ie159 : infoT Yaco.prog (elT Yaco.prog 159) = true := by kernel_rfl
theorem ie168 : infoT Yaco.prog (elT Yaco.prog 168) = true := by kernel_rfl
theorem ie174 : infoT Yaco.prog (elT Yaco.prog 174) = true := by kernel_rfl
theorem ie24 : infoT Yaco.prog (elT Yaco.prog 24) = true := by kernel_rfl
theorem ie25 : infoT Yaco.prog (elT Yaco.prog 25) = true := by kernel_rfl
theorem ie29 : infoT Yaco.prog (elT Yaco.prog 29) = true := by kernel_rfl
theorem ie34 : infoT Yaco.prog (elT Yaco.prog 34) = true := by kernel_rfl
theorem ie35 : infoT Yaco.prog (elT Yaco.prog 35) = true := by kernel_rfl
theorem ie36 : infoT Yaco.prog (elT Yaco.prog 36) = true := by kernel_rfl
theorem ie37 : infoT Yaco.prog (elT Yaco.prog 37) = true := by kernel_rfl
theorem ie38 : infoT Yaco.prog (elT Yaco.prog 38) = true := by kernel_rfl
theorem ie39 : infoT Yaco.prog (elT Yaco.prog 39) = true := by kernel_rfl
theorem ie40 : infoT Yaco.prog (elT Yaco.prog 40) = true := by kernel_rfl
theorem ie41 : infoT Yaco.prog (elT Yaco.prog 41) = true := by kernel_rfl
theorem ie46 : infoT Yaco.prog (elT Yaco.prog 46) = true := by kernel_rfl
theorem ie48 : infoT Yaco.prog (elT Yaco.prog 48) = true := by kernel_rfl
theorem ie56 : infoT Yaco.prog (elT Yaco.prog 56) = true := by kernel_rfl
theorem ie58 : infoT Yaco.prog (elT Yaco.prog 58) = true := by kernel_rfl
theorem ie67 : infoT Yaco.prog (elT Yaco.prog 67) = true := by kernel_rfl
theorem ie80 : infoT Yaco.prog (elT Yaco.prog 80) = true := by kernel_rfl
theorem ie85 : infoT Yaco.prog (elT Yaco.prog 85) = true := by kernel_rfl
theorem ie89 : infoT Yaco.prog (elT Yaco.prog 89) = true := by kernel_rfl
theorem ie93 : infoT Yaco.prog (elT Yaco.prog 93) = true := by kernel_rfl
theorem ie98 : infoT Yaco.prog (elT Yaco.prog 98) = true := by kernel_rfl
theorem k100 : kindT Yaco.prog 100 = 6 := by kernel_rfl
theorem k102 : kindT Yaco.prog 102 = 7 := by kernel_rfl
theorem k104 : kindT Yaco.prog 104 = 7 := by kernel_rfl
theorem k106 : kindT Yaco.prog 106 = 6 := by kernel_rfl
theorem k109 : kindT Yaco.prog 109 = 7 := by kernel_rfl
theorem k113 : kindT Yaco.prog 113 = 7 := by kernel_rfl
theorem k115 : kindT Yaco.prog 115 = 6 := by kernel_rfl
theorem k117 : kindT Yaco.prog 117 = 7 := by kernel_rfl
theorem k126 : kindT Yaco.prog 126 = 6 := by kernel_rfl
theorem k127 : kindT Yaco.prog 127 = 6 := by kernel_rfl
theorem k131 : kindT Yaco.prog 131 = 7 := by kernel_rfl
theorem k133 : kindT Yaco.prog 133 = 7 := by kernel_rfl
theorem k140 : kindT Yaco.prog 140 = 7 := by kernel_rfl
theorem k141 : kindT Yaco.prog 141 = 6 := by kernel_rfl
theorem k142 : kindT Yaco.prog 142 = 6 := by kernel_rfl
theorem k144 : kindT Yaco.prog 144 = 7 := by kernel_rfl
theorem k158 : kindT Yaco.prog 158 = 3 := by kernel_rfl
theorem k159 : kindT Yaco.prog 159 = 6 := by kernel_rfl
theorem k168 : kindT Yaco.prog 168 = 6 := by kernel_rfl
theorem k174 : kindT Yaco.prog 174 = 6 := by kernel_rfl
theorem k181 : kindT Yaco.prog 181 = 7 := by kernel_rfl
theorem k24 : kindT Yaco.prog 24 = 6 := by kernel_rfl
theorem k25 : kindT Yaco.prog 25 = 6 := by kernel_rfl
theorem k27 : kindT Yaco.prog 27 = 7 := by kernel_rfl
theorem k29 : kindT Yaco.prog 29 = 6 := by kernel_rfl
theorem k3 : kindT Yaco.prog 3 = 1 := by kernel_rfl
theorem k31 : kindT Yaco.prog 31 = 7 := by kernel_rfl
theorem k34 : kindT Yaco.prog 34 = 6 := by kernel_rfl
theorem k35 : kindT Yaco.prog 35 = 6 := by kernel_rfl
theorem k36 : kindT Yaco.prog 36 = 6 := by kernel_rfl
theorem k37 : kindT Yaco.prog 37 = 6 := by kernel_rfl
theorem k38 : kindT Yaco.prog 38 = 6 := by kernel_rfl
theorem k39 : kindT Yaco.prog 39 = 6 := by kernel_rfl
theorem k4 : kindT Yaco.prog 4 = 4 := by kernel_rfl
theorem k40 : kindT Yaco.prog 40 = 6 := by kernel_rfl
theorem k41 : kindT Yaco.prog 41 = 6 := by kernel_rfl
theorem k43 : kindT Yaco.prog 43 = 7 := by kernel_rfl
theorem k46 : kindT Yaco.prog 46 = 6 := by kernel_rfl
theorem k48 : kindT Yaco.prog 48 = 6 := by kernel_rfl
theorem k5 : kindT Yaco.prog 5 = 2 := by kernel_rfl
theorem k53 : kindT Yaco.prog 53 = 7 := by kernel_rfl
theorem k56 : kindT Yaco.prog 56 = 6 := by kernel_rfl
theorem k58 : kindT Yaco.prog 58 = 6 := by kernel_rfl
theorem k67 : kindT Yaco.prog 67 = 6 := by kernel_rfl
theorem k71 : kindT Yaco.prog 71 = 7 := by kernel_rfl
theorem k80 : kindT Yaco.prog 80 = 6 := by kernel_rfl
theorem k82 : kindT Yaco.prog 82 = 7 := by kernel_rfl
theorem k84 : kindT Yaco.prog 84 = 7 := by kernel_rfl
theorem k85 : kindT Yaco.prog 85 = 6 := by kernel_rfl
theorem k88 : kindT Yaco.prog 88 = 7 := by kernel_rfl
theorem k89 : kindT Yaco.prog 89 = 6 := by kernel_rfl
theorem k9 : kindT Yaco.prog 9 = 5 := by kernel_rfl
theorem k93 : kindT Yaco.prog 93 = 6 := by kernel_rfl
theorem k97 : kindT Yaco.prog 97 = 7 := by kernel_rfl
theorem k98 : kindT Yaco.prog 98 = 6 := by kernel_rfl
theorem n100 : oneT Yaco.prog 100 = true := by kernel_rfl
theorem n115 : oneT Yaco.prog 115 = true := by kernel_rfl
theorem n24 : oneT Yaco.prog 24 = true := by kernel_rfl
theorem n25 : oneT Yaco.prog 25 = true := by kernel_rfl
theorem n29 : oneT Yaco.prog 29 = true := by kernel_rfl
theorem n3 : oneT Yaco.prog 3 = true := by kernel_rfl
theorem n34 : oneT Yaco.prog 34 = true := by kernel_rfl
theorem n35 : oneT Yaco.prog 35 = true := by kernel_rfl
theorem n36 : oneT Yaco.prog 36 = true := by kernel_rfl
theorem n37 : oneT Yaco.prog 37 = true := by kernel_rfl
theorem n38 : oneT Yaco.prog 38 = true := by kernel_rfl
theorem n39 : oneT Yaco.prog 39 = true := by kernel_rfl
theorem n4 : oneT Yaco.prog 4 = true := by kernel_rfl
theorem n40 : oneT Yaco.prog 40 = true := by kernel_rfl
theorem n41 : oneT Yaco.prog 41 = true := by kernel_rfl
theorem n48 : oneT Yaco.prog 48 = true := by kernel_rfl
theorem n5 : oneT Yaco.prog 5 = true := by kernel_rfl
theorem n58 : oneT Yaco.prog 58 = true := by kernel_rfl
theorem n67 : oneT Yaco.prog 67 = true := by kernel_rfl
theorem n80 : oneT Yaco.prog 80 = true := by kernel_rfl
theorem n85 : oneT Yaco.prog 85 = true := by kernel_rfl
theorem n89 : oneT Yaco.prog 89 = true := by kernel_rfl
theorem n9 : oneT Yaco.prog 9 = true := by kernel_rfl
theorem n93 : oneT Yaco.prog 93 = true := by kernel_rfl
theorem o102_0 : offT Yaco.prog 102 0 = some 0 := by kernel_rfl
theorem o102_1 : offT Yaco.prog 102 1 = some 1 := by kernel_rfl
theorem o102_2 : offT Yaco.prog 102 2 = some 2 := by kernel_rfl
theorem o104_0 : offT Yaco.prog 104 0 = some 0 := by kernel_rfl
theorem o104_1 : offT Yaco.prog 104 1 = some 1 := by kernel_rfl
theorem o104_2 : offT Yaco.prog 104 2 = some 4 := by kernel_rfl
theorem o109_0 : offT Yaco.prog 109 0 = some 0 := by kernel_rfl
theorem o109_1 : offT Yaco.prog 109 1 = some 1 := by kernel_rfl
theorem o109_2 : offT Yaco.prog 109 2 = some 2 := by kernel_rfl
theorem o117_0 : offT Yaco.prog 117 0 = some 0 := by kernel_rfl
theorem o117_1 : offT Yaco.prog 117 1 = some 1 := by kernel_rfl
theorem o117_2 : offT Yaco.prog 117 2 = some 2 := by kernel_rfl
theorem o124_0 : offT Yaco.prog 124 0 = some 0 := by kernel_rfl
theorem o124_1 : offT Yaco.prog 124 1 = some 1 := by kernel_rfl
theorem o124_2 : offT Yaco.prog 124 2 = some 2 := by kernel_rfl
theorem o124_3 : offT Yaco.prog 124 3 = some 3 := by kernel_rfl
theorem o131_0 : offT Yaco.prog 131 0 = some 0 := by kernel_rfl
theorem o131_1 : offT Yaco.prog 131 1 = some 1 := by kernel_rfl
theorem o131_2 : offT Yaco.prog 131 2 = some 2 := by kernel_rfl
theorem o133_0 : offT Yaco.prog 133 0 = some 0 := by kernel_rfl
theorem o133_1 : offT Yaco.prog 133 1 = some 1 := by kernel_rfl
theorem o140_0 : offT Yaco.prog 140 0 = some 0 := by kernel_rfl
theorem o140_1 : offT Yaco.prog 140 1 = some 1 := by kernel_rfl
theorem o140_2 : offT Yaco.prog 140 2 = some 2 := by kernel_rfl
theorem o144_0 : offT Yaco.prog 144 0 = some 0 := by kernel_rfl
theorem o144_1 : offT Yaco.prog 144 1 = some 1 := by kernel_rfl
theorem o144_3 : offT Yaco.prog 144 3 = some 3 := by kernel_rfl
theorem o150_0 : offT Yaco.prog 150 0 = some 0 := by kernel_rfl
theorem o150_1 : offT Yaco.prog 150 1 = some 1 := by kernel_rfl
theorem o150_2 : offT Yaco.prog 150 2 = some 2 := by kernel_rfl
theorem o181_0 : offT Yaco.prog 181 0 = some 0 := by kernel_rfl
theorem o181_1 : offT Yaco.prog 181 1 = some 1 := by kernel_rfl
theorem o181_2 : offT Yaco.prog 181 2 = some 2 := by kernel_rfl
theorem o27_0 : offT Yaco.prog 27 0 = some 0 := by kernel_rfl
theorem o27_1 : offT Yaco.prog 27 1 = some 1 := by kernel_rfl
theorem o27_2 : offT Yaco.prog 27 2 = some 2 := by kernel_rfl
theorem o27_3 : offT Yaco.prog 27 3 = some 3 := by kernel_rfl
theorem o27_4 : offT Yaco.prog 27 4 = some 4 := by kernel_rfl
theorem o31_0 : offT Yaco.prog 31 0 = some 0 := by kernel_rfl
theorem o31_1 : offT Yaco.prog 31 1 = some 1 := by kernel_rfl
theorem o31_2 : offT Yaco.prog 31 2 = some 2 := by kernel_rfl
theorem o31_3 : offT Yaco.prog 31 3 = some 3 := by kernel_rfl
theorem o31_4 : offT Yaco.prog 31 4 = some 4 := by kernel_rfl
theorem o43_0 : offT Yaco.prog 43 0 = some 0 := by kernel_rfl
theorem o43_1 : offT Yaco.prog 43 1 = some 1 := by kernel_rfl
theorem o43_2 : offT Yaco.prog 43 2 = some 2 := by kernel_rfl
theorem o43_3 : offT Yaco.prog 43 3 = some 3 := by kernel_rfl
theorem o43_4 : offT Yaco.prog 43 4 = some 4 := by kernel_rfl
theorem o43_5 : offT Yaco.prog 43 5 = some 5 := by kernel_rfl
theorem o43_6 : offT Yaco.prog 43 6 = some 6 := by kernel_rfl
theorem o43_7 : offT Yaco.prog 43 7 = some 7 := by kernel_rfl
theorem o53_0 : offT Yaco.prog 53 0 = some 0 := by kernel_rfl
theorem o53_1 : offT Yaco.prog 53 1 = some 1 := by kernel_rfl
theorem o53_2 : offT Yaco.prog 53 2 = some 2 := by kernel_rfl
theorem o53_3 : offT Yaco.prog 53 3 = some 3 := by kernel_rfl
theorem o71_0 : offT Yaco.prog 71 0 = some 0 := by kernel_rfl
theorem o71_1 : offT Yaco.prog 71 1 = some 1 := by kernel_rfl
theorem o71_2 : offT Yaco.prog 71 2 = some 2 := by kernel_rfl
theorem o71_3 : offT Yaco.prog 71 3 = some 3 := by kernel_rfl
theorem o82_0 : offT Yaco.prog 82 0 = some 0 := by kernel_rfl
theorem o84_0 : offT Yaco.prog 84 0 = some 0 := by kernel_rfl
theorem o84_1 : offT Yaco.prog 84 1 = some 1 := by kernel_rfl
theorem o84_2 : offT Yaco.prog 84 2 = some 2 := by kernel_rfl
theorem o84_3 : offT Yaco.prog 84 3 = some 3 := by kernel_rfl
theorem o84_4 : offT Yaco.prog 84 4 = some 4 := by kernel_rfl
theorem o88_0 : offT Yaco.prog 88 0 = some 0 := by kernel_rfl
theorem o95_0 : offT Yaco.prog 95 0 = some 0 := by kernel_rfl
theorem o97_0 : offT Yaco.prog 97 0 = some 0 := by kernel_rfl
theorem o97_1 : offT Yaco.prog 97 1 = some 1 := by kernel_rfl
theorem o97_2 : offT Yaco.prog 97 2 = some 2 := by kernel_rfl
theorem o97_3 : offT Yaco.prog 97 3 = some 3 := by kernel_rfl
theorem o97_4 : offT Yaco.prog 97 4 = some 4 := by kernel_rfl
theorem s100 : szT Yaco.prog 100 = 1 := by kernel_rfl
theorem s102 : szT Yaco.prog 102 = 3 := by kernel_rfl
theorem s104 : szT Yaco.prog 104 = 5 := by kernel_rfl
theorem s109 : szT Yaco.prog 109 = 3 := by kernel_rfl
theorem s113 : szT Yaco.prog 113 = 4 := by kernel_rfl
theorem s115 : szT Yaco.prog 115 = 1 := by kernel_rfl
theorem s117 : szT Yaco.prog 117 = 3 := by kernel_rfl
theorem s131 : szT Yaco.prog 131 = 3 := by kernel_rfl
theorem s133 : szT Yaco.prog 133 = 2 := by kernel_rfl
theorem s140 : szT Yaco.prog 140 = 3 := by kernel_rfl
theorem s144 : szT Yaco.prog 144 = 4 := by kernel_rfl
theorem s181 : szT Yaco.prog 181 = 3 := by kernel_rfl
theorem s24 : szT Yaco.prog 24 = 1 := by kernel_rfl
theorem s25 : szT Yaco.prog 25 = 1 := by kernel_rfl
theorem s27 : szT Yaco.prog 27 = 5 := by kernel_rfl
theorem s29 : szT Yaco.prog 29 = 1 := by kernel_rfl
theorem s3 : szT Yaco.prog 3 = 1 := by kernel_rfl
theorem s31 : szT Yaco.prog 31 = 5 := by kernel_rfl
theorem s34 : szT Yaco.prog 34 = 1 := by kernel_rfl
theorem s35 : szT Yaco.prog 35 = 1 := by kernel_rfl
theorem s36 : szT Yaco.prog 36 = 1 := by kernel_rfl
theorem s37 : szT Yaco.prog 37 = 1 := by kernel_rfl
theorem s38 : szT Yaco.prog 38 = 1 := by kernel_rfl
theorem s39 : szT Yaco.prog 39 = 1 := by kernel_rfl
theorem s4 : szT Yaco.prog 4 = 1 := by kernel_rfl
theorem s40 : szT Yaco.prog 40 = 1 := by kernel_rfl
theorem s41 : szT Yaco.prog 41 = 1 := by kernel_rfl
theorem s43 : szT Yaco.prog 43 = 8 := by kernel_rfl
theorem s48 : szT Yaco.prog 48 = 1 := by kernel_rfl
theorem s5 : szT Yaco.prog 5 = 1 := by kernel_rfl
theorem s53 : szT Yaco.prog 53 = 4 := by kernel_rfl
theorem s58 : szT Yaco.prog 58 = 1 := by kernel_rfl
theorem s67 : szT Yaco.prog 67 = 1 := by kernel_rfl
theorem s71 : szT Yaco.prog 71 = 4 := by kernel_rfl
theorem s80 : szT Yaco.prog 80 = 1 := by kernel_rfl
theorem s82 : szT Yaco.prog 82 = 1 := by kernel_rfl
theorem s84 : szT Yaco.prog 84 = 5 := by kernel_rfl
theorem s85 : szT Yaco.prog 85 = 1 := by kernel_rfl
theorem s88 : szT Yaco.prog 88 = 2 := by kernel_rfl
theorem s89 : szT Yaco.prog 89 = 1 := by kernel_rfl
theorem s9 : szT Yaco.prog 9 = 1 := by kernel_rfl
theorem s93 : szT Yaco.prog 93 = 1 := by kernel_rfl
theorem s97 : szT Yaco.prog 97 = 5 := by kernel_rfl
theorem se100 : szT Yaco.prog (elT Yaco.prog 100) = 3 := by kernel_rfl
theorem se106 : szT Yaco.prog (elT Yaco.prog 106) = 3 := by kernel_rfl
theorem se115 : szT Yaco.prog (elT Yaco.prog 115) = 3 := by kernel_rfl
theorem se126 : szT Yaco.prog (elT Yaco.prog 126) = 3 := by kernel_rfl
theorem se127 : szT Yaco.prog (elT Yaco.prog 127) = 2 := by kernel_rfl
theorem se141 : szT Yaco.prog (elT Yaco.prog 141) = 3 := by kernel_rfl
theorem se142 : szT Yaco.prog (elT Yaco.prog 142) = 4 := by kernel_rfl
theorem se159 : szT Yaco.prog (elT Yaco.prog 159) = 1 := by kernel_rfl
theorem se168 : szT Yaco.prog (elT Yaco.prog 168) = 1 := by kernel_rfl
theorem se174 : szT Yaco.prog (elT Yaco.prog 174) = 3 := by kernel_rfl
theorem se24 : szT Yaco.prog (elT Yaco.prog 24) = 4 := by kernel_rfl
theorem se25 : szT Yaco.prog (elT Yaco.prog 25) = 1 := by kernel_rfl
theorem se29 : szT Yaco.prog (elT Yaco.prog 29) = 4 := by kernel_rfl
theorem se34 : szT Yaco.prog (elT Yaco.prog 34) = 1 := by kernel_rfl
theorem se35 : szT Yaco.prog (elT Yaco.prog 35) = 1 := by kernel_rfl
theorem se36 : szT Yaco.prog (elT Yaco.prog 36) = 1 := by kernel_rfl
theorem se37 : szT Yaco.prog (elT Yaco.prog 37) = 1 := by kernel_rfl
theorem se38 : szT Yaco.prog (elT Yaco.prog 38) = 1 := by kernel_rfl
theorem se39 : szT Yaco.prog (elT Yaco.prog 39) = 1 := by kernel_rfl
theorem se40 : szT Yaco.prog (elT Yaco.prog 40) = 1 := by kernel_rfl
theorem se41 : szT Yaco.prog (elT Yaco.prog 41) = 1 := by kernel_rfl
theorem se46 : szT Yaco.prog (elT Yaco.prog 46) = 5 := by kernel_rfl
theorem se48 : szT Yaco.prog (elT Yaco.prog 48) = 5 := by kernel_rfl
theorem se56 : szT Yaco.prog (elT Yaco.prog 56) = 5 := by kernel_rfl
theorem se58 : szT Yaco.prog (elT Yaco.prog 58) = 5 := by kernel_rfl
theorem se67 : szT Yaco.prog (elT Yaco.prog 67) = 4 := by kernel_rfl
theorem se80 : szT Yaco.prog (elT Yaco.prog 80) = 1 := by kernel_rfl
theorem se85 : szT Yaco.prog (elT Yaco.prog 85) = 2 := by kernel_rfl
theorem se89 : szT Yaco.prog (elT Yaco.prog 89) = 1 := by kernel_rfl
theorem se93 : szT Yaco.prog (elT Yaco.prog 93) = 1 := by kernel_rfl
theorem se98 : szT Yaco.prog (elT Yaco.prog 98) = 5 := by kernel_rfl
theorem u158 : (Yaco.prog.underlying 158).isSome = true := by kernel_rfl
theorem u3 : (Yaco.prog.underlying 3).isSome = true := by kernel_rfl
theorem u5 : (Yaco.prog.underlying 5).isSome = true := by kernel_rfl
theorem z102 : zeroT Yaco.prog 102 = some [.int .i64 0, .int .i64 0, .slice none 0 0] := by kernel_rfl
theorem z104 : zeroT Yaco.prog 104 = some [.slice none 0 0, .int .i64 0, .int .i64 0, .slice none 0 0, .int .i64 0] := by kernel_rfl
theorem z109 : zeroT Yaco.prog 109 = some [.slice none 0 0, .slice none 0 0, .int .i64 0] := by kernel_rfl
theorem z113 : zeroT Yaco.prog 113 = some [.int .i64 0, .string ⟨#[]⟩, .int .i64 0, .int .i64 0] := by kernel_rfl
theorem z117 : zeroT Yaco.prog 117 = some [.int .i64 0, .string ⟨#[]⟩, .slice none 0 0] := by kernel_rfl
theorem z124 : zeroT Yaco.prog 124 = some [.slice none 0 0, .int .i64 0, .slice none 0 0, .bool false] := by kernel_rfl
theorem z131 : zeroT Yaco.prog 131 = some [.slice none 0 0, .int .i64 0, .int .i64 0] := by kernel_rfl
theorem z133 : zeroT Yaco.prog 133 = some [.int .i64 0, .bool false] := by kernel_rfl
theorem z140 : zeroT Yaco.prog 140 = some [.slice none 0 0, .int .i64 0, .int .i64 0] := by kernel_rfl
theorem z144 : zeroT Yaco.prog 144 = some [.int .i64 0, .bool false, .int .i64 0, .int .i64 0] := by kernel_rfl
theorem z150 : zeroT Yaco.prog 150 = some [.slice none 0 0, .int .i64 0, .bool false] := by kernel_rfl
theorem z181 : zeroT Yaco.prog 181 = some [.bool false, .slice none 0 0, .int .i64 0] := by kernel_rfl
theorem z27 : zeroT Yaco.prog 27 = some [.int .i64 0, .slice none 0 0, .int .i64 0, .slice none 0 0, .int .i64 0] := by kernel_rfl
theorem z31 : zeroT Yaco.prog 31 = some [.int .i64 0, .slice none 0 0, .int .i64 0, .slice none 0 0, .int .i64 0] := by kernel_rfl
theorem z43 : zeroT Yaco.prog 43 = some [.slice none 0 0, .slice none 0 0, .slice none 0 0, .slice none 0 0, .slice none 0 0, .slice none 0 0, .slice none 0 0, .slice none 0 0] := by kernel_rfl
theorem z53 : zeroT Yaco.prog 53 = some [.int .i64 0, .string ⟨#[]⟩, .int .i64 0, .int .i64 0] := by kernel_rfl
theorem z71 : zeroT Yaco.prog 71 = some [.int .i64 0, .string ⟨#[]⟩, .int .i64 0, .int .i64 0] := by kernel_rfl
theorem z82 : zeroT Yaco.prog 82 = some [.slice none 0 0] := by kernel_rfl
theorem z84 : zeroT Yaco.prog 84 = some [.bool false, .int .i64 0, .int .i64 0, .slice none 0 0, .slice none 0 0] := by kernel_rfl
theorem z88 : zeroT Yaco.prog 88 = some [.string ⟨#[]⟩, .slice none 0 0] := by kernel_rfl
theorem z95 : zeroT Yaco.prog 95 = some [.slice none 0 0] := by kernel_rfl
theorem z97 : zeroT Yaco.prog 97 = some [.bool false, .int .i64 0, .int .i64 0, .slice none 0 0, .slice none 0 0] := by kernel_rfl
theorem ze100 : zeroT Yaco.prog (elT Yaco.prog 100) = some [.int .i64 0, .int .i64 0, .slice none 0 0] := by kernel_rfl
theorem ze106 : zeroT Yaco.prog (elT Yaco.prog 106) = some [.slice none 0 0, .slice none 0 0, .int .i64 0] := by kernel_rfl
theorem ze115 : zeroT Yaco.prog (elT Yaco.prog 115) = some [.int .i64 0, .string ⟨#[]⟩, .slice none 0 0] := by kernel_rfl
theorem ze126 : zeroT Yaco.prog (elT Yaco.prog 126) = some [.slice none 0 0, .int .i64 0, .int .i64 0] := by kernel_rfl
theorem ze127 : zeroT Yaco.prog (elT Yaco.prog 127) = some [.int .i64 0, .bool false] := by kernel_rfl
theorem ze141 : zeroT Yaco.prog (elT Yaco.prog 141) = some [.slice none 0 0, .int .i64 0, .int .i64 0] := by kernel_rfl
theorem ze142 : zeroT Yaco.prog (elT Yaco.prog 142) = some [.int .i64 0, .bool false, .int .i64 0, .int .i64 0] := by kernel_rfl
theorem ze159 : zeroT Yaco.prog (elT Yaco.prog 159) = some [.int .u8 0] := by kernel_rfl
theorem ze168 : zeroT Yaco.prog (elT Yaco.prog 168) = some [.bool false] := by kernel_rfl
theorem ze174 : zeroT Yaco.prog (elT Yaco.prog 174) = some [.bool false, .slice none 0 0, .int .i64 0] := by kernel_rfl
theorem ze24 : zeroT Yaco.prog (elT Yaco.prog 24) = some [.int .i64 0, .string ⟨#[]⟩, .int .i64 0, .int .i64 0] := by kernel_rfl
theorem ze25 : zeroT Yaco.prog (elT Yaco.prog 25) = some [.int .i64 0] := by kernel_rfl
theorem ze29 : zeroT Yaco.prog (elT Yaco.prog 29) = some [.int .i64 0, .string ⟨#[]⟩, .int .i64 0, .int .i64 0] := by kernel_rfl
theorem ze34 : zeroT Yaco.prog (elT Yaco.prog 34) = some [.slice none 0 0] := by kernel_rfl
theorem ze35 : zeroT Yaco.prog (elT Yaco.prog 35) = some [.slice none 0 0] := by kernel_rfl
theorem ze36 : zeroT Yaco.prog (elT Yaco.prog 36) = some [.slice none 0 0] := by kernel_rfl
theorem ze37 : zeroT Yaco.prog (elT Yaco.prog 37) = some [.slice none 0 0] := by kernel_rfl
theorem ze38 : zeroT Yaco.prog (elT Yaco.prog 38) = some [.slice none 0 0] := by kernel_rfl
theorem ze46 : zeroT Yaco.prog (elT Yaco.prog 46) = some [.int .i64 0, .slice none 0 0, .int .i64 0, .slice none 0 0, .int .i64 0] := by kernel_rfl
theorem ze48 : zeroT Yaco.prog (elT Yaco.prog 48) = some [.int .i64 0, .slice none 0 0, .int .i64 0, .slice none 0 0, .int .i64 0] := by kernel_rfl
theorem ze56 : zeroT Yaco.prog (elT Yaco.prog 56) = some [.bool false, .int .i64 0, .int .i64 0, .slice none 0 0, .slice none 0 0] := by kernel_rfl
theorem ze58 : zeroT Yaco.prog (elT Yaco.prog 58) = some [.bool false, .int .i64 0, .int .i64 0, .slice none 0 0, .slice none 0 0] := by kernel_rfl
theorem ze67 : zeroT Yaco.prog (elT Yaco.prog 67) = some [.int .i64 0, .string ⟨#[]⟩, .int .i64 0, .int .i64 0] := by kernel_rfl
theorem ze80 : zeroT Yaco.prog (elT Yaco.prog 80) = some [.slice none 0 0] := by kernel_rfl
theorem ze89 : zeroT Yaco.prog (elT Yaco.prog 89) = some [.string ⟨#[]⟩] := by kernel_rfl
theorem ze93 : zeroT Yaco.prog (elT Yaco.prog 93) = some [.slice none 0 0] := by kernel_rfl
theorem ze98 : zeroT Yaco.prog (elT Yaco.prog 98) = some [.slice none 0 0, .int .i64 0, .int .i64 0, .slice none 0 0, .int .i64 0] := by kernel_rfl
theorem ok3 : okCode Yaco.f3.ntmps (Yaco.f3.body.getD .skip) = true := by kernel_rfl
theorem ent3 {args : Array Value} {w : World} {R : Value → World → Prop} (hn : args.size ≤ 19) (h : VC Yaco.prog (Yaco.f3.body.getD .skip) (retK Yaco.prog Yaco.f3 R) (initEnv args) w) : CallsV Yaco.prog 3 args w R :=
  callsV_of_W hmix Yaco.func3 rfl ok3 hn h.out
theorem ok4 : okCode Yaco.f4.ntmps (Yaco.f4.body.getD .skip) = true := by kernel_rfl
theorem ent4 {args : Array Value} {w : World} {R : Value → World → Prop} (hn : args.size ≤ 41) (h : VC Yaco.prog (Yaco.f4.body.getD .skip) (retK Yaco.prog Yaco.f4 R) (initEnv args) w) : CallsV Yaco.prog 4 args w R :=
  callsV_of_W hmix Yaco.func4 rfl ok4 hn h.out
theorem ok5 : okCode Yaco.f5.ntmps (Yaco.f5.body.getD .skip) = true := by kernel_rfl
theorem ent5 {args : Array Value} {w : World} {R : Value → World → Prop} (hn : args.size ≤ 41) (h : VC Yaco.prog (Yaco.f5.body.getD .skip) (retK Yaco.prog Yaco.f5 R) (initEnv args) w) : CallsV Yaco.prog 5 args w R :=
  callsV_of_W hmix Yaco.func5 rfl ok5 hn h.out
theorem ok6 : okCode Yaco.f6.ntmps (Yaco.f6.body.getD .skip) = true := by kernel_rfl
theorem ent6 {args : Array Value} {w : World} {R : Value → World → Prop} (hn : args.size ≤ 138) (h : VC Yaco.prog (Yaco.f6.body.getD .skip) (retK Yaco.prog Yaco.f6 R) (initEnv args) w) : CallsV Yaco.prog 6 args w R :=
  callsV_of_W hmix Yaco.func6 rfl ok6 hn h.out
theorem ok7 : okCode Yaco.f7.ntmps (Yaco.f7.body.getD .skip) = true := by kernel_rfl
theorem ent7 {args : Array Value} {w : World} {R : Value → World → Prop} (hn : args.size ≤ 41) (h : VC Yaco.prog (Yaco.f7.body.getD .skip) (retK Yaco.prog Yaco.f7 R) (initEnv args) w) : CallsV Yaco.prog 7 args w R :=
  callsV_of_W hmix Yaco.func7 rfl ok7 hn h.out
theorem ok8 : okCode Yaco.f8.ntmps (Yaco.f8.body.getD .skip) = true := by kernel_rfl
theorem ent8 {args : Array Value} {w : World} {R : Value → World → Prop} (hn : args.size ≤ 13) (h : VC Yaco.prog (Yaco.f8.body.getD .skip) (retK Yaco.prog Yaco.f8 R) (initEnv args) w) : CallsV Yaco.prog 8 args w R :=
  callsV_of_W hmix Yaco.func8 rfl ok8 hn h.out
theorem ok9 : okCode Yaco.f9.ntmps (Yaco.f9.body.getD .skip) = true := by kernel_rfl
theorem ent9 {args : Array Value} {w : World} {R : Value → World → Prop} (hn : args.size ≤ 38) (h : VC Yaco.prog (Yaco.f9.body.getD .skip) (retK Yaco.prog Yaco.f9 R) (initEnv args) w) : CallsV Yaco.prog 9 args w R :=
  callsV_of_W hmix Yaco.func9 rfl ok9 hn h.out
theorem ok10 : okCode Yaco.f10.ntmps (Yaco.f10.body.getD .skip) = true := by kernel_rfl
theorem ent10 {args : Array Value} {w : World} {R : Value → World → Prop} (hn : args.size ≤ 16) (h : VC Yaco.prog (Yaco.f10.body.getD .skip) (retK Yaco.prog Yaco.f10 R) (initEnv args) w) : CallsV Yaco.prog 10 args w R :=
  callsV_of_W hmix Yaco.func10 rfl ok10 hn h.out
theorem ok11 : okCode Yaco.f11.ntmps (Yaco.f11.body.getD .skip) = true := by kernel_rfl
theorem ent11 {args : Array Value} {w : World} {R : Value → World → Prop} (hn : args.size ≤ 152) (h : VC Yaco.prog (Yaco.f11.body.getD .skip) (retK Yaco.prog Yaco.f11 R) (initEnv args) w) : CallsV Yaco.prog 11 args w R :=
  callsV_of_W hmix Yaco.func11 rfl ok11 hn h.out
theorem ok12 : okCode Yaco.f12.ntmps (Yaco.f12.body.getD .skip) = true := by kernel_rfl
theorem ent12 {args : Array Value} {w : World} {R : Value → World → Prop} (hn : args.size ≤ 162) (h : VC Yaco.prog (Yaco.f12.body.getD .skip) (retK Yaco.prog Yaco.f12 R) (initEnv args) w) : CallsV Yaco.prog 12 args w R :=
  callsV_of_W hmix Yaco.func12 rfl ok12 hn h.out
theorem ok13 : okCode Yaco.f13.ntmps (Yaco.f13.body.getD .skip) = true := by kernel_rfl
theorem ent13 {args : Array Value} {w : World} {R : Value → World → Prop} (hn : args.size ≤ 38) (h : VC Yaco.prog (Yaco.f13.body.getD .skip) (retK Yaco.prog Yaco.f13 R) (initEnv args) w) : CallsV Yaco.prog 13 args w R :=
  callsV_of_W hmix Yaco.func13 rfl ok13 hn h.out
theorem ok14 : okCode Yaco.f14.ntmps (Yaco.f14.body.getD .skip) = true := by kernel_rfl
theorem ent14 {args : Array Value} {w : World} {R : Value → World → Prop} (hn : args.size ≤ 26) (h : VC Yaco.prog (Yaco.f14.body.getD .skip) (retK Yaco.prog Yaco.f14 R) (initEnv args) w) : CallsV Yaco.prog 14 args w R :=
  callsV_of_W hmix Yaco.func14 rfl ok14 hn h.out
theorem ok15 : okCode Yaco.f15.ntmps (Yaco.f15.body.getD .skip) = true := by kernel_rfl
theorem ent15 {args : Array Value} {w : World} {R : Value → World → Prop} (hn : args.size ≤ 639) (h : VC Yaco.prog (Yaco.f15.body.getD .skip) (retK Yaco.prog Yaco.f15 R) (initEnv args) w) : CallsV Yaco.prog 15 args w R :=
  callsV_of_W hmix Yaco.func15 rfl ok15 hn h.out
theorem ok16 : okCode Yaco.f16.ntmps (Yaco.f16.body.getD .skip) = true := by kernel_rfl
theorem ent16 {args : Array Value} {w : World} {R : Value → World → Prop} (hn : args.size ≤ 21) (h : VC Yaco.prog (Yaco.f16.body.getD .skip) (retK Yaco.prog Yaco.f16 R) (initEnv args) w) : CallsV Yaco.prog 16 args w R :=
  callsV_of_W hmix Yaco.func16 rfl ok16 hn h.out
theorem ok17 : okCode Yaco.f17.ntmps (Yaco.f17.body.getD .skip) = true := by kernel_rfl
theorem ent17 {args : Array Value} {w : World} {R : Value → World → Prop} (hn : args.size ≤ 40) (h : VC Yaco.prog (Yaco.f17.body.getD .skip) (retK Yaco.prog Yaco.f17 R) (initEnv args) w) : CallsV Yaco.prog 17 args w R :=
  callsV_of_W hmix Yaco.func17 rfl ok17 hn h.out
theorem ok18 : okCode Yaco.f18.ntmps (Yaco.f18.body.getD .skip) = true := by kernel_rfl
theorem ent18 {args : Array Value} {w : World} {R : Value → World → Prop} (hn : args.size ≤ 51) (h : VC Yaco.prog (Yaco.f18.body.getD .skip) (retK Yaco.prog Yaco.f18 R) (initEnv args) w) : CallsV Yaco.prog 18 args w R :=
  callsV_of_W hmix Yaco.func18 rfl ok18 hn h.out
theorem ok19 : okCode Yaco.f19.ntmps (Yaco.f19.body.getD .skip) = true := by kernel_rfl
theorem ent19 {args : Array Value} {w : World} {R : Value → World → Prop} (hn : args.size ≤ 27) (h : VC Yaco.prog (Yaco.f19.body.getD .skip) (retK Yaco.prog Yaco.f19 R) (initEnv args) w) : CallsV Yaco.prog 19 args w R :=
  callsV_of_W hmix Yaco.func19 rfl ok19 hn h.out
theorem ok20 : okCode Yaco.f20.ntmps (Yaco.f20.body.getD .skip) = true := by kernel_rfl
theorem ent20 {args : Array Value} {w : World} {R : Value → World → Prop} (hn : args.size ≤ 27) (h : VC Yaco.prog (Yaco.f20.body.getD .skip) (retK Yaco.prog Yaco.f20 R) (initEnv args) w) : CallsV Yaco.prog 20 args w R :=
  callsV_of_W hmix Yaco.func20 rfl ok20 hn h.out
theorem ok21 : okCode Yaco.f21.ntmps (Yaco.f21.body.getD .skip) = true := by kernel_rfl
theorem ent21 {args : Array Value} {w : World} {R : Value → World → Prop} (hn : args.size ≤ 79) (h : VC Yaco.prog (Yaco.f21.body.getD .skip) (retK Yaco.prog Yaco.f21 R) (initEnv args) w) : CallsV Yaco.prog 21 args w R :=
  callsV_of_W hmix Yaco.func21 rfl ok21 hn h.out
theorem ok22 : okCode Yaco.f22.ntmps (Yaco.f22.body.getD .skip) = true := by kernel_rfl
theorem ent22 {args : Array Value} {w : World} {R : Value → World → Prop} (hn : args.size ≤ 55) (h : VC Yaco.prog (Yaco.f22.body.getD .skip) (retK Yaco.prog Yaco.f22 R) (initEnv args) w) : CallsV Yaco.prog 22 args w R :=
  callsV_of_W hmix Yaco.func22 rfl ok22 hn h.out
theorem ok23 : okCode Yaco.f23.ntmps (Yaco.f23.body.getD .skip) = true := by kernel_rfl
theorem ent23 {args : Array Value} {w : World} {R : Value → World → Prop} (hn : args.size ≤ 66) (h : VC Yaco.prog (Yaco.f23.body.getD .skip) (retK Yaco.prog Yaco.f23 R) (initEnv args) w) : CallsV Yaco.prog 23 args w R :=
  callsV_of_W hmix Yaco.func23 rfl ok23 hn h.out
theorem ok24 : okCode Yaco.f24.ntmps (Yaco.f24.body.getD .skip) = true := by kernel_rfl
theorem ent24 {args : Array Value} {w : World} {R : Value → World → Prop} (hn : args.size ≤ 67) (h : VC Yaco.prog (Yaco.f24.body.getD .skip) (retK Yaco.prog Yaco.f24 R) (initEnv args) w) : CallsV Yaco.prog 24 args w R :=
  callsV_of_W hmix Yaco.func24 rfl ok24 hn h.out
theorem ok25 : okCode Yaco.f25.ntmps (Yaco.f25.body.getD .skip) = true := by kernel_rfl
theorem ent25 {args : Array Value} {w : World} {R : Value → World → Prop} (hn : args.size ≤ 70) (h : VC Yaco.prog (Yaco.f25.body.getD .skip) (retK Yaco.prog Yaco.f25 R) (initEnv args) w) : CallsV Yaco.prog 25 args w R :=
  callsV_of_W hmix Yaco.func25 rfl ok25 hn h.out
theorem ok26 : okCode Yaco.f26.ntmps (Yaco.f26.body.getD .skip) = true := by kernel_rfl
theorem ent26 {args : Array Value} {w : World} {R : Value → World → Prop} (hn : args.size ≤ 85) (h : VC Yaco.prog (Yaco.f26.body.getD .skip) (retK Yaco.prog Yaco.f26 R) (initEnv args) w) : CallsV Yaco.prog 26 args w R :=
  callsV_of_W hmix Yaco.func26 rfl ok26 hn h.out
theorem ok27 : okCode Yaco.f27.ntmps (Yaco.f27.body.getD .skip) = true := by kernel_rfl
theorem ent27 {args : Array Value} {w : World} {R : Value → World → Prop} (hn : args.size ≤ 10) (h : VC Yaco.prog (Yaco.f27.body.getD .skip) (retK Yaco.prog Yaco.f27 R) (initEnv args) w) : CallsV Yaco.prog 27 args w R :=
  callsV_of_W hmix Yaco.func27 rfl ok27 hn h.out
theorem ok28 : okCode Yaco.f28.ntmps (Yaco.f28.body.getD .skip) = true := by kernel_rfl
theorem ent28 {args : Array Value} {w : World} {R : Value → World → Prop} (hn : args.size ≤ 33) (h : VC Yaco.prog (Yaco.f28.body.getD .skip) (retK Yaco.prog Yaco.f28 R) (initEnv args) w) : CallsV Yaco.prog 28 args w R :=
  callsV_of_W hmix Yaco.func28 rfl ok28 hn h.out
theorem ok29 : okCode Yaco.f29.ntmps (Yaco.f29.body.getD .skip) = true := by kernel_rfl
theorem ent29 {args : Array Value} {w : World} {R : Value → World → Prop} (hn : args.size ≤ 78) (h : VC Yaco.prog (Yaco.f29.body.getD .skip) (retK Yaco.prog Yaco.f29 R) (initEnv args) w) : CallsV Yaco.prog 29 args w R :=
  callsV_of_W hmix Yaco.func29 rfl ok29 hn h.out
theorem ok30 : okCode Yaco.f30.ntmps (Yaco.f30.body.getD .skip) = true := by kernel_rfl
theorem ent30 {args : Array Value} {w : World} {R : Value → World → Prop} (hn : args.size ≤ 6) (h : VC Yaco.prog (Yaco.f30.body.getD .skip) (retK Yaco.prog Yaco.f30 R) (initEnv args) w) : CallsV Yaco.prog 30 args w R :=
  callsV_of_W hmix Yaco.func30 rfl ok30 hn h.out
theorem ok31 : okCode Yaco.f31.ntmps (Yaco.f31.body.getD .skip) = true := by kernel_rfl
theorem ent31 {args : Array Value} {w : World} {R : Value → World → Prop} (hn : args.size ≤ 6) (h : VC Yaco.prog (Yaco.f31.body.getD .skip) (retK Yaco.prog Yaco.f31 R) (initEnv args) w) : CallsV Yaco.prog 31 args w R :=
  callsV_of_W hmix Yaco.func31 rfl ok31 hn h.out
theorem ok32 : okCode Yaco.f32.ntmps (Yaco.f32.body.getD .skip) = true := by kernel_rfl
theorem ent32 {args : Array Value} {w : World} {R : Value → World → Prop} (hn : args.size ≤ 38) (h : VC Yaco.prog (Yaco.f32.body.getD .skip) (retK Yaco.prog Yaco.f32 R) (initEnv args) w) : CallsV Yaco.prog 32 args w R :=
  callsV_of_W hmix Yaco.func32 rfl ok32 hn h.out
theorem ok33 : okCode Yaco.f33.ntmps (Yaco.f33.body.getD .skip) = true := by kernel_rfl
theorem ent33 {args : Array Value} {w : World} {R : Value → World → Prop} (hn : args.size ≤ 37) (h : VC Yaco.prog (Yaco.f33.body.getD .skip) (retK Yaco.prog Yaco.f33 R) (initEnv args) w) : CallsV Yaco.prog 33 args w R :=
  callsV_of_W hmix Yaco.func33 rfl ok33 hn h.out
theorem ok34 : okCode Yaco.f34.ntmps (Yaco.f34.body.getD .skip) = true := by kernel_rfl
theorem ent34 {args : Array Value} {w : World} {R : Value → World → Prop} (hn : args.size ≤ 20) (h : VC Yaco.prog (Yaco.f34.body.getD .skip) (retK Yaco.prog Yaco.f34 R) (initEnv args) w) : CallsV Yaco.prog 34 args w R :=
  callsV_of_W hmix Yaco.func34 rfl ok34 hn h.out
theorem ok35 : okCode Yaco.f35.ntmps (Yaco.f35.body.getD .skip) = true := by kernel_rfl
theorem ent35 {args : Array Value} {w : World} {R : Value → World → Prop} (hn : args.size ≤ 179) (h : VC Yaco.prog (Yaco.f35.body.getD .skip) (retK Yaco.prog Yaco.f35 R) (initEnv args) w) : CallsV Yaco.prog 35 args w R :=
  callsV_of_W hmix Yaco.func35 rfl ok35 hn h.out
theorem ok36 : okCode Yaco.f36.ntmps (Yaco.f36.body.getD .skip) = true := by kernel_rfl
theorem ent36 {args : Array Value} {w : World} {R : Value → World → Prop} (hn : args.size ≤ 14) (h : VC Yaco.prog (Yaco.f36.body.getD .skip) (retK Yaco.prog Yaco.f36 R) (initEnv args) w) : CallsV Yaco.prog 36 args w R :=
  callsV_of_W hmix Yaco.func36 rfl ok36 hn h.out
theorem ok37 : okCode Yaco.f37.ntmps (Yaco.f37.body.getD .skip) = true := by kernel_rfl
theorem ent37 {args : Array Value} {w : World} {R : Value → World → Prop} (hn : args.size ≤ 15) (h : VC Yaco.prog (Yaco.f37.body.getD .skip) (retK Yaco.prog Yaco.f37 R) (initEnv args) w) : CallsV Yaco.prog 37 args w R :=
  callsV_of_W hmix Yaco.func37 rfl ok37 hn h.out
theorem ok38 : okCode Yaco.f38.ntmps (Yaco.f38.body.getD .skip) = true := by kernel_rfl
theorem ent38 {args : Array Value} {w : World} {R : Value → World → Prop} (hn : args.size ≤ 19) (h : VC Yaco.prog (Yaco.f38.body.getD .skip) (retK Yaco.prog Yaco.f38 R) (initEnv args) w) : CallsV Yaco.prog 38 args w R :=
  callsV_of_W hmix Yaco.func38 rfl ok38 hn h.out
theorem ok39 : okCode Yaco.f39.ntmps (Yaco.f39.body.getD .skip) = true := by kernel_rfl
theorem ent39 {args : Array Value} {w : World} {R : Value → World → Prop} (hn : args.size ≤ 200) (h : VC Yaco.prog (Yaco.f39.body.getD .skip) (retK Yaco.prog Yaco.f39 R) (initEnv args) w) : CallsV Yaco.prog 39 args w R :=
  callsV_of_W hmix Yaco.func39 rfl ok39 hn h.out
theorem ok40 : okCode Yaco.f40.ntmps (Yaco.f40.body.getD .skip) = true := by kernel_rfl
theorem ent40 {args : Array Value} {w : World} {R : Value → World → Prop} (hn : args.size ≤ 4) (h : VC Yaco.prog (Yaco.f40.body.getD .skip) (retK Yaco.prog Yaco.f40 R) (initEnv args) w) : CallsV Yaco.prog 40 args w R :=
  callsV_of_W hmix Yaco.func40 rfl ok40 hn h.out
theorem ok41 : okCode Yaco.f41.ntmps (Yaco.f41.body.getD .skip) = true := by kernel_rfl
theorem ent41 {args : Array Value} {w : World} {R : Value → World → Prop} (hn : args.size ≤ 38) (h : VC Yaco.prog (Yaco.f41.body.getD .skip) (retK Yaco.prog Yaco.f41 R) (initEnv args) w) : CallsV Yaco.prog 41 args w R :=
  callsV_of_W hmix Yaco.func41 rfl ok41 hn h.out
theorem ok42 : okCode Yaco.f42.ntmps (Yaco.f42.body.getD .skip) = true := by kernel_rfl
theorem ent42 {args : Array Value} {w : World} {R : Value → World → Prop} (hn : args.size ≤ 35) (h : VC Yaco.prog (Yaco.f42.body.getD .skip) (retK Yaco.prog Yaco.f42 R) (initEnv args) w) : CallsV Yaco.prog 42 args w R :=
  callsV_of_W hmix Yaco.func42 rfl ok42 hn h.out
theorem ok43 : okCode Yaco.f43.ntmps (Yaco.f43.body.getD .skip) = true := by kernel_rfl
theorem ent43 {args : Array Value} {w : World} {R : Value → World → Prop} (hn : args.size ≤ 26) (h : VC Yaco.prog (Yaco.f43.body.getD .skip) (retK Yaco.prog Yaco.f43 R) (initEnv args) w) : CallsV Yaco.prog 43 args w R :=
  callsV_of_W hmix Yaco.func43 rfl ok43 hn h.out
theorem ok44 : okCode Yaco.f44.ntmps (Yaco.f44.body.getD .skip) = true := by kernel_rfl
theorem ent44 {args : Array Value} {w : World} {R : Value → World → Prop} (hn : args.size ≤ 26) (h : VC Yaco.prog (Yaco.f44.body.getD .skip) (retK Yaco.prog Yaco.f44 R) (initEnv args) w) : CallsV Yaco.prog 44 args w R :=
  callsV_of_W hmix Yaco.func44 rfl ok44 hn h.out
theorem ok45 : okCode Yaco.f45.ntmps (Yaco.f45.body.getD .skip) = true := by kernel_rfl
theorem ent45 {args : Array Value} {w : World} {R : Value → World → Prop} (hn : args.size ≤ 10) (h : VC Yaco.prog (Yaco.f45.body.getD .skip) (retK Yaco.prog Yaco.f45 R) (initEnv args) w) : CallsV Yaco.prog 45 args w R :=
  callsV_of_W hmix Yaco.func45 rfl ok45 hn h.out
theorem ok46 : okCode Yaco.f46.ntmps (Yaco.f46.body.getD .skip) = true := by kernel_rfl
theorem ent46 {args : Array Value} {w : World} {R : Value → World → Prop} (hn : args.size ≤ 11) (h : VC Yaco.prog (Yaco.f46.body.getD .skip) (retK Yaco.prog Yaco.f46 R) (initEnv args) w) : CallsV Yaco.prog 46 args w R :=
  callsV_of_W hmix Yaco.func46 rfl ok46 hn h.out
theorem ok47 : okCode Yaco.f47.ntmps (Yaco.f47.body.getD .skip) = true := by kernel_rfl
theorem ent47 {args : Array Value} {w : World} {R : Value → World → Prop} (hn : args.size ≤ 32) (h : VC Yaco.prog (Yaco.f47.body.getD .skip) (retK Yaco.prog Yaco.f47 R) (initEnv args) w) : CallsV Yaco.prog 47 args w R :=
  callsV_of_W hmix Yaco.func47 rfl ok47 hn h.out
theorem ok48 : okCode Yaco.f48.ntmps (Yaco.f48.body.getD .skip) = true := by kernel_rfl
theorem ent48 {args : Array Value} {w : World} {R : Value → World → Prop} (hn : args.size ≤ 29) (h : VC Yaco.prog (Yaco.f48.body.getD .skip) (retK Yaco.prog Yaco.f48 R) (initEnv args) w) : CallsV Yaco.prog 48 args w R :=
  callsV_of_W hmix Yaco.func48 rfl ok48 hn h.out
theorem ok49 : okCode Yaco.f49.ntmps (Yaco.f49.body.getD .skip) = true := by kernel_rfl
theorem ent49 {args : Array Value} {w : World} {R : Value → World → Prop} (hn : args.size ≤ 29) (h : VC Yaco.prog (Yaco.f49.body.getD .skip) (retK Yaco.prog Yaco.f49 R) (initEnv args) w) : CallsV Yaco.prog 49 args w R :=
  callsV_of_W hmix Yaco.func49 rfl ok49 hn h.out
theorem ok50 : okCode Yaco.f50.ntmps (Yaco.f50.body.getD .skip) = true := by kernel_rfl
theorem ent50 {args : Array Value} {w : World} {R : Value → World → Prop} (hn : args.size ≤ 181) (h : VC Yaco.prog (Yaco.f50.body.getD .skip) (retK Yaco.prog Yaco.f50 R) (initEnv args) w) : CallsV Yaco.prog 50 args w R :=
  callsV_of_W hmix Yaco.func50 rfl ok50 hn h.out
theorem ok51 : okCode Yaco.f51.ntmps (Yaco.f51.body.getD .skip) = true := by kernel_rfl
theorem ent51 {args : Array Value} {w : World} {R : Value → World → Prop} (hn : args.size ≤ 53) (h : VC Yaco.prog (Yaco.f51.body.getD .skip) (retK Yaco.prog Yaco.f51 R) (initEnv args) w) : CallsV Yaco.prog 51 args w R :=
  callsV_of_W hmix Yaco.func51 rfl ok51 hn h.out
theorem ok52 : okCode Yaco.f52.ntmps (Yaco.f52.body.getD .skip) = true := by kernel_rfl
theorem ent52 {args : Array Value} {w : World} {R : Value → World → Prop} (hn : args.size ≤ 172) (h : VC Yaco.prog (Yaco.f52.body.getD .skip) (retK Yaco.prog Yaco.f52 R) (initEnv args) w) : CallsV Yaco.prog 52 args w R :=
  callsV_of_W hmix Yaco.func52 rfl ok52 hn h.out
theorem ok53 : okCode Yaco.f53.ntmps (Yaco.f53.body.getD .skip) = true := by kernel_rfl
theorem ent53 {args : Array Value} {w : World} {R : Value → World → Prop} (hn : args.size ≤ 51) (h : VC Yaco.prog (Yaco.f53.body.getD .skip) (retK Yaco.prog Yaco.f53 R) (initEnv args) w) : CallsV Yaco.prog 53 args w R :=
  callsV_of_W hmix Yaco.func53 rfl ok53 hn h.out
theorem ok54 : okCode Yaco.f54.ntmps (Yaco.f54.body.getD .skip) = true := by kernel_rfl
theorem ent54 {args : Array Value} {w : World} {R : Value → World → Prop} (hn : args.size ≤ 13) (h : VC Yaco.prog (Yaco.f54.body.getD .skip) (retK Yaco.prog Yaco.f54 R) (initEnv args) w) : CallsV Yaco.prog 54 args w R :=
  callsV_of_W hmix Yaco.func54 rfl ok54 hn h.out
theorem ok55 : okCode Yaco.f55.ntmps (Yaco.f55.body.getD .skip) = true := by kernel_rfl
theorem ent55 {args : Array Value} {w : World} {R : Value → World → Prop} (hn : args.size ≤ 12) (h : VC Yaco.prog (Yaco.f55.body.getD .skip) (retK Yaco.prog Yaco.f55 R) (initEnv args) w) : CallsV Yaco.prog 55 args w R :=
  callsV_of_W hmix Yaco.func55 rfl ok55 hn h.out
theorem ok56 : okCode Yaco.f56.ntmps (Yaco.f56.body.getD .skip) = true := by kernel_rfl
theorem ent56 {args : Array Value} {w : World} {R : Value → World → Prop} (hn : args.size ≤ 9) (h : VC Yaco.prog (Yaco.f56.body.getD .skip) (retK Yaco.prog Yaco.f56 R) (initEnv args) w) : CallsV Yaco.prog 56 args w R :=
  callsV_of_W hmix Yaco.func56 rfl ok56 hn h.out
theorem ok57 : okCode Yaco.f57.ntmps (Yaco.f57.body.getD .skip) = true := by kernel_rfl
theorem ent57 {args : Array Value} {w : World} {R : Value → World → Prop} (hn : args.size ≤ 9) (h : VC Yaco.prog (Yaco.f57.body.getD .skip) (retK Yaco.prog Yaco.f57 R) (initEnv args) w) : CallsV Yaco.prog 57 args w R :=
  callsV_of_W hmix Yaco.func57 rfl ok57 hn h.out
theorem ok58 : okCode Yaco.f58.ntmps (Yaco.f58.body.getD .skip) = true := by kernel_rfl
theorem ent58 {args : Array Value} {w : World} {R : Value → World → Prop} (hn : args.size ≤ 34) (h : VC Yaco.prog (Yaco.f58.body.getD .skip) (retK Yaco.prog Yaco.f58 R) (initEnv args) w) : CallsV Yaco.prog 58 args w R :=
  callsV_of_W hmix Yaco.func58 rfl ok58 hn h.out
theorem ok59 : okCode Yaco.f59.ntmps (Yaco.f59.body.getD .skip) = true := by kernel_rfl
theorem ent59 {args : Array Value} {w : World} {R : Value → World → Prop} (hn : args.size ≤ 6) (h : VC Yaco.prog (Yaco.f59.body.getD .skip) (retK Yaco.prog Yaco.f59 R) (initEnv args) w) : CallsV Yaco.prog 59 args w R :=
  callsV_of_W hmix Yaco.func59 rfl ok59 hn h.out
theorem ok60 : okCode Yaco.f60.ntmps (Yaco.f60.body.getD .skip) = true := by kernel_rfl
theorem ent60 {args : Array Value} {w : World} {R : Value → World → Prop} (hn : args.size ≤ 13) (h : VC Yaco.prog (Yaco.f60.body.getD .skip) (retK Yaco.prog Yaco.f60 R) (initEnv args) w) : CallsV Yaco.prog 60 args w R :=
  callsV_of_W hmix Yaco.func60 rfl ok60 hn h.out
theorem ok61 : okCode Yaco.f61.ntmps (Yaco.f61.body.getD .skip) = true := by kernel_rfl
theorem ent61 {args : Array Value} {w : World} {R : Value → World → Prop} (hn : args.size ≤ 9) (h : VC Yaco.prog (Yaco.f61.body.getD .skip) (retK Yaco.prog Yaco.f61 R) (initEnv args) w) : CallsV Yaco.prog 61 args w R :=
  callsV_of_W hmix Yaco.func61 rfl ok61 hn h.out
theorem ok62 : okCode Yaco.f62.ntmps (Yaco.f62.body.getD .skip) = true := by kernel_rfl
theorem ent62 {args : Array Value} {w : World} {R : Value → World → Prop} (hn : args.size ≤ 13) (h : VC Yaco.prog (Yaco.f62.body.getD .skip) (retK Yaco.prog Yaco.f62 R) (initEnv args) w) : CallsV Yaco.prog 62 args w R :=
  callsV_of_W hmix Yaco.func62 rfl ok62 hn h.out
theorem ok63 : okCode Yaco.f63.ntmps (Yaco.f63.body.getD .skip) = true := by kernel_rfl
theorem ent63 {args : Array Value} {w : World} {R : Value → World → Prop} (hn : args.size ≤ 9) (h : VC Yaco.prog (Yaco.f63.body.getD .skip) (retK Yaco.prog Yaco.f63 R) (initEnv args) w) : CallsV Yaco.prog 63 args w R :=
  callsV_of_W hmix Yaco.func63 rfl ok63 hn h.out
theorem ok64 : okCode Yaco.f64.ntmps (Yaco.f64.body.getD .skip) = true := by kernel_rfl
theorem ent64 {args : Array Value} {w : World} {R : Value → World → Prop} (hn : args.size ≤ 35) (h : VC Yaco.prog (Yaco.f64.body.getD .skip) (retK Yaco.prog Yaco.f64 R) (initEnv args) w) : CallsV Yaco.prog 64 args w R :=
  callsV_of_W hmix Yaco.func64 rfl ok64 hn h.out
theorem ok65 : okCode Yaco.f65.ntmps (Yaco.f65.body.getD .skip) = true := by kernel_rfl
theorem ent65 {args : Array Value} {w : World} {R : Value → World → Prop} (hn : args.size ≤ 11) (h : VC Yaco.prog (Yaco.f65.body.getD .skip) (retK Yaco.prog Yaco.f65 R) (initEnv args) w) : CallsV Yaco.prog 65 args w R :=
  callsV_of_W hmix Yaco.func65 rfl ok65 hn h.out
theorem ok66 : okCode Yaco.f66.ntmps (Yaco.f66.body.getD .skip) = true := by kernel_rfl
theorem ent66 {args : Array Value} {w : World} {R : Value → World → Prop} (hn : args.size ≤ 65) (h : VC Yaco.prog (Yaco.f66.body.getD .skip) (retK Yaco.prog Yaco.f66 R) (initEnv args) w) : CallsV Yaco.prog 66 args w R :=
  callsV_of_W hmix Yaco.func66 rfl ok66 hn h.out
theorem ok67 : okCode Yaco.f67.ntmps (Yaco.f67.body.getD .skip) = true := by kernel_rfl
theorem ent67 {args : Array Value} {w : World} {R : Value → World → Prop} (hn : args.size ≤ 51) (h : VC Yaco.prog (Yaco.f67.body.getD .skip) (retK Yaco.prog Yaco.f67 R) (initEnv args) w) : CallsV Yaco.prog 67 args w R :=
  callsV_of_W hmix Yaco.func67 rfl ok67 hn h.out
theorem ok68 : okCode Yaco.f68.ntmps (Yaco.f68.body.getD .skip) = true := by kernel_rfl
theorem ent68 {args : Array Value} {w : World} {R : Value → World → Prop} (hn : args.size ≤ 8) (h : VC Yaco.prog (Yaco.f68.body.getD .skip) (retK Yaco.prog Yaco.f68 R) (initEnv args) w) : CallsV Yaco.prog 68 args w R :=
  callsV_of_W hmix Yaco.func68 rfl ok68 hn h.out
theorem ok69 : okCode Yaco.f69.ntmps (Yaco.f69.body.getD .skip) = true := by kernel_rfl
theorem ent69 {args : Array Value} {w : World} {R : Value → World → Prop} (hn : args.size ≤ 82) (h : VC Yaco.prog (Yaco.f69.body.getD .skip) (retK Yaco.prog Yaco.f69 R) (initEnv args) w) : CallsV Yaco.prog 69 args w R :=
  callsV_of_W hmix Yaco.func69 rfl ok69 hn h.out
theorem ok70 : okCode Yaco.f70.ntmps (Yaco.f70.body.getD .skip) = true := by kernel_rfl
theorem ent70 {args : Array Value} {w : World} {R : Value → World → Prop} (hn : args.size ≤ 20) (h : VC Yaco.prog (Yaco.f70.body.getD .skip) (retK Yaco.prog Yaco.f70 R) (initEnv args) w) : CallsV Yaco.prog 70 args w R :=
  callsV_of_W hmix Yaco.func70 rfl ok70 hn h.out
theorem ok71 : okCode Yaco.f71.ntmps (Yaco.f71.body.getD .skip) = true := by kernel_rfl
theorem ent71 {args : Array Value} {w : World} {R : Value → World → Prop} (hn : args.size ≤ 71) (h : VC Yaco.prog (Yaco.f71.body.getD .skip) (retK Yaco.prog Yaco.f71 R) (initEnv args) w) : CallsV Yaco.prog 71 args w R :=
  callsV_of_W hmix Yaco.func71 rfl ok71 hn h.out
theorem ok72 : okCode Yaco.f72.ntmps (Yaco.f72.body.getD .skip) = true := by kernel_rfl
theorem ent72 {args : Array Value} {w : World} {R : Value → World → Prop} (hn : args.size ≤ 11) (h : VC Yaco.prog (Yaco.f72.body.getD .skip) (retK Yaco.prog Yaco.f72 R) (initEnv args) w) : CallsV Yaco.prog 72 args w R :=
  callsV_of_W hmix Yaco.func72 rfl ok72 hn h.out
theorem ok73 : okCode Yaco.f73.ntmps (Yaco.f73.body.getD .skip) = true := by kernel_rfl
theorem ent73 {args : Array Value} {w : World} {R : Value → World → Prop} (hn : args.size ≤ 53) (h : VC Yaco.prog (Yaco.f73.body.getD .skip) (retK Yaco.prog Yaco.f73 R) (initEnv args) w) : CallsV Yaco.prog 73 args w R :=
  callsV_of_W hmix Yaco.func73 rfl ok73 hn h.out
theorem ok74 : okCode Yaco.f74.ntmps (Yaco.f74.body.getD .skip) = true := by kernel_rfl
theorem ent74 {args : Array Value} {w : World} {R : Value → World → Prop} (hn : args.size ≤ 10) (h : VC Yaco.prog (Yaco.f74.body.getD .skip) (retK Yaco.prog Yaco.f74 R) (initEnv args) w) : CallsV Yaco.prog 74 args w R :=
  callsV_of_W hmix Yaco.func74 rfl ok74 hn h.out
theorem ok75 : okCode Yaco.f75.ntmps (Yaco.f75.body.getD .skip) = true := by kernel_rfl
theorem ent75 {args : Array Value} {w : World} {R : Value → World → Prop} (hn : args.size ≤ 11) (h : VC Yaco.prog (Yaco.f75.body.getD .skip) (retK Yaco.prog Yaco.f75 R) (initEnv args) w) : CallsV Yaco.prog 75 args w R :=
  callsV_of_W hmix Yaco.func75 rfl ok75 hn h.out
theorem ok76 : okCode Yaco.f76.ntmps (Yaco.f76.body.getD .skip) = true := by kernel_rfl
theorem ent76 {args : Array Value} {w : World} {R : Value → World → Prop} (hn : args.size ≤ 147) (h : VC Yaco.prog (Yaco.f76.body.getD .skip) (retK Yaco.prog Yaco.f76 R) (initEnv args) w) : CallsV Yaco.prog 76 args w R :=
  callsV_of_W hmix Yaco.func76 rfl ok76 hn h.out
theorem ok77 : okCode Yaco.f77.ntmps (Yaco.f77.body.getD .skip) = true := by kernel_rfl
theorem ent77 {args : Array Value} {w : World} {R : Value → World → Prop} (hn : args.size ≤ 63) (h : VC Yaco.prog (Yaco.f77.body.getD .skip) (retK Yaco.prog Yaco.f77 R) (initEnv args) w) : CallsV Yaco.prog 77 args w R :=
  callsV_of_W hmix Yaco.func77 rfl ok77 hn h.out
theorem ok78 : okCode Yaco.f78.ntmps (Yaco.f78.body.getD .skip) = true := by kernel_rfl
theorem ent78 {args : Array Value} {w : World} {R : Value → World → Prop} (hn : args.size ≤ 35) (h : VC Yaco.prog (Yaco.f78.body.getD .skip) (retK Yaco.prog Yaco.f78 R) (initEnv args) w) : CallsV Yaco.prog 78 args w R :=
  callsV_of_W hmix Yaco.func78 rfl ok78 hn h.out
theorem ok79 : okCode Yaco.f79.ntmps (Yaco.f79.body.getD .skip) = true := by kernel_rfl
theorem ent79 {args : Array Value} {w : World} {R : Value → World → Prop} (hn : args.size ≤ 30) (h : VC Yaco.prog (Yaco.f79.body.getD .skip) (retK Yaco.prog Yaco.f79 R) (initEnv args) w) : CallsV Yaco.prog 79 args w R :=
  callsV_of_W hmix Yaco.func79 rfl ok79 hn h.out
theorem ok80 : okCode Yaco.f80.ntmps (Yaco.f80.body.getD .skip) = true := by kernel_rfl
theorem ent80 {args : Array Value} {w : World} {R : Value → World → Prop} (hn : args.size ≤ 66) (h : VC Yaco.prog (Yaco.f80.body.getD .skip) (retK Yaco.prog Yaco.f80 R) (initEnv args) w) : CallsV Yaco.prog 80 args w R :=
  callsV_of_W hmix Yaco.func80 rfl ok80 hn h.out
theorem ok81 : okCode Yaco.f81.ntmps (Yaco.f81.body.getD .skip) = true := by kernel_rfl
theorem ent81 {args : Array Value} {w : World} {R : Value → World → Prop} (hn : args.size ≤ 35) (h : VC Yaco.prog (Yaco.f81.body.getD .skip) (retK Yaco.prog Yaco.f81 R) (initEnv args) w) : CallsV Yaco.prog 81 args w R :=
  callsV_of_W hmix Yaco.func81 rfl ok81 hn h.out
theorem ok82 : okCode Yaco.f82.ntmps (Yaco.f82.body.getD .skip) = true := by kernel_rfl
theorem ent82 {args : Array Value} {w : World} {R : Value → World → Prop} (hn : args.size ≤ 24) (h : VC Yaco.prog (Yaco.f82.body.getD .skip) (retK Yaco.prog Yaco.f82 R) (initEnv args) w) : CallsV Yaco.prog 82 args w R :=
  callsV_of_W hmix Yaco.func82 rfl ok82 hn h.out
theorem ok83 : okCode Yaco.f83.ntmps (Yaco.f83.body.getD .skip) = true := by kernel_rfl
theorem ent83 {args : Array Value} {w : World} {R : Value → World → Prop} (hn : args.size ≤ 32) (h : VC Yaco.prog (Yaco.f83.body.getD .skip) (retK Yaco.prog Yaco.f83 R) (initEnv args) w) : CallsV Yaco.prog 83 args w R :=
  callsV_of_W hmix Yaco.func83 rfl ok83 hn h.out
theorem ok84 : okCode Yaco.f84.ntmps (Yaco.f84.body.getD .skip) = true := by kernel_rfl
theorem ent84 {args : Array Value} {w : World} {R : Value → World → Prop} (hn : args.size ≤ 202) (h : VC Yaco.prog (Yaco.f84.body.getD .skip) (retK Yaco.prog Yaco.f84 R) (initEnv args) w) : CallsV Yaco.prog 84 args w R :=
  callsV_of_W hmix Yaco.func84 rfl ok84 hn h.out
theorem ok85 : okCode Yaco.f85.ntmps (Yaco.f85.body.getD .skip) = true := by kernel_rfl
theorem ent85 {args : Array Value} {w : World} {R : Value → World → Prop} (hn : args.size ≤ 11) (h : VC Yaco.prog (Yaco.f85.body.getD .skip) (retK Yaco.prog Yaco.f85 R) (initEnv args) w) : CallsV Yaco.prog 85 args w R :=
  callsV_of_W hmix Yaco.func85 rfl ok85 hn h.out
theorem ok86 : okCode Yaco.f86.ntmps (Yaco.f86.body.getD .skip) = true := by kernel_rfl
theorem ent86 {args : Array Value} {w : World} {R : Value → World → Prop} (hn : args.size ≤ 20) (h : VC Yaco.prog (Yaco.f86.body.getD .skip) (retK Yaco.prog Yaco.f86 R) (initEnv args) w) : CallsV Yaco.prog 86 args w R :=
  callsV_of_W hmix Yaco.func86 rfl ok86 hn h.out
theorem ok87 : okCode Yaco.f87.ntmps (Yaco.f87.body.getD .skip) = true := by kernel_rfl
theorem ent87 {args : Array Value} {w : World} {R : Value → World → Prop} (hn : args.size ≤ 45) (h : VC Yaco.prog (Yaco.f87.body.getD .skip) (retK Yaco.prog Yaco.f87 R) (initEnv args) w) : CallsV Yaco.prog 87 args w R :=
  callsV_of_W hmix Yaco.func87 rfl ok87 hn h.out
theorem ok88 : okCode Yaco.f88.ntmps (Yaco.f88.body.getD .skip) = true := by kernel_rfl
theorem ent88 {args : Array Value} {w : World} {R : Value → World → Prop} (hn : args.size ≤ 33) (h : VC Yaco.prog (Yaco.f88.body.getD .skip) (retK Yaco.prog Yaco.f88 R) (initEnv args) w) : CallsV Yaco.prog 88 args w R :=
  callsV_of_W hmix Yaco.func88 rfl ok88 hn h.out
theorem ok89 : okCode Yaco.f89.ntmps (Yaco.f89.body.getD .skip) = true := by kernel_rfl
theorem ent89 {args : Array Value} {w : World} {R : Value → World → Prop} (hn : args.size ≤ 626) (h : VC Yaco.prog (Yaco.f89.body.getD .skip) (retK Yaco.prog Yaco.f89 R) (initEnv args) w) : CallsV Yaco.prog 89 args w R :=
  callsV_of_W hmix Yaco.func89 rfl ok89 hn h.out
theorem ok90 : okCode Yaco.f90.ntmps (Yaco.f90.body.getD .skip) = true := by kernel_rfl
theorem ent90 {args : Array Value} {w : World} {R : Value → World → Prop} (hn : args.size ≤ 28) (h : VC Yaco.prog (Yaco.f90.body.getD .skip) (retK Yaco.prog Yaco.f90 R) (initEnv args) w) : CallsV Yaco.prog 90 args w R :=
  callsV_of_W hmix Yaco.func90 rfl ok90 hn h.out
theorem ok91 : okCode Yaco.f91.ntmps (Yaco.f91.body.getD .skip) = true := by kernel_rfl
theorem ent91 {args : Array Value} {w : World} {R : Value → World → Prop} (hn : args.size ≤ 25) (h : VC Yaco.prog (Yaco.f91.body.getD .skip) (retK Yaco.prog Yaco.f91 R) (initEnv args) w) : CallsV Yaco.prog 91 args w R :=
  callsV_of_W hmix Yaco.func91 rfl ok91 hn h.out
theorem ok92 : okCode Yaco.f92.ntmps (Yaco.f92.body.getD .skip) = true := by kernel_rfl
theorem ent92 {args : Array Value} {w : World} {R : Value → World → Prop} (hn : args.size ≤ 559) (h : VC Yaco.prog (Yaco.f92.body.getD .skip) (retK Yaco.prog Yaco.f92 R) (initEnv args) w) : CallsV Yaco.prog 92 args w R :=
  callsV_of_W hmix Yaco.func92 rfl ok92 hn h.out
theorem ok93 : okCode Yaco.f93.ntmps (Yaco.f93.body.getD .skip) = true := by kernel_rfl
theorem ent93 {args : Array Value} {w : World} {R : Value → World → Prop} (hn : args.size ≤ 35) (h : VC Yaco.prog (Yaco.f93.body.getD .skip) (retK Yaco.prog Yaco.f93 R) (initEnv args) w) : CallsV Yaco.prog 93 args w R :=
  callsV_of_W hmix Yaco.func93 rfl ok93 hn h.out
theorem ok94 : okCode Yaco.f94.ntmps (Yaco.f94.body.getD .skip) = true := by kernel_rfl
theorem ent94 {args : Array Value} {w : World} {R : Value → World → Prop} (hn : args.size ≤ 24) (h : VC Yaco.prog (Yaco.f94.body.getD .skip) (retK Yaco.prog Yaco.f94 R) (initEnv args) w) : CallsV Yaco.prog 94 args w R :=
  callsV_of_W hmix Yaco.func94 rfl ok94 hn h.out
theorem ok95 : okCode Yaco.f95.ntmps (Yaco.f95.body.getD .skip) = true := by kernel_rfl
theorem ent95 {args : Array Value} {w : World} {R : Value → World → Prop} (hn : args.size ≤ 28) (h : VC Yaco.prog (Yaco.f95.body.getD .skip) (retK Yaco.prog Yaco.f95 R) (initEnv args) w) : CallsV Yaco.prog 95 args w R :=
  callsV_of_W hmix Yaco.func95 rfl ok95 hn h.out
theorem ok96 : okCode Yaco.f96.ntmps (Yaco.f96.body.getD .skip) = true := by kernel_rfl
theorem ent96 {args : Array Value} {w : World} {R : Value → World → Prop} (hn : args.size ≤ 35) (h : VC Yaco.prog (Yaco.f96.body.getD .skip) (retK Yaco.prog Yaco.f96 R) (initEnv args) w) : CallsV Yaco.prog 96 args w R :=
  callsV_of_W hmix Yaco.func96 rfl ok96 hn h.out
theorem ok97 : okCode Yaco.f97.ntmps (Yaco.f97.body.getD .skip) = true := by kernel_rfl
theorem ent97 {args : Array Value} {w : World} {R : Value → World → Prop} (hn : args.size ≤ 40) (h : VC Yaco.prog (Yaco.f97.body.getD .skip) (retK Yaco.prog Yaco.f97 R) (initEnv args) w) : CallsV Yaco.prog 97 args w R :=
  callsV_of_W hmix Yaco.func97 rfl ok97 hn h.out
theorem ok98 : okCode Yaco.f98.ntmps (Yaco.f98.body.getD .skip) = true := by kernel_rfl
theorem ent98 {args : Array Value} {w : World} {R : Value → World → Prop} (hn : args.size ≤ 21) (h : VC Yaco.prog (Yaco.f98.body.getD .skip) (retK Yaco.prog Yaco.f98 R) (initEnv args) w) : CallsV Yaco.prog 98 args w R :=
  callsV_of_W hmix Yaco.func98 rfl ok98 hn h.out
theorem ok99 : okCode Yaco.f99.ntmps (Yaco.f99.body.getD .skip) = true := by kernel_rfl
theorem ent99 {args : Array Value} {w : World} {R : Value → World → Prop} (hn : args.size ≤ 24) (h : VC Yaco.prog (Yaco.f99.body.getD .skip) (retK Yaco.prog Yaco.f99 R) (initEnv args) w) : CallsV Yaco.prog 99 args w R :=
  callsV_of_W hmix Yaco.func99 rfl ok99 hn h.out
theorem ok100 : okCode Yaco.f100.ntmps (Yaco.f100.body.getD .skip) = true := by kernel_rfl
theorem ent100 {args : Array Value} {w : World} {R : Value → World → Prop} (hn : args.size ≤ 46) (h : VC Yaco.prog (Yaco.f100.body.getD .skip) (retK Yaco.prog Yaco.f100 R) (initEnv args) w) : CallsV Yaco.prog 100 args w R :=
  callsV_of_W hmix Yaco.func100 rfl ok100 hn h.out
theorem ok101 : okCode Yaco.f101.ntmps (Yaco.f101.body.getD .skip) = true := by kernel_rfl
theorem ent101 {args : Array Value} {w : World} {R : Value → World → Prop} (hn : args.size ≤ 9) (h : VC Yaco.prog (Yaco.f101.body.getD .skip) (retK Yaco.prog Yaco.f101 R) (initEnv args) w) : CallsV Yaco.prog 101 args w R :=
  callsV_of_W hmix Yaco.func101 rfl ok101 hn h.out
theorem ok102 : okCode Yaco.f102.ntmps (Yaco.f102.body.getD .skip) = true := by kernel_rfl
theorem ent102 {args : Array Value} {w : World} {R : Value → World → Prop} (hn : args.size ≤ 36) (h : VC Yaco.prog (Yaco.f102.body.getD .skip) (retK Yaco.prog Yaco.f102 R) (initEnv args) w) : CallsV Yaco.prog 102 args w R :=
  callsV_of_W hmix Yaco.func102 rfl ok102 hn h.out
theorem ok103 : okCode Yaco.f103.ntmps (Yaco.f103.body.getD .skip) = true := by kernel_rfl
theorem ent103 {args : Array Value} {w : World} {R : Value → World → Prop} (hn : args.size ≤ 67) (h : VC Yaco.prog (Yaco.f103.body.getD .skip) (retK Yaco.prog Yaco.f103 R) (initEnv args) w) : CallsV Yaco.prog 103 args w R :=
  callsV_of_W hmix Yaco.func103 rfl ok103 hn h.out
theorem ok104 : okCode Yaco.f104.ntmps (Yaco.f104.body.getD .skip) = true := by kernel_rfl
theorem ent104 {args : Array Value} {w : World} {R : Value → World → Prop} (hn : args.size ≤ 169) (h : VC Yaco.prog (Yaco.f104.body.getD .skip) (retK Yaco.prog Yaco.f104 R) (initEnv args) w) : CallsV Yaco.prog 104 args w R :=
  callsV_of_W hmix Yaco.func104 rfl ok104 hn h.out
theorem ok105 : okCode Yaco.f105.ntmps (Yaco.f105.body.getD .skip) = true := by kernel_rfl
theorem ent105 {args : Array Value} {w : World} {R : Value → World → Prop} (hn : args.size ≤ 6) (h : VC Yaco.prog (Yaco.f105.body.getD .skip) (retK Yaco.prog Yaco.f105 R) (initEnv args) w) : CallsV Yaco.prog 105 args w R :=
  callsV_of_W hmix Yaco.func105 rfl ok105 hn h.out
theorem ok106 : okCode Yaco.f106.ntmps (Yaco.f106.body.getD .skip) = true := by kernel_rfl
theorem ent106 {args : Array Value} {w : World} {R : Value → World → Prop} (hn : args.size ≤ 60) (h : VC Yaco.prog (Yaco.f106.body.getD .skip) (retK Yaco.prog Yaco.f106 R) (initEnv args) w) : CallsV Yaco.prog 106 args w R :=
  callsV_of_W hmix Yaco.func106 rfl ok106 hn h.out
theorem ok107 : okCode Yaco.f107.ntmps (Yaco.f107.body.getD .skip) = true := by kernel_rfl
theorem ent107 {args : Array Value} {w : World} {R : Value → World → Prop} (hn : args.size ≤ 13) (h : VC Yaco.prog (Yaco.f107.body.getD .skip) (retK Yaco.prog Yaco.f107 R) (initEnv args) w) : CallsV Yaco.prog 107 args w R :=
  callsV_of_W hmix Yaco.func107 rfl ok107 hn h.out
theorem ok108 : okCode Yaco.f108.ntmps (Yaco.f108.body.getD .skip) = true := by kernel_rfl
theorem ent108 {args : Array Value} {w : World} {R : Value → World → Prop} (hn : args.size ≤ 96) (h : VC Yaco.prog (Yaco.f108.body.getD .skip) (retK Yaco.prog Yaco.f108 R) (initEnv args) w) : CallsV Yaco.prog 108 args w R :=
  callsV_of_W hmix Yaco.func108 rfl ok108 hn h.out
theorem ok109 : okCode Yaco.f109.ntmps (Yaco.f109.body.getD .skip) = true := by kernel_rfl
theorem ent109 {args : Array Value} {w : World} {R : Value → World → Prop} (hn : args.size ≤ 34) (h : VC Yaco.prog (Yaco.f109.body.getD .skip) (retK Yaco.prog Yaco.f109 R) (initEnv args) w) : CallsV Yaco.prog 109 args w R :=
  callsV_of_W hmix Yaco.func109 rfl ok109 hn h.out
theorem ok110 : okCode Yaco.f110.ntmps (Yaco.f110.body.getD .skip) = true := by kernel_rfl
theorem ent110 {args : Array Value} {w : World} {R : Value → World → Prop} (hn : args.size ≤ 12) (h : VC Yaco.prog (Yaco.f110.body.getD .skip) (retK Yaco.prog Yaco.f110 R) (initEnv args) w) : CallsV Yaco.prog 110 args w R :=
  callsV_of_W hmix Yaco.func110 rfl ok110 hn h.out
theorem ok111 : okCode Yaco.f111.ntmps (Yaco.f111.body.getD .skip) = true := by kernel_rfl
theorem ent111 {args : Array Value} {w : World} {R : Value → World → Prop} (hn : args.size ≤ 40) (h : VC Yaco.prog (Yaco.f111.body.getD .skip) (retK Yaco.prog Yaco.f111 R) (initEnv args) w) : CallsV Yaco.prog 111 args w R :=
  callsV_of_W hmix Yaco.func111 rfl ok111 hn h.out
theorem ok112 : okCode Yaco.f112.ntmps (Yaco.f112.body.getD .skip) = true := by kernel_rfl
theorem ent112 {args : Array Value} {w : World} {R : Value → World → Prop} (hn : args.size ≤ 5) (h : VC Yaco.prog (Yaco.f112.body.getD .skip) (retK Yaco.prog Yaco.f112 R) (initEnv args) w) : CallsV Yaco.prog 112 args w R :=
  callsV_of_W hmix Yaco.func112 rfl ok112 hn h.out
theorem ok113 : okCode Yaco.f113.ntmps (Yaco.f113.body.getD .skip) = true := by kernel_rfl
theorem ent113 {args : Array Value} {w : World} {R : Value → World → Prop} (hn : args.size ≤ 2) (h : VC Yaco.prog (Yaco.f113.body.getD .skip) (retK Yaco.prog Yaco.f113 R) (initEnv args) w) : CallsV Yaco.prog 113 args w R :=
  callsV_of_W hmix Yaco.func113 rfl ok113 hn h.out
theorem ok114 : okCode Yaco.f114.ntmps (Yaco.f114.body.getD .skip) = true := by kernel_rfl
theorem ent114 {args : Array Value} {w : World} {R : Value → World → Prop} (hn : args.size ≤ 6) (h : VC Yaco.prog (Yaco.f114.body.getD .skip) (retK Yaco.prog Yaco.f114 R) (initEnv args) w) : CallsV Yaco.prog 114 args w R :=
  callsV_of_W hmix Yaco.func114 rfl ok114 hn h.out
theorem ok115 : okCode Yaco.f115.ntmps (Yaco.f115.body.getD .skip) = true := by kernel_rfl
theorem ent115 {args : Array Value} {w : World} {R : Value → World → Prop} (hn : args.size ≤ 34) (h : VC Yaco.prog (Yaco.f115.body.getD .skip) (retK Yaco.prog Yaco.f115 R) (initEnv args) w) : CallsV Yaco.prog 115 args w R :=
  callsV_of_W hmix Yaco.func115 rfl ok115 hn h.out
theorem ok116 : okCode Yaco.f116.ntmps (Yaco.f116.body.getD .skip) = true := by kernel_rfl
theorem ent116 {args : Array Value} {w : World} {R : Value → World → Prop} (hn : args.size ≤ 108) (h : VC Yaco.prog (Yaco.f116.body.getD .skip) (retK Yaco.prog Yaco.f116 R) (initEnv args) w) : CallsV Yaco.prog 116 args w R :=
  callsV_of_W hmix Yaco.func116 rfl ok116 hn h.out
theorem ok117 : okCode Yaco.f117.ntmps (Yaco.f117.body.getD .skip) = true := by kernel_rfl
theorem ent117 {args : Array Value} {w : World} {R : Value → World → Prop} (hn : args.size ≤ 100) (h : VC Yaco.prog (Yaco.f117.body.getD .skip) (retK Yaco.prog Yaco.f117 R) (initEnv args) w) : CallsV Yaco.prog 117 args w R :=
  callsV_of_W hmix Yaco.func117 rfl ok117 hn h.out
end Go.Proofs.Ybzacw
