/-  Made by program for the seat's translation: closed facts of the type table and of the functions.  -/
import Derived.Test.YbzaawGreatBase
import Derived.Test.YbzaawGreatProg
namespace Go.Proofs.YbzaawGreat
open Go.Wf
set_option maxRecDepth 1000000
theorem hmix : Yaao.prog.follows .mixedOrders = true := by kernel_rfl
theorem be100 : Yaao.prog.bytesOf (elT Yaao.prog 100) = 72 := by kernel_rfl
theorem be102 : Yaao.prog.bytesOf (elT Yaao.prog 102) = 40 := by kernel_rfl
theorem be126 : Yaao.prog.bytesOf (elT Yaao.prog 126) = 40 := by kernel_rfl
theorem be127 : Yaao.prog.bytesOf (elT Yaao.prog 127) = 32 := by kernel_rfl
theorem be142 : Yaao.prog.bytesOf (elT Yaao.prog 142) = 40 := by kernel_rfl
theorem be143 : Yaao.prog.bytesOf (elT Yaao.prog 143) = 16 := by kernel_rfl
theorem be166 : Yaao.prog.bytesOf (elT Yaao.prog 166) = 40 := by kernel_rfl
theorem be22 : Yaao.prog.bytesOf (elT Yaao.prog 22) = 1 := by kernel_rfl
theorem be23 : Yaao.prog.bytesOf (elT Yaao.prog 23) = 72 := by kernel_rfl
theorem be26 : Yaao.prog.bytesOf (elT Yaao.prog 26) = 16 := by kernel_rfl
theorem be27 : Yaao.prog.bytesOf (elT Yaao.prog 27) = 24 := by kernel_rfl
theorem be28 : Yaao.prog.bytesOf (elT Yaao.prog 28) = 40 := by kernel_rfl
theorem be39 : Yaao.prog.bytesOf (elT Yaao.prog 39) = 1 := by kernel_rfl
theorem be46 : Yaao.prog.bytesOf (elT Yaao.prog 46) = 72 := by kernel_rfl
theorem be49 : Yaao.prog.bytesOf (elT Yaao.prog 49) = 48 := by kernel_rfl
theorem be56 : Yaao.prog.bytesOf (elT Yaao.prog 56) = 24 := by kernel_rfl
theorem be57 : Yaao.prog.bytesOf (elT Yaao.prog 57) = 24 := by kernel_rfl
theorem be58 : Yaao.prog.bytesOf (elT Yaao.prog 58) = 24 := by kernel_rfl
theorem be59 : Yaao.prog.bytesOf (elT Yaao.prog 59) = 24 := by kernel_rfl
theorem be76 : Yaao.prog.bytesOf (elT Yaao.prog 76) = 8 := by kernel_rfl
theorem be81 : Yaao.prog.bytesOf (elT Yaao.prog 81) = 40 := by kernel_rfl
theorem be89 : Yaao.prog.bytesOf (elT Yaao.prog 89) = 56 := by kernel_rfl
theorem be96 : Yaao.prog.bytesOf (elT Yaao.prog 96) = 40 := by kernel_rfl
theorem c10 : callable Yaao.prog 10 = true := by kernel_rfl
theorem c100 : callable Yaao.prog 100 = true := by kernel_rfl
theorem c101 : callable Yaao.prog 101 = true := by kernel_rfl
theorem c102 : callable Yaao.prog 102 = true := by kernel_rfl
theorem c103 : callable Yaao.prog 103 = true := by kernel_rfl
theorem c104 : callable Yaao.prog 104 = true := by kernel_rfl
theorem c105 : callable Yaao.prog 105 = true := by kernel_rfl
theorem c106 : callable Yaao.prog 106 = true := by kernel_rfl
theorem c107 : callable Yaao.prog 107 = true := by kernel_rfl
theorem c108 : callable Yaao.prog 108 = true := by kernel_rfl
theorem c109 : callable Yaao.prog 109 = true := by kernel_rfl
theorem c11 : callable Yaao.prog 11 = true := by kernel_rfl
theorem c110 : callable Yaao.prog 110 = true := by kernel_rfl
theorem c111 : callable Yaao.prog 111 = true := by kernel_rfl
theorem c112 : callable Yaao.prog 112 = true := by kernel_rfl
theorem c113 : callable Yaao.prog 113 = true := by kernel_rfl
theorem c114 : callable Yaao.prog 114 = true := by kernel_rfl
theorem c115 : callable Yaao.prog 115 = true := by kernel_rfl
theorem c116 : callable Yaao.prog 116 = true := by kernel_rfl
theorem c117 : callable Yaao.prog 117 = true := by kernel_rfl
theorem c118 : callable Yaao.prog 118 = true := by kernel_rfl
theorem c119 : callable Yaao.prog 119 = true := by kernel_rfl
theorem c12 : callable Yaao.prog 12 = true := by kernel_rfl
theorem c120 : callable Yaao.prog 120 = true := by kernel_rfl
theorem c121 : callable Yaao.prog 121 = true := by kernel_rfl
theorem c13 : callable Yaao.prog 13 = true := by kernel_rfl
theorem c14 : callable Yaao.prog 14 = true := by kernel_rfl
theorem c15 : callable Yaao.prog 15 = true := by kernel_rfl
theorem c16 : callable Yaao.prog 16 = true := by kernel_rfl
theorem c17 : callable Yaao.prog 17 = true := by kernel_rfl
theorem c18 : callable Yaao.prog 18 = true := by kernel_rfl
theorem c19 : callable Yaao.prog 19 = true := by kernel_rfl
theorem c20 : callable Yaao.prog 20 = true := by kernel_rfl
theorem c21 : callable Yaao.prog 21 = true := by kernel_rfl
theorem c22 : callable Yaao.prog 22 = true := by kernel_rfl
theorem c23 : callable Yaao.prog 23 = true := by kernel_rfl
theorem c24 : callable Yaao.prog 24 = true := by kernel_rfl
theorem c25 : callable Yaao.prog 25 = true := by kernel_rfl
theorem c26 : callable Yaao.prog 26 = true := by kernel_rfl
theorem c27 : callable Yaao.prog 27 = true := by kernel_rfl
theorem c28 : callable Yaao.prog 28 = true := by kernel_rfl
theorem c29 : callable Yaao.prog 29 = true := by kernel_rfl
theorem c30 : callable Yaao.prog 30 = true := by kernel_rfl
theorem c31 : callable Yaao.prog 31 = true := by kernel_rfl
theorem c32 : callable Yaao.prog 32 = true := by kernel_rfl
theorem c33 : callable Yaao.prog 33 = true := by kernel_rfl
theorem c34 : callable Yaao.prog 34 = true := by kernel_rfl
theorem c35 : callable Yaao.prog 35 = true := by kernel_rfl
theorem c36 : callable Yaao.prog 36 = true := by kernel_rfl
theorem c37 : callable Yaao.prog 37 = true := by kernel_rfl
theorem c38 : callable Yaao.prog 38 = true := by kernel_rfl
theorem c39 : callable Yaao.prog 39 = true := by kernel_rfl
theorem c40 : callable Yaao.prog 40 = true := by kernel_rfl
theorem c41 : callable Yaao.prog 41 = true := by kernel_rfl
theorem c42 : callable Yaao.prog 42 = true := by kernel_rfl
theorem c43 : callable Yaao.prog 43 = true := by kernel_rfl
theorem c44 : callable Yaao.prog 44 = true := by kernel_rfl
theorem c45 : callable Yaao.prog 45 = true := by kernel_rfl
theorem c46 : callable Yaao.prog 46 = true := by kernel_rfl
theorem c47 : callable Yaao.prog 47 = true := by kernel_rfl
theorem c48 : callable Yaao.prog 48 = true := by kernel_rfl
theorem c49 : callable Yaao.prog 49 = true := by kernel_rfl
theorem c5 : callable Yaao.prog 5 = true := by kernel_rfl
theorem c50 : callable Yaao.prog 50 = true := by kernel_rfl
theorem c51 : callable Yaao.prog 51 = true := by kernel_rfl
theorem c52 : callable Yaao.prog 52 = true := by kernel_rfl
theorem c53 : callable Yaao.prog 53 = true := by kernel_rfl
theorem c54 : callable Yaao.prog 54 = true := by kernel_rfl
theorem c55 : callable Yaao.prog 55 = true := by kernel_rfl
theorem c56 : callable Yaao.prog 56 = true := by kernel_rfl
theorem c57 : callable Yaao.prog 57 = true := by kernel_rfl
theorem c58 : callable Yaao.prog 58 = true := by kernel_rfl
theorem c59 : callable Yaao.prog 59 = true := by kernel_rfl
theorem c6 : callable Yaao.prog 6 = true := by kernel_rfl
theorem c60 : callable Yaao.prog 60 = true := by kernel_rfl
theorem c61 : callable Yaao.prog 61 = true := by kernel_rfl
theorem c62 : callable Yaao.prog 62 = true := by kernel_rfl
theorem c63 : callable Yaao.prog 63 = true := by kernel_rfl
theorem c64 : callable Yaao.prog 64 = true := by kernel_rfl
theorem c65 : callable Yaao.prog 65 = true := by kernel_rfl
theorem c66 : callable Yaao.prog 66 = true := by kernel_rfl
theorem c67 : callable Yaao.prog 67 = true := by kernel_rfl
theorem c68 : callable Yaao.prog 68 = true := by kernel_rfl
theorem c69 : callable Yaao.prog 69 = true := by kernel_rfl
theorem c7 : callable Yaao.prog 7 = true := by kernel_rfl
theorem c70 : callable Yaao.prog 70 = true := by kernel_rfl
theorem c71 : callable Yaao.prog 71 = true := by kernel_rfl
theorem c72 : callable Yaao.prog 72 = true := by kernel_rfl
theorem c73 : callable Yaao.prog 73 = true := by kernel_rfl
theorem c74 : callable Yaao.prog 74 = true := by kernel_rfl
theorem c75 : callable Yaao.prog 75 = true := by kernel_rfl
theorem c76 : callable Yaao.prog 76 = true := by kernel_rfl
theorem c77 : callable Yaao.prog 77 = true := by kernel_rfl
theorem c78 : callable Yaao.prog 78 = true := by kernel_rfl
theorem c79 : callable Yaao.prog 79 = true := by kernel_rfl
theorem c8 : callable Yaao.prog 8 = true := by kernel_rfl
theorem c80 : callable Yaao.prog 80 = true := by kernel_rfl
theorem c81 : callable Yaao.prog 81 = true := by kernel_rfl
theorem c82 : callable Yaao.prog 82 = true := by kernel_rfl
theorem c83 : callable Yaao.prog 83 = true := by kernel_rfl
theorem c84 : callable Yaao.prog 84 = true := by kernel_rfl
theorem c85 : callable Yaao.prog 85 = true := by kernel_rfl
theorem c86 : callable Yaao.prog 86 = true := by kernel_rfl
theorem c87 : callable Yaao.prog 87 = true := by kernel_rfl
theorem c88 : callable Yaao.prog 88 = true := by kernel_rfl
theorem c89 : callable Yaao.prog 89 = true := by kernel_rfl
theorem c9 : callable Yaao.prog 9 = true := by kernel_rfl
theorem c90 : callable Yaao.prog 90 = true := by kernel_rfl
theorem c91 : callable Yaao.prog 91 = true := by kernel_rfl
theorem c92 : callable Yaao.prog 92 = true := by kernel_rfl
theorem c93 : callable Yaao.prog 93 = true := by kernel_rfl
theorem c94 : callable Yaao.prog 94 = true := by kernel_rfl
theorem c95 : callable Yaao.prog 95 = true := by kernel_rfl
theorem c96 : callable Yaao.prog 96 = true := by kernel_rfl
theorem c97 : callable Yaao.prog 97 = true := by kernel_rfl
theorem c98 : callable Yaao.prog 98 = true := by kernel_rfl
theorem c99 : callable Yaao.prog 99 = true := by kernel_rfl
theorem e100 : elT Yaao.prog 100 = 106 := by kernel_rfl
theorem e102 : elT Yaao.prog 102 = 104 := by kernel_rfl
theorem e126 : elT Yaao.prog 126 = 125 := by kernel_rfl
theorem e127 : elT Yaao.prog 127 = 132 := by kernel_rfl
theorem e142 : elT Yaao.prog 142 = 145 := by kernel_rfl
theorem e143 : elT Yaao.prog 143 = 147 := by kernel_rfl
theorem e166 : elT Yaao.prog 166 = 178 := by kernel_rfl
theorem e22 : elT Yaao.prog 22 = 4 := by kernel_rfl
theorem e23 : elT Yaao.prog 23 = 30 := by kernel_rfl
theorem e26 : elT Yaao.prog 26 = 9 := by kernel_rfl
theorem e27 : elT Yaao.prog 27 = 32 := by kernel_rfl
theorem e28 : elT Yaao.prog 28 = 113 := by kernel_rfl
theorem e39 : elT Yaao.prog 39 = 5 := by kernel_rfl
theorem e46 : elT Yaao.prog 46 = 91 := by kernel_rfl
theorem e49 : elT Yaao.prog 49 = 51 := by kernel_rfl
theorem e56 : elT Yaao.prog 56 = 28 := by kernel_rfl
theorem e57 : elT Yaao.prog 57 = 76 := by kernel_rfl
theorem e58 : elT Yaao.prog 58 = 27 := by kernel_rfl
theorem e59 : elT Yaao.prog 59 = 23 := by kernel_rfl
theorem e60 : elT Yaao.prog 60 = 46 := by kernel_rfl
theorem e61 : elT Yaao.prog 61 = 81 := by kernel_rfl
theorem e62 : elT Yaao.prog 62 = 96 := by kernel_rfl
theorem e63 : elT Yaao.prog 63 = 26 := by kernel_rfl
theorem e76 : elT Yaao.prog 76 = 3 := by kernel_rfl
theorem e81 : elT Yaao.prog 81 = 84 := by kernel_rfl
theorem e89 : elT Yaao.prog 89 = 94 := by kernel_rfl
theorem e96 : elT Yaao.prog 96 = 117 := by kernel_rfl
theorem fl104 : flatT Yaao.prog 104 = true := by kernel_rfl
theorem fl106 : flatT Yaao.prog 106 = false := by kernel_rfl
theorem fl113 : flatT Yaao.prog 113 = true := by kernel_rfl
theorem fl117 : flatT Yaao.prog 117 = true := by kernel_rfl
theorem fl125 : flatT Yaao.prog 125 = true := by kernel_rfl
theorem fl132 : flatT Yaao.prog 132 = true := by kernel_rfl
theorem fl145 : flatT Yaao.prog 145 = true := by kernel_rfl
theorem fl147 : flatT Yaao.prog 147 = true := by kernel_rfl
theorem fl156 : flatT Yaao.prog 156 = true := by kernel_rfl
theorem fl175 : flatT Yaao.prog 175 = true := by kernel_rfl
theorem fl178 : flatT Yaao.prog 178 = true := by kernel_rfl
theorem fl30 : flatT Yaao.prog 30 = true := by kernel_rfl
theorem fl32 : flatT Yaao.prog 32 = true := by kernel_rfl
theorem fl41 : flatT Yaao.prog 41 = true := by kernel_rfl
theorem fl51 : flatT Yaao.prog 51 = true := by kernel_rfl
theorem fl65 : flatT Yaao.prog 65 = true := by kernel_rfl
theorem fl70 : flatT Yaao.prog 70 = true := by kernel_rfl
theorem fl84 : flatT Yaao.prog 84 = true := by kernel_rfl
theorem fl91 : flatT Yaao.prog 91 = true := by kernel_rfl
theorem fl94 : flatT Yaao.prog 94 = true := by kernel_rfl
theorem i102 : infoT Yaao.prog 102 = true := by kernel_rfl
theorem i104 : infoT Yaao.prog 104 = true := by kernel_rfl
theorem i106 : infoT Yaao.prog 106 = true := by kernel_rfl
theorem i113 : infoT Yaao.prog 113 = true := by kernel_rfl
theorem i117 : infoT Yaao.prog 117 = true := by kernel_rfl
theorem i125 : infoT Yaao.prog 125 = true := by kernel_rfl
theorem i132 : infoT Yaao.prog 132 = true := by kernel_rfl
theorem i145 : infoT Yaao.prog 145 = true := by kernel_rfl
theorem i147 : infoT Yaao.prog 147 = true := by kernel_rfl
theorem i178 : infoT Yaao.prog 178 = true := by kernel_rfl
theorem i23 : infoT Yaao.prog 23 = true := by kernel_rfl
theorem i26 : infoT Yaao.prog 26 = true := by kernel_rfl
theorem i27 : infoT Yaao.prog 27 = true := by kernel_rfl
theorem i28 : infoT Yaao.prog 28 = true := by kernel_rfl
theorem i3 : infoT Yaao.prog 3 = true := by kernel_rfl
theorem i30 : infoT Yaao.prog 30 = true := by kernel_rfl
theorem i32 : infoT Yaao.prog 32 = true := by kernel_rfl
theorem i39 : infoT Yaao.prog 39 = true := by kernel_rfl
theorem i4 : infoT Yaao.prog 4 = true := by kernel_rfl
theorem i41 : infoT Yaao.prog 41 = true := by kernel_rfl
theorem i46 : infoT Yaao.prog 46 = true := by kernel_rfl
theorem i49 : infoT Yaao.prog 49 = true := by kernel_rfl
theorem i5 : infoT Yaao.prog 5 = true := by kernel_rfl
theorem i51 : infoT Yaao.prog 51 = true := by kernel_rfl
theorem i56 : infoT Yaao.prog 56 = true := by kernel_rfl
theorem i57 : infoT Yaao.prog 57 = true := by kernel_rfl
theorem i58 : infoT Yaao.prog 58 = true := by kernel_rfl
theorem i59 : infoT Yaao.prog 59 = true := by kernel_rfl
theorem i60 : infoT Yaao.prog 60 = true := by kernel_rfl
theorem i61 : infoT Yaao.prog 61 = true := by kernel_rfl
theorem i62 : infoT Yaao.prog 62 = true := by kernel_rfl
theorem i63 : infoT Yaao.prog 63 = true := by kernel_rfl
theorem i65 : infoT Yaao.prog 65 = true := by kernel_rfl
theorem i76 : infoT Yaao.prog 76 = true := by kernel_rfl
theorem i81 : infoT Yaao.prog 81 = true := by kernel_rfl
theorem i84 : infoT Yaao.prog 84 = true := by kernel_rfl
theorem i9 : infoT Yaao.prog 9 = true := by kernel_rfl
theorem i91 : infoT Yaao.prog 91 = true := by kernel_rfl
theorem i94 : infoT Yaao.prog 94 = true := by kernel_rfl
theorem i96 : infoT Yaao.prog 96 = true := by kernel_rfl
theorem ie100 : infoT Yaao.prog (elT Yaao.prog 100) = true := by kernel_rfl
theorem ie102 : infoT Yaao.prog (elT Yaao.prog 102) = true := by kernel_rfl
theorem ie126 : infoT Yaao.prog (elT Yaao.prog 126) = true := by kernel_rfl
theorem ie127 : infoT Yaao.prog (elT Yaao.prog 127) = true := by kernel_rfl
theorem ie142 : infoT Yaao.prog (elT Yaao.prog 142) = true := by kernel_rfl
theorem ie143 : infoT Yaao.prog (elT Yaao.prog 143) = true := by kernel_rfl
theorem ie166 : infoT Yaao.prog (elT Yaao.prog 166) = true := by kernel_rfl
theorem ie22 : infoT Yaao.prog (elT Yaao.prog 22) = true := by kernel_rfl
theorem ie23 : infoT Yaao.prog (elT Yaao.prog 23) = true := by kernel_rfl
theorem ie26 : infoT Yaao.prog (elT Yaao.prog 26) = true := by kernel_rfl
theorem ie27 : infoT Yaao.prog (elT Yaao.prog 27) = true := by kernel_rfl
theorem ie28 : infoT Yaao.prog (elT Yaao.prog 28) = true := by kernel_rfl
theorem ie39 : infoT Yaao.prog (elT Yaao.prog 39) = true := by kernel_rfl
theorem ie46 : infoT Yaao.prog (elT Yaao.prog 46) = true := by kernel_rfl
theorem ie49 : infoT Yaao.prog (elT Yaao.prog 49) = true := by kernel_rfl
theorem ie56 : infoT Yaao.prog (elT Yaao.prog 56) = true := by kernel_rfl
theorem ie57 : infoT Yaao.prog (elT Yaao.prog 57) = true := by kernel_rfl
theorem ie58 : infoT Yaao.prog (elT Yaao.prog 58) = true := by kernel_rfl
theorem ie59 : infoT Yaao.prog (elT Yaao.prog 59) = true := by kernel_rfl
theorem ie60 : infoT Yaao.prog (elT Yaao.prog 60) = true := by kernel_rfl
theorem ie61 : infoT Yaao.prog (elT Yaao.prog 61) = true := by kernel_rfl
theorem ie62 : infoT Yaao.prog (elT Yaao.prog 62) = true := by kernel_rfl
theorem ie63 : infoT Yaao.prog (elT Yaao.prog 63) = true := by kernel_rfl
theorem ie76 : infoT Yaao.prog (elT Yaao.prog 76) = true := by kernel_rfl
theorem ie81 : infoT Yaao.prog (elT Yaao.prog 81) = true := by kernel_rfl
theorem ie89 : infoT Yaao.prog (elT Yaao.prog 89) = true := by kernel_rfl
theorem ie96 : infoT Yaao.prog (elT Yaao.prog 96) = true := by kernel_rfl
theorem k100 : kindT Yaao.prog 100 = 6 := by kernel_rfl
theorem k102 : kindT Yaao.prog 102 = 6 := by kernel_rfl
theorem k104 : kindT Yaao.prog 104 = 7 := by kernel_rfl
theorem k106 : kindT Yaao.prog 106 = 7 := by kernel_rfl
theorem k113 : kindT Yaao.prog 113 = 7 := by kernel_rfl
theorem k117 : kindT Yaao.prog 117 = 7 := by kernel_rfl
theorem k125 : kindT Yaao.prog 125 = 7 := by kernel_rfl
theorem k126 : kindT Yaao.prog 126 = 6 := by kernel_rfl
theorem k127 : kindT Yaao.prog 127 = 6 := by kernel_rfl
theorem k132 : kindT Yaao.prog 132 = 7 := by kernel_rfl
theorem k142 : kindT Yaao.prog 142 = 6 := by kernel_rfl
theorem k143 : kindT Yaao.prog 143 = 6 := by kernel_rfl
theorem k145 : kindT Yaao.prog 145 = 7 := by kernel_rfl
theorem k147 : kindT Yaao.prog 147 = 7 := by kernel_rfl
theorem k161 : kindT Yaao.prog 161 = 3 := by kernel_rfl
theorem k166 : kindT Yaao.prog 166 = 6 := by kernel_rfl
theorem k178 : kindT Yaao.prog 178 = 7 := by kernel_rfl
theorem k22 : kindT Yaao.prog 22 = 6 := by kernel_rfl
theorem k23 : kindT Yaao.prog 23 = 6 := by kernel_rfl
theorem k26 : kindT Yaao.prog 26 = 6 := by kernel_rfl
theorem k27 : kindT Yaao.prog 27 = 6 := by kernel_rfl
theorem k28 : kindT Yaao.prog 28 = 6 := by kernel_rfl
theorem k3 : kindT Yaao.prog 3 = 1 := by kernel_rfl
theorem k30 : kindT Yaao.prog 30 = 7 := by kernel_rfl
theorem k32 : kindT Yaao.prog 32 = 7 := by kernel_rfl
theorem k39 : kindT Yaao.prog 39 = 6 := by kernel_rfl
theorem k4 : kindT Yaao.prog 4 = 4 := by kernel_rfl
theorem k41 : kindT Yaao.prog 41 = 7 := by kernel_rfl
theorem k46 : kindT Yaao.prog 46 = 6 := by kernel_rfl
theorem k49 : kindT Yaao.prog 49 = 6 := by kernel_rfl
theorem k5 : kindT Yaao.prog 5 = 2 := by kernel_rfl
theorem k51 : kindT Yaao.prog 51 = 7 := by kernel_rfl
theorem k56 : kindT Yaao.prog 56 = 6 := by kernel_rfl
theorem k57 : kindT Yaao.prog 57 = 6 := by kernel_rfl
theorem k58 : kindT Yaao.prog 58 = 6 := by kernel_rfl
theorem k59 : kindT Yaao.prog 59 = 6 := by kernel_rfl
theorem k60 : kindT Yaao.prog 60 = 6 := by kernel_rfl
theorem k61 : kindT Yaao.prog 61 = 6 := by kernel_rfl
theorem k62 : kindT Yaao.prog 62 = 6 := by kernel_rfl
theorem k63 : kindT Yaao.prog 63 = 6 := by kernel_rfl
theorem k65 : kindT Yaao.prog 65 = 7 := by kernel_rfl
theorem k76 : kindT Yaao.prog 76 = 6 := by kernel_rfl
theorem k81 : kindT Yaao.prog 81 = 6 := by kernel_rfl
theorem k84 : kindT Yaao.prog 84 = 7 := by kernel_rfl
theorem k89 : kindT Yaao.prog 89 = 6 := by kernel_rfl
theorem k9 : kindT Yaao.prog 9 = 5 := by kernel_rfl
theorem k91 : kindT Yaao.prog 91 = 7 := by kernel_rfl
theorem k94 : kindT Yaao.prog 94 = 7 := by kernel_rfl
theorem k96 : kindT Yaao.prog 96 = 6 := by kernel_rfl
theorem n102 : oneT Yaao.prog 102 = true := by kernel_rfl
theorem n23 : oneT Yaao.prog 23 = true := by kernel_rfl
theorem n26 : oneT Yaao.prog 26 = true := by kernel_rfl
theorem n27 : oneT Yaao.prog 27 = true := by kernel_rfl
theorem n28 : oneT Yaao.prog 28 = true := by kernel_rfl
theorem n3 : oneT Yaao.prog 3 = true := by kernel_rfl
theorem n39 : oneT Yaao.prog 39 = true := by kernel_rfl
theorem n4 : oneT Yaao.prog 4 = true := by kernel_rfl
theorem n46 : oneT Yaao.prog 46 = true := by kernel_rfl
theorem n49 : oneT Yaao.prog 49 = true := by kernel_rfl
theorem n5 : oneT Yaao.prog 5 = true := by kernel_rfl
theorem n56 : oneT Yaao.prog 56 = true := by kernel_rfl
theorem n57 : oneT Yaao.prog 57 = true := by kernel_rfl
theorem n58 : oneT Yaao.prog 58 = true := by kernel_rfl
theorem n59 : oneT Yaao.prog 59 = true := by kernel_rfl
theorem n60 : oneT Yaao.prog 60 = true := by kernel_rfl
theorem n61 : oneT Yaao.prog 61 = true := by kernel_rfl
theorem n62 : oneT Yaao.prog 62 = true := by kernel_rfl
theorem n63 : oneT Yaao.prog 63 = true := by kernel_rfl
theorem n76 : oneT Yaao.prog 76 = true := by kernel_rfl
theorem n81 : oneT Yaao.prog 81 = true := by kernel_rfl
theorem n9 : oneT Yaao.prog 9 = true := by kernel_rfl
theorem n96 : oneT Yaao.prog 96 = true := by kernel_rfl
theorem o104_0 : offT Yaao.prog 104 0 = some 0 := by kernel_rfl
theorem o104_1 : offT Yaao.prog 104 1 = some 1 := by kernel_rfl
theorem o104_2 : offT Yaao.prog 104 2 = some 2 := by kernel_rfl
theorem o106_0 : offT Yaao.prog 106 0 = some 0 := by kernel_rfl
theorem o106_1 : offT Yaao.prog 106 1 = some 1 := by kernel_rfl
theorem o106_2 : offT Yaao.prog 106 2 = some 4 := by kernel_rfl
theorem o113_0 : offT Yaao.prog 113 0 = some 0 := by kernel_rfl
theorem o113_1 : offT Yaao.prog 113 1 = some 1 := by kernel_rfl
theorem o113_2 : offT Yaao.prog 113 2 = some 2 := by kernel_rfl
theorem o113_3 : offT Yaao.prog 113 3 = some 3 := by kernel_rfl
theorem o117_0 : offT Yaao.prog 117 0 = some 0 := by kernel_rfl
theorem o117_1 : offT Yaao.prog 117 1 = some 1 := by kernel_rfl
theorem o117_2 : offT Yaao.prog 117 2 = some 2 := by kernel_rfl
theorem o117_3 : offT Yaao.prog 117 3 = some 3 := by kernel_rfl
theorem o125_0 : offT Yaao.prog 125 0 = some 0 := by kernel_rfl
theorem o125_1 : offT Yaao.prog 125 1 = some 1 := by kernel_rfl
theorem o125_2 : offT Yaao.prog 125 2 = some 2 := by kernel_rfl
theorem o132_0 : offT Yaao.prog 132 0 = some 0 := by kernel_rfl
theorem o132_1 : offT Yaao.prog 132 1 = some 1 := by kernel_rfl
theorem o132_3 : offT Yaao.prog 132 3 = some 3 := by kernel_rfl
theorem o145_0 : offT Yaao.prog 145 0 = some 0 := by kernel_rfl
theorem o145_1 : offT Yaao.prog 145 1 = some 1 := by kernel_rfl
theorem o145_2 : offT Yaao.prog 145 2 = some 2 := by kernel_rfl
theorem o147_0 : offT Yaao.prog 147 0 = some 0 := by kernel_rfl
theorem o147_1 : offT Yaao.prog 147 1 = some 1 := by kernel_rfl
theorem o156_0 : offT Yaao.prog 156 0 = some 0 := by kernel_rfl
theorem o156_1 : offT Yaao.prog 156 1 = some 1 := by kernel_rfl
theorem o156_2 : offT Yaao.prog 156 2 = some 2 := by kernel_rfl
theorem o156_3 : offT Yaao.prog 156 3 = some 3 := by kernel_rfl
theorem o175_0 : offT Yaao.prog 175 0 = some 0 := by kernel_rfl
theorem o175_1 : offT Yaao.prog 175 1 = some 1 := by kernel_rfl
theorem o175_2 : offT Yaao.prog 175 2 = some 2 := by kernel_rfl
theorem o178_0 : offT Yaao.prog 178 0 = some 0 := by kernel_rfl
theorem o178_1 : offT Yaao.prog 178 1 = some 1 := by kernel_rfl
theorem o178_2 : offT Yaao.prog 178 2 = some 2 := by kernel_rfl
theorem o30_0 : offT Yaao.prog 30 0 = some 0 := by kernel_rfl
theorem o30_1 : offT Yaao.prog 30 1 = some 1 := by kernel_rfl
theorem o30_2 : offT Yaao.prog 30 2 = some 2 := by kernel_rfl
theorem o30_3 : offT Yaao.prog 30 3 = some 3 := by kernel_rfl
theorem o30_4 : offT Yaao.prog 30 4 = some 4 := by kernel_rfl
theorem o32_0 : offT Yaao.prog 32 0 = some 0 := by kernel_rfl
theorem o41_0 : offT Yaao.prog 41 0 = some 0 := by kernel_rfl
theorem o41_1 : offT Yaao.prog 41 1 = some 1 := by kernel_rfl
theorem o51_0 : offT Yaao.prog 51 0 = some 0 := by kernel_rfl
theorem o51_1 : offT Yaao.prog 51 1 = some 1 := by kernel_rfl
theorem o51_2 : offT Yaao.prog 51 2 = some 2 := by kernel_rfl
theorem o65_0 : offT Yaao.prog 65 0 = some 0 := by kernel_rfl
theorem o65_1 : offT Yaao.prog 65 1 = some 1 := by kernel_rfl
theorem o65_2 : offT Yaao.prog 65 2 = some 2 := by kernel_rfl
theorem o65_3 : offT Yaao.prog 65 3 = some 3 := by kernel_rfl
theorem o65_4 : offT Yaao.prog 65 4 = some 4 := by kernel_rfl
theorem o65_5 : offT Yaao.prog 65 5 = some 5 := by kernel_rfl
theorem o65_6 : offT Yaao.prog 65 6 = some 6 := by kernel_rfl
theorem o65_7 : offT Yaao.prog 65 7 = some 7 := by kernel_rfl
theorem o70_0 : offT Yaao.prog 70 0 = some 0 := by kernel_rfl
theorem o70_1 : offT Yaao.prog 70 1 = some 1 := by kernel_rfl
theorem o84_0 : offT Yaao.prog 84 0 = some 0 := by kernel_rfl
theorem o84_1 : offT Yaao.prog 84 1 = some 1 := by kernel_rfl
theorem o91_0 : offT Yaao.prog 91 0 = some 0 := by kernel_rfl
theorem o91_1 : offT Yaao.prog 91 1 = some 1 := by kernel_rfl
theorem o91_2 : offT Yaao.prog 91 2 = some 2 := by kernel_rfl
theorem o91_3 : offT Yaao.prog 91 3 = some 3 := by kernel_rfl
theorem o91_4 : offT Yaao.prog 91 4 = some 4 := by kernel_rfl
theorem o94_0 : offT Yaao.prog 94 0 = some 0 := by kernel_rfl
theorem o94_1 : offT Yaao.prog 94 1 = some 1 := by kernel_rfl
theorem o94_2 : offT Yaao.prog 94 2 = some 2 := by kernel_rfl
theorem s102 : szT Yaao.prog 102 = 1 := by kernel_rfl
theorem s104 : szT Yaao.prog 104 = 3 := by kernel_rfl
theorem s106 : szT Yaao.prog 106 = 5 := by kernel_rfl
theorem s113 : szT Yaao.prog 113 = 4 := by kernel_rfl
theorem s117 : szT Yaao.prog 117 = 4 := by kernel_rfl
theorem s125 : szT Yaao.prog 125 = 3 := by kernel_rfl
theorem s132 : szT Yaao.prog 132 = 4 := by kernel_rfl
theorem s145 : szT Yaao.prog 145 = 3 := by kernel_rfl
theorem s147 : szT Yaao.prog 147 = 2 := by kernel_rfl
theorem s178 : szT Yaao.prog 178 = 3 := by kernel_rfl
theorem s23 : szT Yaao.prog 23 = 1 := by kernel_rfl
theorem s26 : szT Yaao.prog 26 = 1 := by kernel_rfl
theorem s27 : szT Yaao.prog 27 = 1 := by kernel_rfl
theorem s28 : szT Yaao.prog 28 = 1 := by kernel_rfl
theorem s3 : szT Yaao.prog 3 = 1 := by kernel_rfl
theorem s30 : szT Yaao.prog 30 = 5 := by kernel_rfl
theorem s32 : szT Yaao.prog 32 = 1 := by kernel_rfl
theorem s39 : szT Yaao.prog 39 = 1 := by kernel_rfl
theorem s4 : szT Yaao.prog 4 = 1 := by kernel_rfl
theorem s41 : szT Yaao.prog 41 = 2 := by kernel_rfl
theorem s46 : szT Yaao.prog 46 = 1 := by kernel_rfl
theorem s49 : szT Yaao.prog 49 = 1 := by kernel_rfl
theorem s5 : szT Yaao.prog 5 = 1 := by kernel_rfl
theorem s51 : szT Yaao.prog 51 = 3 := by kernel_rfl
theorem s56 : szT Yaao.prog 56 = 1 := by kernel_rfl
theorem s57 : szT Yaao.prog 57 = 1 := by kernel_rfl
theorem s58 : szT Yaao.prog 58 = 1 := by kernel_rfl
theorem s59 : szT Yaao.prog 59 = 1 := by kernel_rfl
theorem s60 : szT Yaao.prog 60 = 1 := by kernel_rfl
theorem s61 : szT Yaao.prog 61 = 1 := by kernel_rfl
theorem s62 : szT Yaao.prog 62 = 1 := by kernel_rfl
theorem s63 : szT Yaao.prog 63 = 1 := by kernel_rfl
theorem s65 : szT Yaao.prog 65 = 8 := by kernel_rfl
theorem s76 : szT Yaao.prog 76 = 1 := by kernel_rfl
theorem s81 : szT Yaao.prog 81 = 1 := by kernel_rfl
theorem s84 : szT Yaao.prog 84 = 2 := by kernel_rfl
theorem s9 : szT Yaao.prog 9 = 1 := by kernel_rfl
theorem s91 : szT Yaao.prog 91 = 5 := by kernel_rfl
theorem s94 : szT Yaao.prog 94 = 3 := by kernel_rfl
theorem s96 : szT Yaao.prog 96 = 1 := by kernel_rfl
theorem se100 : szT Yaao.prog (elT Yaao.prog 100) = 5 := by kernel_rfl
theorem se102 : szT Yaao.prog (elT Yaao.prog 102) = 3 := by kernel_rfl
theorem se126 : szT Yaao.prog (elT Yaao.prog 126) = 3 := by kernel_rfl
theorem se127 : szT Yaao.prog (elT Yaao.prog 127) = 4 := by kernel_rfl
theorem se142 : szT Yaao.prog (elT Yaao.prog 142) = 3 := by kernel_rfl
theorem se143 : szT Yaao.prog (elT Yaao.prog 143) = 2 := by kernel_rfl
theorem se166 : szT Yaao.prog (elT Yaao.prog 166) = 3 := by kernel_rfl
theorem se22 : szT Yaao.prog (elT Yaao.prog 22) = 1 := by kernel_rfl
theorem se23 : szT Yaao.prog (elT Yaao.prog 23) = 5 := by kernel_rfl
theorem se26 : szT Yaao.prog (elT Yaao.prog 26) = 1 := by kernel_rfl
theorem se27 : szT Yaao.prog (elT Yaao.prog 27) = 1 := by kernel_rfl
theorem se28 : szT Yaao.prog (elT Yaao.prog 28) = 4 := by kernel_rfl
theorem se39 : szT Yaao.prog (elT Yaao.prog 39) = 1 := by kernel_rfl
theorem se46 : szT Yaao.prog (elT Yaao.prog 46) = 5 := by kernel_rfl
theorem se49 : szT Yaao.prog (elT Yaao.prog 49) = 3 := by kernel_rfl
theorem se56 : szT Yaao.prog (elT Yaao.prog 56) = 1 := by kernel_rfl
theorem se57 : szT Yaao.prog (elT Yaao.prog 57) = 1 := by kernel_rfl
theorem se58 : szT Yaao.prog (elT Yaao.prog 58) = 1 := by kernel_rfl
theorem se59 : szT Yaao.prog (elT Yaao.prog 59) = 1 := by kernel_rfl
theorem se60 : szT Yaao.prog (elT Yaao.prog 60) = 1 := by kernel_rfl
theorem se61 : szT Yaao.prog (elT Yaao.prog 61) = 1 := by kernel_rfl
theorem se62 : szT Yaao.prog (elT Yaao.prog 62) = 1 := by kernel_rfl
theorem se63 : szT Yaao.prog (elT Yaao.prog 63) = 1 := by kernel_rfl
theorem se76 : szT Yaao.prog (elT Yaao.prog 76) = 1 := by kernel_rfl
theorem se81 : szT Yaao.prog (elT Yaao.prog 81) = 2 := by kernel_rfl
theorem se89 : szT Yaao.prog (elT Yaao.prog 89) = 3 := by kernel_rfl
theorem se96 : szT Yaao.prog (elT Yaao.prog 96) = 4 := by kernel_rfl
theorem u161 : (Yaao.prog.underlying 161).isSome = true := by kernel_rfl
theorem u3 : (Yaao.prog.underlying 3).isSome = true := by kernel_rfl
theorem u5 : (Yaao.prog.underlying 5).isSome = true := by kernel_rfl
theorem z104 : zeroT Yaao.prog 104 = some [.int .i64 0, .int .i64 0, .slice none 0 0] := by kernel_rfl
theorem z106 : zeroT Yaao.prog 106 = some [.slice none 0 0, .int .i64 0, .int .i64 0, .slice none 0 0, .int .i64 0] := by kernel_rfl
theorem z113 : zeroT Yaao.prog 113 = some [.int .i64 0, .string ⟨#[]⟩, .int .i64 0, .int .i64 0] := by kernel_rfl
theorem z117 : zeroT Yaao.prog 117 = some [.int .i64 0, .string ⟨#[]⟩, .int .i64 0, .int .i64 0] := by kernel_rfl
theorem z125 : zeroT Yaao.prog 125 = some [.slice none 0 0, .int .i64 0, .int .i64 0] := by kernel_rfl
theorem z132 : zeroT Yaao.prog 132 = some [.int .i64 0, .bool false, .int .i64 0, .int .i64 0] := by kernel_rfl
theorem z145 : zeroT Yaao.prog 145 = some [.slice none 0 0, .int .i64 0, .int .i64 0] := by kernel_rfl
theorem z147 : zeroT Yaao.prog 147 = some [.int .i64 0, .bool false] := by kernel_rfl
theorem z156 : zeroT Yaao.prog 156 = some [.slice none 0 0, .int .i64 0, .slice none 0 0, .bool false] := by kernel_rfl
theorem z175 : zeroT Yaao.prog 175 = some [.slice none 0 0, .int .i64 0, .bool false] := by kernel_rfl
theorem z178 : zeroT Yaao.prog 178 = some [.bool false, .slice none 0 0, .int .i64 0] := by kernel_rfl
theorem z30 : zeroT Yaao.prog 30 = some [.bool false, .int .i64 0, .int .i64 0, .slice none 0 0, .slice none 0 0] := by kernel_rfl
theorem z32 : zeroT Yaao.prog 32 = some [.slice none 0 0] := by kernel_rfl
theorem z41 : zeroT Yaao.prog 41 = some [.string ⟨#[]⟩, .slice none 0 0] := by kernel_rfl
theorem z51 : zeroT Yaao.prog 51 = some [.int .i64 0, .string ⟨#[]⟩, .slice none 0 0] := by kernel_rfl
theorem z65 : zeroT Yaao.prog 65 = some [.slice none 0 0, .slice none 0 0, .slice none 0 0, .slice none 0 0, .slice none 0 0, .slice none 0 0, .slice none 0 0, .slice none 0 0] := by kernel_rfl
theorem z70 : zeroT Yaao.prog 70 = some [.slice none 0 0, .int .i64 0] := by kernel_rfl
theorem z84 : zeroT Yaao.prog 84 = some [.string ⟨#[]⟩, .slice none 0 0] := by kernel_rfl
theorem z91 : zeroT Yaao.prog 91 = some [.int .i64 0, .slice none 0 0, .int .i64 0, .slice none 0 0, .int .i64 0] := by kernel_rfl
theorem z94 : zeroT Yaao.prog 94 = some [.slice none 0 0, .slice none 0 0, .int .i64 0] := by kernel_rfl
theorem ze100 : zeroT Yaao.prog (elT Yaao.prog 100) = some [.slice none 0 0, .int .i64 0, .int .i64 0, .slice none 0 0, .int .i64 0] := by kernel_rfl
theorem ze102 : zeroT Yaao.prog (elT Yaao.prog 102) = some [.int .i64 0, .int .i64 0, .slice none 0 0] := by kernel_rfl
theorem ze126 : zeroT Yaao.prog (elT Yaao.prog 126) = some [.slice none 0 0, .int .i64 0, .int .i64 0] := by kernel_rfl
theorem ze127 : zeroT Yaao.prog (elT Yaao.prog 127) = some [.int .i64 0, .bool false, .int .i64 0, .int .i64 0] := by kernel_rfl
theorem ze142 : zeroT Yaao.prog (elT Yaao.prog 142) = some [.slice none 0 0, .int .i64 0, .int .i64 0] := by kernel_rfl
theorem ze143 : zeroT Yaao.prog (elT Yaao.prog 143) = some [.int .i64 0, .bool false] := by kernel_rfl
theorem ze166 : zeroT Yaao.prog (elT Yaao.prog 166) = some [.bool false, .slice none 0 0, .int .i64 0] := by kernel_rfl
theorem ze22 : zeroT Yaao.prog (elT Yaao.prog 22) = some [.bool false] := by kernel_rfl
theorem ze23 : zeroT Yaao.prog (elT Yaao.prog 23) = some [.bool false, .int .i64 0, .int .i64 0, .slice none 0 0, .slice none 0 0] := by kernel_rfl
theorem ze26 : zeroT Yaao.prog (elT Yaao.prog 26) = some [.string ⟨#[]⟩] := by kernel_rfl
theorem ze27 : zeroT Yaao.prog (elT Yaao.prog 27) = some [.slice none 0 0] := by kernel_rfl
theorem ze28 : zeroT Yaao.prog (elT Yaao.prog 28) = some [.int .i64 0, .string ⟨#[]⟩, .int .i64 0, .int .i64 0] := by kernel_rfl
theorem ze39 : zeroT Yaao.prog (elT Yaao.prog 39) = some [.int .u8 0] := by kernel_rfl
theorem ze46 : zeroT Yaao.prog (elT Yaao.prog 46) = some [.int .i64 0, .slice none 0 0, .int .i64 0, .slice none 0 0, .int .i64 0] := by kernel_rfl
theorem ze49 : zeroT Yaao.prog (elT Yaao.prog 49) = some [.int .i64 0, .string ⟨#[]⟩, .slice none 0 0] := by kernel_rfl
theorem ze56 : zeroT Yaao.prog (elT Yaao.prog 56) = some [.slice none 0 0] := by kernel_rfl
theorem ze57 : zeroT Yaao.prog (elT Yaao.prog 57) = some [.slice none 0 0] := by kernel_rfl
theorem ze58 : zeroT Yaao.prog (elT Yaao.prog 58) = some [.slice none 0 0] := by kernel_rfl
theorem ze59 : zeroT Yaao.prog (elT Yaao.prog 59) = some [.slice none 0 0] := by kernel_rfl
theorem ze76 : zeroT Yaao.prog (elT Yaao.prog 76) = some [.int .i64 0] := by kernel_rfl
theorem ze81 : zeroT Yaao.prog (elT Yaao.prog 81) = some [.string ⟨#[]⟩, .slice none 0 0] := by kernel_rfl
theorem ze89 : zeroT Yaao.prog (elT Yaao.prog 89) = some [.slice none 0 0, .slice none 0 0, .int .i64 0] := by kernel_rfl
theorem ze96 : zeroT Yaao.prog (elT Yaao.prog 96) = some [.int .i64 0, .string ⟨#[]⟩, .int .i64 0, .int .i64 0] := by kernel_rfl
theorem ok3 : okCode Yaao.f3.ntmps (Yaao.f3.body.getD .skip) = true := by kernel_rfl
theorem ent3 {args : Array Value} {w : World} {R : Value → World → Prop} (hn : args.size ≤ 103) (h : VC Yaao.prog (Yaao.f3.body.getD .skip) (retK Yaao.prog Yaao.f3 R) (initEnv args) w) : CallsV Yaao.prog 3 args w R :=
  callsV_of_W hmix Yaao.func3 rfl ok3 hn h.out
theorem ok4 : okCode Yaao.f4.ntmps (Yaao.f4.body.getD .skip) = true := by kernel_rfl
theorem ent4 {args : Array Value} {w : World} {R : Value → World → Prop} (hn : args.size ≤ 83) (h : VC Yaao.prog (Yaao.f4.body.getD .skip) (retK Yaao.prog Yaao.f4 R) (initEnv args) w) : CallsV Yaao.prog 4 args w R :=
  callsV_of_W hmix Yaao.func4 rfl ok4 hn h.out
theorem ok5 : okCode Yaao.f5.ntmps (Yaao.f5.body.getD .skip) = true := by kernel_rfl
theorem ent5 {args : Array Value} {w : World} {R : Value → World → Prop} (hn : args.size ≤ 6) (h : VC Yaao.prog (Yaao.f5.body.getD .skip) (retK Yaao.prog Yaao.f5 R) (initEnv args) w) : CallsV Yaao.prog 5 args w R :=
  callsV_of_W hmix Yaao.func5 rfl ok5 hn h.out
theorem ok6 : okCode Yaao.f6.ntmps (Yaao.f6.body.getD .skip) = true := by kernel_rfl
theorem ent6 {args : Array Value} {w : World} {R : Value → World → Prop} (hn : args.size ≤ 27) (h : VC Yaao.prog (Yaao.f6.body.getD .skip) (retK Yaao.prog Yaao.f6 R) (initEnv args) w) : CallsV Yaao.prog 6 args w R :=
  callsV_of_W hmix Yaao.func6 rfl ok6 hn h.out
theorem ok7 : okCode Yaao.f7.ntmps (Yaao.f7.body.getD .skip) = true := by kernel_rfl
theorem ent7 {args : Array Value} {w : World} {R : Value → World → Prop} (hn : args.size ≤ 6) (h : VC Yaao.prog (Yaao.f7.body.getD .skip) (retK Yaao.prog Yaao.f7 R) (initEnv args) w) : CallsV Yaao.prog 7 args w R :=
  callsV_of_W hmix Yaao.func7 rfl ok7 hn h.out
theorem ok8 : okCode Yaao.f8.ntmps (Yaao.f8.body.getD .skip) = true := by kernel_rfl
theorem ent8 {args : Array Value} {w : World} {R : Value → World → Prop} (hn : args.size ≤ 11) (h : VC Yaao.prog (Yaao.f8.body.getD .skip) (retK Yaao.prog Yaao.f8 R) (initEnv args) w) : CallsV Yaao.prog 8 args w R :=
  callsV_of_W hmix Yaao.func8 rfl ok8 hn h.out
theorem ok9 : okCode Yaao.f9.ntmps (Yaao.f9.body.getD .skip) = true := by kernel_rfl
theorem ent9 {args : Array Value} {w : World} {R : Value → World → Prop} (hn : args.size ≤ 39) (h : VC Yaao.prog (Yaao.f9.body.getD .skip) (retK Yaao.prog Yaao.f9 R) (initEnv args) w) : CallsV Yaao.prog 9 args w R :=
  callsV_of_W hmix Yaao.func9 rfl ok9 hn h.out
theorem ok10 : okCode Yaao.f10.ntmps (Yaao.f10.body.getD .skip) = true := by kernel_rfl
theorem ent10 {args : Array Value} {w : World} {R : Value → World → Prop} (hn : args.size ≤ 15) (h : VC Yaao.prog (Yaao.f10.body.getD .skip) (retK Yaao.prog Yaao.f10 R) (initEnv args) w) : CallsV Yaao.prog 10 args w R :=
  callsV_of_W hmix Yaao.func10 rfl ok10 hn h.out
theorem ok11 : okCode Yaao.f11.ntmps (Yaao.f11.body.getD .skip) = true := by kernel_rfl
theorem ent11 {args : Array Value} {w : World} {R : Value → World → Prop} (hn : args.size ≤ 20) (h : VC Yaao.prog (Yaao.f11.body.getD .skip) (retK Yaao.prog Yaao.f11 R) (initEnv args) w) : CallsV Yaao.prog 11 args w R :=
  callsV_of_W hmix Yaao.func11 rfl ok11 hn h.out
theorem ok12 : okCode Yaao.f12.ntmps (Yaao.f12.body.getD .skip) = true := by kernel_rfl
theorem ent12 {args : Array Value} {w : World} {R : Value → World → Prop} (hn : args.size ≤ 8) (h : VC Yaao.prog (Yaao.f12.body.getD .skip) (retK Yaao.prog Yaao.f12 R) (initEnv args) w) : CallsV Yaao.prog 12 args w R :=
  callsV_of_W hmix Yaao.func12 rfl ok12 hn h.out
theorem ok13 : okCode Yaao.f13.ntmps (Yaao.f13.body.getD .skip) = true := by kernel_rfl
theorem ent13 {args : Array Value} {w : World} {R : Value → World → Prop} (hn : args.size ≤ 745) (h : VC Yaao.prog (Yaao.f13.body.getD .skip) (retK Yaao.prog Yaao.f13 R) (initEnv args) w) : CallsV Yaao.prog 13 args w R :=
  callsV_of_W hmix Yaao.func13 rfl ok13 hn h.out
theorem ok14 : okCode Yaao.f14.ntmps (Yaao.f14.body.getD .skip) = true := by kernel_rfl
theorem ent14 {args : Array Value} {w : World} {R : Value → World → Prop} (hn : args.size ≤ 28) (h : VC Yaao.prog (Yaao.f14.body.getD .skip) (retK Yaao.prog Yaao.f14 R) (initEnv args) w) : CallsV Yaao.prog 14 args w R :=
  callsV_of_W hmix Yaao.func14 rfl ok14 hn h.out
theorem ok15 : okCode Yaao.f15.ntmps (Yaao.f15.body.getD .skip) = true := by kernel_rfl
theorem ent15 {args : Array Value} {w : World} {R : Value → World → Prop} (hn : args.size ≤ 70) (h : VC Yaao.prog (Yaao.f15.body.getD .skip) (retK Yaao.prog Yaao.f15 R) (initEnv args) w) : CallsV Yaao.prog 15 args w R :=
  callsV_of_W hmix Yaao.func15 rfl ok15 hn h.out
theorem ok16 : okCode Yaao.f16.ntmps (Yaao.f16.body.getD .skip) = true := by kernel_rfl
theorem ent16 {args : Array Value} {w : World} {R : Value → World → Prop} (hn : args.size ≤ 51) (h : VC Yaao.prog (Yaao.f16.body.getD .skip) (retK Yaao.prog Yaao.f16 R) (initEnv args) w) : CallsV Yaao.prog 16 args w R :=
  callsV_of_W hmix Yaao.func16 rfl ok16 hn h.out
theorem ok17 : okCode Yaao.f17.ntmps (Yaao.f17.body.getD .skip) = true := by kernel_rfl
theorem ent17 {args : Array Value} {w : World} {R : Value → World → Prop} (hn : args.size ≤ 60) (h : VC Yaao.prog (Yaao.f17.body.getD .skip) (retK Yaao.prog Yaao.f17 R) (initEnv args) w) : CallsV Yaao.prog 17 args w R :=
  callsV_of_W hmix Yaao.func17 rfl ok17 hn h.out
theorem ok18 : okCode Yaao.f18.ntmps (Yaao.f18.body.getD .skip) = true := by kernel_rfl
theorem ent18 {args : Array Value} {w : World} {R : Value → World → Prop} (hn : args.size ≤ 67) (h : VC Yaao.prog (Yaao.f18.body.getD .skip) (retK Yaao.prog Yaao.f18 R) (initEnv args) w) : CallsV Yaao.prog 18 args w R :=
  callsV_of_W hmix Yaao.func18 rfl ok18 hn h.out
theorem ok19 : okCode Yaao.f19.ntmps (Yaao.f19.body.getD .skip) = true := by kernel_rfl
theorem ent19 {args : Array Value} {w : World} {R : Value → World → Prop} (hn : args.size ≤ 40) (h : VC Yaao.prog (Yaao.f19.body.getD .skip) (retK Yaao.prog Yaao.f19 R) (initEnv args) w) : CallsV Yaao.prog 19 args w R :=
  callsV_of_W hmix Yaao.func19 rfl ok19 hn h.out
theorem ok20 : okCode Yaao.f20.ntmps (Yaao.f20.body.getD .skip) = true := by kernel_rfl
theorem ent20 {args : Array Value} {w : World} {R : Value → World → Prop} (hn : args.size ≤ 28) (h : VC Yaao.prog (Yaao.f20.body.getD .skip) (retK Yaao.prog Yaao.f20 R) (initEnv args) w) : CallsV Yaao.prog 20 args w R :=
  callsV_of_W hmix Yaao.func20 rfl ok20 hn h.out
theorem ok21 : okCode Yaao.f21.ntmps (Yaao.f21.body.getD .skip) = true := by kernel_rfl
theorem ent21 {args : Array Value} {w : World} {R : Value → World → Prop} (hn : args.size ≤ 35) (h : VC Yaao.prog (Yaao.f21.body.getD .skip) (retK Yaao.prog Yaao.f21 R) (initEnv args) w) : CallsV Yaao.prog 21 args w R :=
  callsV_of_W hmix Yaao.func21 rfl ok21 hn h.out
theorem ok22 : okCode Yaao.f22.ntmps (Yaao.f22.body.getD .skip) = true := by kernel_rfl
theorem ent22 {args : Array Value} {w : World} {R : Value → World → Prop} (hn : args.size ≤ 87) (h : VC Yaao.prog (Yaao.f22.body.getD .skip) (retK Yaao.prog Yaao.f22 R) (initEnv args) w) : CallsV Yaao.prog 22 args w R :=
  callsV_of_W hmix Yaao.func22 rfl ok22 hn h.out
theorem ok23 : okCode Yaao.f23.ntmps (Yaao.f23.body.getD .skip) = true := by kernel_rfl
theorem ent23 {args : Array Value} {w : World} {R : Value → World → Prop} (hn : args.size ≤ 78) (h : VC Yaao.prog (Yaao.f23.body.getD .skip) (retK Yaao.prog Yaao.f23 R) (initEnv args) w) : CallsV Yaao.prog 23 args w R :=
  callsV_of_W hmix Yaao.func23 rfl ok23 hn h.out
theorem ok24 : okCode Yaao.f24.ntmps (Yaao.f24.body.getD .skip) = true := by kernel_rfl
theorem ent24 {args : Array Value} {w : World} {R : Value → World → Prop} (hn : args.size ≤ 639) (h : VC Yaao.prog (Yaao.f24.body.getD .skip) (retK Yaao.prog Yaao.f24 R) (initEnv args) w) : CallsV Yaao.prog 24 args w R :=
  callsV_of_W hmix Yaao.func24 rfl ok24 hn h.out
theorem ok25 : okCode Yaao.f25.ntmps (Yaao.f25.body.getD .skip) = true := by kernel_rfl
theorem ent25 {args : Array Value} {w : World} {R : Value → World → Prop} (hn : args.size ≤ 13) (h : VC Yaao.prog (Yaao.f25.body.getD .skip) (retK Yaao.prog Yaao.f25 R) (initEnv args) w) : CallsV Yaao.prog 25 args w R :=
  callsV_of_W hmix Yaao.func25 rfl ok25 hn h.out
theorem ok26 : okCode Yaao.f26.ntmps (Yaao.f26.body.getD .skip) = true := by kernel_rfl
theorem ent26 {args : Array Value} {w : World} {R : Value → World → Prop} (hn : args.size ≤ 33) (h : VC Yaao.prog (Yaao.f26.body.getD .skip) (retK Yaao.prog Yaao.f26 R) (initEnv args) w) : CallsV Yaao.prog 26 args w R :=
  callsV_of_W hmix Yaao.func26 rfl ok26 hn h.out
theorem ok27 : okCode Yaao.f27.ntmps (Yaao.f27.body.getD .skip) = true := by kernel_rfl
theorem ent27 {args : Array Value} {w : World} {R : Value → World → Prop} (hn : args.size ≤ 64) (h : VC Yaao.prog (Yaao.f27.body.getD .skip) (retK Yaao.prog Yaao.f27 R) (initEnv args) w) : CallsV Yaao.prog 27 args w R :=
  callsV_of_W hmix Yaao.func27 rfl ok27 hn h.out
theorem ok28 : okCode Yaao.f28.ntmps (Yaao.f28.body.getD .skip) = true := by kernel_rfl
theorem ent28 {args : Array Value} {w : World} {R : Value → World → Prop} (hn : args.size ≤ 12) (h : VC Yaao.prog (Yaao.f28.body.getD .skip) (retK Yaao.prog Yaao.f28 R) (initEnv args) w) : CallsV Yaao.prog 28 args w R :=
  callsV_of_W hmix Yaao.func28 rfl ok28 hn h.out
theorem ok29 : okCode Yaao.f29.ntmps (Yaao.f29.body.getD .skip) = true := by kernel_rfl
theorem ent29 {args : Array Value} {w : World} {R : Value → World → Prop} (hn : args.size ≤ 7) (h : VC Yaao.prog (Yaao.f29.body.getD .skip) (retK Yaao.prog Yaao.f29 R) (initEnv args) w) : CallsV Yaao.prog 29 args w R :=
  callsV_of_W hmix Yaao.func29 rfl ok29 hn h.out
theorem ok30 : okCode Yaao.f30.ntmps (Yaao.f30.body.getD .skip) = true := by kernel_rfl
theorem ent30 {args : Array Value} {w : World} {R : Value → World → Prop} (hn : args.size ≤ 15) (h : VC Yaao.prog (Yaao.f30.body.getD .skip) (retK Yaao.prog Yaao.f30 R) (initEnv args) w) : CallsV Yaao.prog 30 args w R :=
  callsV_of_W hmix Yaao.func30 rfl ok30 hn h.out
theorem ok31 : okCode Yaao.f31.ntmps (Yaao.f31.body.getD .skip) = true := by kernel_rfl
theorem ent31 {args : Array Value} {w : World} {R : Value → World → Prop} (hn : args.size ≤ 27) (h : VC Yaao.prog (Yaao.f31.body.getD .skip) (retK Yaao.prog Yaao.f31 R) (initEnv args) w) : CallsV Yaao.prog 31 args w R :=
  callsV_of_W hmix Yaao.func31 rfl ok31 hn h.out
theorem ok32 : okCode Yaao.f32.ntmps (Yaao.f32.body.getD .skip) = true := by kernel_rfl
theorem ent32 {args : Array Value} {w : World} {R : Value → World → Prop} (hn : args.size ≤ 6) (h : VC Yaao.prog (Yaao.f32.body.getD .skip) (retK Yaao.prog Yaao.f32 R) (initEnv args) w) : CallsV Yaao.prog 32 args w R :=
  callsV_of_W hmix Yaao.func32 rfl ok32 hn h.out
theorem ok33 : okCode Yaao.f33.ntmps (Yaao.f33.body.getD .skip) = true := by kernel_rfl
theorem ent33 {args : Array Value} {w : World} {R : Value → World → Prop} (hn : args.size ≤ 2) (h : VC Yaao.prog (Yaao.f33.body.getD .skip) (retK Yaao.prog Yaao.f33 R) (initEnv args) w) : CallsV Yaao.prog 33 args w R :=
  callsV_of_W hmix Yaao.func33 rfl ok33 hn h.out
theorem ok34 : okCode Yaao.f34.ntmps (Yaao.f34.body.getD .skip) = true := by kernel_rfl
theorem ent34 {args : Array Value} {w : World} {R : Value → World → Prop} (hn : args.size ≤ 18) (h : VC Yaao.prog (Yaao.f34.body.getD .skip) (retK Yaao.prog Yaao.f34 R) (initEnv args) w) : CallsV Yaao.prog 34 args w R :=
  callsV_of_W hmix Yaao.func34 rfl ok34 hn h.out
theorem ok35 : okCode Yaao.f35.ntmps (Yaao.f35.body.getD .skip) = true := by kernel_rfl
theorem ent35 {args : Array Value} {w : World} {R : Value → World → Prop} (hn : args.size ≤ 6) (h : VC Yaao.prog (Yaao.f35.body.getD .skip) (retK Yaao.prog Yaao.f35 R) (initEnv args) w) : CallsV Yaao.prog 35 args w R :=
  callsV_of_W hmix Yaao.func35 rfl ok35 hn h.out
theorem ok36 : okCode Yaao.f36.ntmps (Yaao.f36.body.getD .skip) = true := by kernel_rfl
theorem ent36 {args : Array Value} {w : World} {R : Value → World → Prop} (hn : args.size ≤ 36) (h : VC Yaao.prog (Yaao.f36.body.getD .skip) (retK Yaao.prog Yaao.f36 R) (initEnv args) w) : CallsV Yaao.prog 36 args w R :=
  callsV_of_W hmix Yaao.func36 rfl ok36 hn h.out
theorem ok37 : okCode Yaao.f37.ntmps (Yaao.f37.body.getD .skip) = true := by kernel_rfl
theorem ent37 {args : Array Value} {w : World} {R : Value → World → Prop} (hn : args.size ≤ 11) (h : VC Yaao.prog (Yaao.f37.body.getD .skip) (retK Yaao.prog Yaao.f37 R) (initEnv args) w) : CallsV Yaao.prog 37 args w R :=
  callsV_of_W hmix Yaao.func37 rfl ok37 hn h.out
theorem ok38 : okCode Yaao.f38.ntmps (Yaao.f38.body.getD .skip) = true := by kernel_rfl
theorem ent38 {args : Array Value} {w : World} {R : Value → World → Prop} (hn : args.size ≤ 5) (h : VC Yaao.prog (Yaao.f38.body.getD .skip) (retK Yaao.prog Yaao.f38 R) (initEnv args) w) : CallsV Yaao.prog 38 args w R :=
  callsV_of_W hmix Yaao.func38 rfl ok38 hn h.out
theorem ok39 : okCode Yaao.f39.ntmps (Yaao.f39.body.getD .skip) = true := by kernel_rfl
theorem ent39 {args : Array Value} {w : World} {R : Value → World → Prop} (hn : args.size ≤ 25) (h : VC Yaao.prog (Yaao.f39.body.getD .skip) (retK Yaao.prog Yaao.f39 R) (initEnv args) w) : CallsV Yaao.prog 39 args w R :=
  callsV_of_W hmix Yaao.func39 rfl ok39 hn h.out
theorem ok40 : okCode Yaao.f40.ntmps (Yaao.f40.body.getD .skip) = true := by kernel_rfl
theorem ent40 {args : Array Value} {w : World} {R : Value → World → Prop} (hn : args.size ≤ 172) (h : VC Yaao.prog (Yaao.f40.body.getD .skip) (retK Yaao.prog Yaao.f40 R) (initEnv args) w) : CallsV Yaao.prog 40 args w R :=
  callsV_of_W hmix Yaao.func40 rfl ok40 hn h.out
theorem ok41 : okCode Yaao.f41.ntmps (Yaao.f41.body.getD .skip) = true := by kernel_rfl
theorem ent41 {args : Array Value} {w : World} {R : Value → World → Prop} (hn : args.size ≤ 51) (h : VC Yaao.prog (Yaao.f41.body.getD .skip) (retK Yaao.prog Yaao.f41 R) (initEnv args) w) : CallsV Yaao.prog 41 args w R :=
  callsV_of_W hmix Yaao.func41 rfl ok41 hn h.out
theorem ok42 : okCode Yaao.f42.ntmps (Yaao.f42.body.getD .skip) = true := by kernel_rfl
theorem ent42 {args : Array Value} {w : World} {R : Value → World → Prop} (hn : args.size ≤ 200) (h : VC Yaao.prog (Yaao.f42.body.getD .skip) (retK Yaao.prog Yaao.f42 R) (initEnv args) w) : CallsV Yaao.prog 42 args w R :=
  callsV_of_W hmix Yaao.func42 rfl ok42 hn h.out
theorem ok43 : okCode Yaao.f43.ntmps (Yaao.f43.body.getD .skip) = true := by kernel_rfl
theorem ent43 {args : Array Value} {w : World} {R : Value → World → Prop} (hn : args.size ≤ 162) (h : VC Yaao.prog (Yaao.f43.body.getD .skip) (retK Yaao.prog Yaao.f43 R) (initEnv args) w) : CallsV Yaao.prog 43 args w R :=
  callsV_of_W hmix Yaao.func43 rfl ok43 hn h.out
theorem ok44 : okCode Yaao.f44.ntmps (Yaao.f44.body.getD .skip) = true := by kernel_rfl
theorem ent44 {args : Array Value} {w : World} {R : Value → World → Prop} (hn : args.size ≤ 8) (h : VC Yaao.prog (Yaao.f44.body.getD .skip) (retK Yaao.prog Yaao.f44 R) (initEnv args) w) : CallsV Yaao.prog 44 args w R :=
  callsV_of_W hmix Yaao.func44 rfl ok44 hn h.out
theorem ok45 : okCode Yaao.f45.ntmps (Yaao.f45.body.getD .skip) = true := by kernel_rfl
theorem ent45 {args : Array Value} {w : World} {R : Value → World → Prop} (hn : args.size ≤ 181) (h : VC Yaao.prog (Yaao.f45.body.getD .skip) (retK Yaao.prog Yaao.f45 R) (initEnv args) w) : CallsV Yaao.prog 45 args w R :=
  callsV_of_W hmix Yaao.func45 rfl ok45 hn h.out
theorem ok46 : okCode Yaao.f46.ntmps (Yaao.f46.body.getD .skip) = true := by kernel_rfl
theorem ent46 {args : Array Value} {w : World} {R : Value → World → Prop} (hn : args.size ≤ 53) (h : VC Yaao.prog (Yaao.f46.body.getD .skip) (retK Yaao.prog Yaao.f46 R) (initEnv args) w) : CallsV Yaao.prog 46 args w R :=
  callsV_of_W hmix Yaao.func46 rfl ok46 hn h.out
theorem ok47 : okCode Yaao.f47.ntmps (Yaao.f47.body.getD .skip) = true := by kernel_rfl
theorem ent47 {args : Array Value} {w : World} {R : Value → World → Prop} (hn : args.size ≤ 32) (h : VC Yaao.prog (Yaao.f47.body.getD .skip) (retK Yaao.prog Yaao.f47 R) (initEnv args) w) : CallsV Yaao.prog 47 args w R :=
  callsV_of_W hmix Yaao.func47 rfl ok47 hn h.out
theorem ok48 : okCode Yaao.f48.ntmps (Yaao.f48.body.getD .skip) = true := by kernel_rfl
theorem ent48 {args : Array Value} {w : World} {R : Value → World → Prop} (hn : args.size ≤ 179) (h : VC Yaao.prog (Yaao.f48.body.getD .skip) (retK Yaao.prog Yaao.f48 R) (initEnv args) w) : CallsV Yaao.prog 48 args w R :=
  callsV_of_W hmix Yaao.func48 rfl ok48 hn h.out
theorem ok49 : okCode Yaao.f49.ntmps (Yaao.f49.body.getD .skip) = true := by kernel_rfl
theorem ent49 {args : Array Value} {w : World} {R : Value → World → Prop} (hn : args.size ≤ 152) (h : VC Yaao.prog (Yaao.f49.body.getD .skip) (retK Yaao.prog Yaao.f49 R) (initEnv args) w) : CallsV Yaao.prog 49 args w R :=
  callsV_of_W hmix Yaao.func49 rfl ok49 hn h.out
theorem ok50 : okCode Yaao.f50.ntmps (Yaao.f50.body.getD .skip) = true := by kernel_rfl
theorem ent50 {args : Array Value} {w : World} {R : Value → World → Prop} (hn : args.size ≤ 169) (h : VC Yaao.prog (Yaao.f50.body.getD .skip) (retK Yaao.prog Yaao.f50 R) (initEnv args) w) : CallsV Yaao.prog 50 args w R :=
  callsV_of_W hmix Yaao.func50 rfl ok50 hn h.out
theorem ok51 : okCode Yaao.f51.ntmps (Yaao.f51.body.getD .skip) = true := by kernel_rfl
theorem ent51 {args : Array Value} {w : World} {R : Value → World → Prop} (hn : args.size ≤ 10) (h : VC Yaao.prog (Yaao.f51.body.getD .skip) (retK Yaao.prog Yaao.f51 R) (initEnv args) w) : CallsV Yaao.prog 51 args w R :=
  callsV_of_W hmix Yaao.func51 rfl ok51 hn h.out
theorem ok52 : okCode Yaao.f52.ntmps (Yaao.f52.body.getD .skip) = true := by kernel_rfl
theorem ent52 {args : Array Value} {w : World} {R : Value → World → Prop} (hn : args.size ≤ 11) (h : VC Yaao.prog (Yaao.f52.body.getD .skip) (retK Yaao.prog Yaao.f52 R) (initEnv args) w) : CallsV Yaao.prog 52 args w R :=
  callsV_of_W hmix Yaao.func52 rfl ok52 hn h.out
theorem ok53 : okCode Yaao.f53.ntmps (Yaao.f53.body.getD .skip) = true := by kernel_rfl
theorem ent53 {args : Array Value} {w : World} {R : Value → World → Prop} (hn : args.size ≤ 19) (h : VC Yaao.prog (Yaao.f53.body.getD .skip) (retK Yaao.prog Yaao.f53 R) (initEnv args) w) : CallsV Yaao.prog 53 args w R :=
  callsV_of_W hmix Yaao.func53 rfl ok53 hn h.out
theorem ok54 : okCode Yaao.f54.ntmps (Yaao.f54.body.getD .skip) = true := by kernel_rfl
theorem ent54 {args : Array Value} {w : World} {R : Value → World → Prop} (hn : args.size ≤ 58) (h : VC Yaao.prog (Yaao.f54.body.getD .skip) (retK Yaao.prog Yaao.f54 R) (initEnv args) w) : CallsV Yaao.prog 54 args w R :=
  callsV_of_W hmix Yaao.func54 rfl ok54 hn h.out
theorem ok55 : okCode Yaao.f55.ntmps (Yaao.f55.body.getD .skip) = true := by kernel_rfl
theorem ent55 {args : Array Value} {w : World} {R : Value → World → Prop} (hn : args.size ≤ 24) (h : VC Yaao.prog (Yaao.f55.body.getD .skip) (retK Yaao.prog Yaao.f55 R) (initEnv args) w) : CallsV Yaao.prog 55 args w R :=
  callsV_of_W hmix Yaao.func55 rfl ok55 hn h.out
theorem ok56 : okCode Yaao.f56.ntmps (Yaao.f56.body.getD .skip) = true := by kernel_rfl
theorem ent56 {args : Array Value} {w : World} {R : Value → World → Prop} (hn : args.size ≤ 66) (h : VC Yaao.prog (Yaao.f56.body.getD .skip) (retK Yaao.prog Yaao.f56 R) (initEnv args) w) : CallsV Yaao.prog 56 args w R :=
  callsV_of_W hmix Yaao.func56 rfl ok56 hn h.out
theorem ok57 : okCode Yaao.f57.ntmps (Yaao.f57.body.getD .skip) = true := by kernel_rfl
theorem ent57 {args : Array Value} {w : World} {R : Value → World → Prop} (hn : args.size ≤ 48) (h : VC Yaao.prog (Yaao.f57.body.getD .skip) (retK Yaao.prog Yaao.f57 R) (initEnv args) w) : CallsV Yaao.prog 57 args w R :=
  callsV_of_W hmix Yaao.func57 rfl ok57 hn h.out
theorem ok58 : okCode Yaao.f58.ntmps (Yaao.f58.body.getD .skip) = true := by kernel_rfl
theorem ent58 {args : Array Value} {w : World} {R : Value → World → Prop} (hn : args.size ≤ 64) (h : VC Yaao.prog (Yaao.f58.body.getD .skip) (retK Yaao.prog Yaao.f58 R) (initEnv args) w) : CallsV Yaao.prog 58 args w R :=
  callsV_of_W hmix Yaao.func58 rfl ok58 hn h.out
theorem ok59 : okCode Yaao.f59.ntmps (Yaao.f59.body.getD .skip) = true := by kernel_rfl
theorem ent59 {args : Array Value} {w : World} {R : Value → World → Prop} (hn : args.size ≤ 53) (h : VC Yaao.prog (Yaao.f59.body.getD .skip) (retK Yaao.prog Yaao.f59 R) (initEnv args) w) : CallsV Yaao.prog 59 args w R :=
  callsV_of_W hmix Yaao.func59 rfl ok59 hn h.out
theorem ok60 : okCode Yaao.f60.ntmps (Yaao.f60.body.getD .skip) = true := by kernel_rfl
theorem ent60 {args : Array Value} {w : World} {R : Value → World → Prop} (hn : args.size ≤ 10) (h : VC Yaao.prog (Yaao.f60.body.getD .skip) (retK Yaao.prog Yaao.f60 R) (initEnv args) w) : CallsV Yaao.prog 60 args w R :=
  callsV_of_W hmix Yaao.func60 rfl ok60 hn h.out
theorem ok61 : okCode Yaao.f61.ntmps (Yaao.f61.body.getD .skip) = true := by kernel_rfl
theorem ent61 {args : Array Value} {w : World} {R : Value → World → Prop} (hn : args.size ≤ 11) (h : VC Yaao.prog (Yaao.f61.body.getD .skip) (retK Yaao.prog Yaao.f61 R) (initEnv args) w) : CallsV Yaao.prog 61 args w R :=
  callsV_of_W hmix Yaao.func61 rfl ok61 hn h.out
theorem ok62 : okCode Yaao.f62.ntmps (Yaao.f62.body.getD .skip) = true := by kernel_rfl
theorem ent62 {args : Array Value} {w : World} {R : Value → World → Prop} (hn : args.size ≤ 147) (h : VC Yaao.prog (Yaao.f62.body.getD .skip) (retK Yaao.prog Yaao.f62 R) (initEnv args) w) : CallsV Yaao.prog 62 args w R :=
  callsV_of_W hmix Yaao.func62 rfl ok62 hn h.out
theorem ok63 : okCode Yaao.f63.ntmps (Yaao.f63.body.getD .skip) = true := by kernel_rfl
theorem ent63 {args : Array Value} {w : World} {R : Value → World → Prop} (hn : args.size ≤ 63) (h : VC Yaao.prog (Yaao.f63.body.getD .skip) (retK Yaao.prog Yaao.f63 R) (initEnv args) w) : CallsV Yaao.prog 63 args w R :=
  callsV_of_W hmix Yaao.func63 rfl ok63 hn h.out
theorem ok64 : okCode Yaao.f64.ntmps (Yaao.f64.body.getD .skip) = true := by kernel_rfl
theorem ent64 {args : Array Value} {w : World} {R : Value → World → Prop} (hn : args.size ≤ 9) (h : VC Yaao.prog (Yaao.f64.body.getD .skip) (retK Yaao.prog Yaao.f64 R) (initEnv args) w) : CallsV Yaao.prog 64 args w R :=
  callsV_of_W hmix Yaao.func64 rfl ok64 hn h.out
theorem ok65 : okCode Yaao.f65.ntmps (Yaao.f65.body.getD .skip) = true := by kernel_rfl
theorem ent65 {args : Array Value} {w : World} {R : Value → World → Prop} (hn : args.size ≤ 13) (h : VC Yaao.prog (Yaao.f65.body.getD .skip) (retK Yaao.prog Yaao.f65 R) (initEnv args) w) : CallsV Yaao.prog 65 args w R :=
  callsV_of_W hmix Yaao.func65 rfl ok65 hn h.out
theorem ok66 : okCode Yaao.f66.ntmps (Yaao.f66.body.getD .skip) = true := by kernel_rfl
theorem ent66 {args : Array Value} {w : World} {R : Value → World → Prop} (hn : args.size ≤ 9) (h : VC Yaao.prog (Yaao.f66.body.getD .skip) (retK Yaao.prog Yaao.f66 R) (initEnv args) w) : CallsV Yaao.prog 66 args w R :=
  callsV_of_W hmix Yaao.func66 rfl ok66 hn h.out
theorem ok67 : okCode Yaao.f67.ntmps (Yaao.f67.body.getD .skip) = true := by kernel_rfl
theorem ent67 {args : Array Value} {w : World} {R : Value → World → Prop} (hn : args.size ≤ 4) (h : VC Yaao.prog (Yaao.f67.body.getD .skip) (retK Yaao.prog Yaao.f67 R) (initEnv args) w) : CallsV Yaao.prog 67 args w R :=
  callsV_of_W hmix Yaao.func67 rfl ok67 hn h.out
theorem ok68 : okCode Yaao.f68.ntmps (Yaao.f68.body.getD .skip) = true := by kernel_rfl
theorem ent68 {args : Array Value} {w : World} {R : Value → World → Prop} (hn : args.size ≤ 38) (h : VC Yaao.prog (Yaao.f68.body.getD .skip) (retK Yaao.prog Yaao.f68 R) (initEnv args) w) : CallsV Yaao.prog 68 args w R :=
  callsV_of_W hmix Yaao.func68 rfl ok68 hn h.out
theorem ok69 : okCode Yaao.f69.ntmps (Yaao.f69.body.getD .skip) = true := by kernel_rfl
theorem ent69 {args : Array Value} {w : World} {R : Value → World → Prop} (hn : args.size ≤ 38) (h : VC Yaao.prog (Yaao.f69.body.getD .skip) (retK Yaao.prog Yaao.f69 R) (initEnv args) w) : CallsV Yaao.prog 69 args w R :=
  callsV_of_W hmix Yaao.func69 rfl ok69 hn h.out
theorem ok70 : okCode Yaao.f70.ntmps (Yaao.f70.body.getD .skip) = true := by kernel_rfl
theorem ent70 {args : Array Value} {w : World} {R : Value → World → Prop} (hn : args.size ≤ 35) (h : VC Yaao.prog (Yaao.f70.body.getD .skip) (retK Yaao.prog Yaao.f70 R) (initEnv args) w) : CallsV Yaao.prog 70 args w R :=
  callsV_of_W hmix Yaao.func70 rfl ok70 hn h.out
theorem ok71 : okCode Yaao.f71.ntmps (Yaao.f71.body.getD .skip) = true := by kernel_rfl
theorem ent71 {args : Array Value} {w : World} {R : Value → World → Prop} (hn : args.size ≤ 53) (h : VC Yaao.prog (Yaao.f71.body.getD .skip) (retK Yaao.prog Yaao.f71 R) (initEnv args) w) : CallsV Yaao.prog 71 args w R :=
  callsV_of_W hmix Yaao.func71 rfl ok71 hn h.out
theorem ok72 : okCode Yaao.f72.ntmps (Yaao.f72.body.getD .skip) = true := by kernel_rfl
theorem ent72 {args : Array Value} {w : World} {R : Value → World → Prop} (hn : args.size ≤ 51) (h : VC Yaao.prog (Yaao.f72.body.getD .skip) (retK Yaao.prog Yaao.f72 R) (initEnv args) w) : CallsV Yaao.prog 72 args w R :=
  callsV_of_W hmix Yaao.func72 rfl ok72 hn h.out
theorem ok73 : okCode Yaao.f73.ntmps (Yaao.f73.body.getD .skip) = true := by kernel_rfl
theorem ent73 {args : Array Value} {w : World} {R : Value → World → Prop} (hn : args.size ≤ 8) (h : VC Yaao.prog (Yaao.f73.body.getD .skip) (retK Yaao.prog Yaao.f73 R) (initEnv args) w) : CallsV Yaao.prog 73 args w R :=
  callsV_of_W hmix Yaao.func73 rfl ok73 hn h.out
theorem ok74 : okCode Yaao.f74.ntmps (Yaao.f74.body.getD .skip) = true := by kernel_rfl
theorem ent74 {args : Array Value} {w : World} {R : Value → World → Prop} (hn : args.size ≤ 82) (h : VC Yaao.prog (Yaao.f74.body.getD .skip) (retK Yaao.prog Yaao.f74 R) (initEnv args) w) : CallsV Yaao.prog 74 args w R :=
  callsV_of_W hmix Yaao.func74 rfl ok74 hn h.out
theorem ok75 : okCode Yaao.f75.ntmps (Yaao.f75.body.getD .skip) = true := by kernel_rfl
theorem ent75 {args : Array Value} {w : World} {R : Value → World → Prop} (hn : args.size ≤ 20) (h : VC Yaao.prog (Yaao.f75.body.getD .skip) (retK Yaao.prog Yaao.f75 R) (initEnv args) w) : CallsV Yaao.prog 75 args w R :=
  callsV_of_W hmix Yaao.func75 rfl ok75 hn h.out
theorem ok76 : okCode Yaao.f76.ntmps (Yaao.f76.body.getD .skip) = true := by kernel_rfl
theorem ent76 {args : Array Value} {w : World} {R : Value → World → Prop} (hn : args.size ≤ 71) (h : VC Yaao.prog (Yaao.f76.body.getD .skip) (retK Yaao.prog Yaao.f76 R) (initEnv args) w) : CallsV Yaao.prog 76 args w R :=
  callsV_of_W hmix Yaao.func76 rfl ok76 hn h.out
theorem ok77 : okCode Yaao.f77.ntmps (Yaao.f77.body.getD .skip) = true := by kernel_rfl
theorem ent77 {args : Array Value} {w : World} {R : Value → World → Prop} (hn : args.size ≤ 9) (h : VC Yaao.prog (Yaao.f77.body.getD .skip) (retK Yaao.prog Yaao.f77 R) (initEnv args) w) : CallsV Yaao.prog 77 args w R :=
  callsV_of_W hmix Yaao.func77 rfl ok77 hn h.out
theorem ok78 : okCode Yaao.f78.ntmps (Yaao.f78.body.getD .skip) = true := by kernel_rfl
theorem ent78 {args : Array Value} {w : World} {R : Value → World → Prop} (hn : args.size ≤ 9) (h : VC Yaao.prog (Yaao.f78.body.getD .skip) (retK Yaao.prog Yaao.f78 R) (initEnv args) w) : CallsV Yaao.prog 78 args w R :=
  callsV_of_W hmix Yaao.func78 rfl ok78 hn h.out
theorem ok79 : okCode Yaao.f79.ntmps (Yaao.f79.body.getD .skip) = true := by kernel_rfl
theorem ent79 {args : Array Value} {w : World} {R : Value → World → Prop} (hn : args.size ≤ 14) (h : VC Yaao.prog (Yaao.f79.body.getD .skip) (retK Yaao.prog Yaao.f79 R) (initEnv args) w) : CallsV Yaao.prog 79 args w R :=
  callsV_of_W hmix Yaao.func79 rfl ok79 hn h.out
theorem ok80 : okCode Yaao.f80.ntmps (Yaao.f80.body.getD .skip) = true := by kernel_rfl
theorem ent80 {args : Array Value} {w : World} {R : Value → World → Prop} (hn : args.size ≤ 15) (h : VC Yaao.prog (Yaao.f80.body.getD .skip) (retK Yaao.prog Yaao.f80 R) (initEnv args) w) : CallsV Yaao.prog 80 args w R :=
  callsV_of_W hmix Yaao.func80 rfl ok80 hn h.out
theorem ok81 : okCode Yaao.f81.ntmps (Yaao.f81.body.getD .skip) = true := by kernel_rfl
theorem ent81 {args : Array Value} {w : World} {R : Value → World → Prop} (hn : args.size ≤ 13) (h : VC Yaao.prog (Yaao.f81.body.getD .skip) (retK Yaao.prog Yaao.f81 R) (initEnv args) w) : CallsV Yaao.prog 81 args w R :=
  callsV_of_W hmix Yaao.func81 rfl ok81 hn h.out
theorem ok82 : okCode Yaao.f82.ntmps (Yaao.f82.body.getD .skip) = true := by kernel_rfl
theorem ent82 {args : Array Value} {w : World} {R : Value → World → Prop} (hn : args.size ≤ 19) (h : VC Yaao.prog (Yaao.f82.body.getD .skip) (retK Yaao.prog Yaao.f82 R) (initEnv args) w) : CallsV Yaao.prog 82 args w R :=
  callsV_of_W hmix Yaao.func82 rfl ok82 hn h.out
theorem ok83 : okCode Yaao.f83.ntmps (Yaao.f83.body.getD .skip) = true := by kernel_rfl
theorem ent83 {args : Array Value} {w : World} {R : Value → World → Prop} (hn : args.size ≤ 35) (h : VC Yaao.prog (Yaao.f83.body.getD .skip) (retK Yaao.prog Yaao.f83 R) (initEnv args) w) : CallsV Yaao.prog 83 args w R :=
  callsV_of_W hmix Yaao.func83 rfl ok83 hn h.out
theorem ok84 : okCode Yaao.f84.ntmps (Yaao.f84.body.getD .skip) = true := by kernel_rfl
theorem ent84 {args : Array Value} {w : World} {R : Value → World → Prop} (hn : args.size ≤ 65) (h : VC Yaao.prog (Yaao.f84.body.getD .skip) (retK Yaao.prog Yaao.f84 R) (initEnv args) w) : CallsV Yaao.prog 84 args w R :=
  callsV_of_W hmix Yaao.func84 rfl ok84 hn h.out
theorem ok85 : okCode Yaao.f85.ntmps (Yaao.f85.body.getD .skip) = true := by kernel_rfl
theorem ent85 {args : Array Value} {w : World} {R : Value → World → Prop} (hn : args.size ≤ 12) (h : VC Yaao.prog (Yaao.f85.body.getD .skip) (retK Yaao.prog Yaao.f85 R) (initEnv args) w) : CallsV Yaao.prog 85 args w R :=
  callsV_of_W hmix Yaao.func85 rfl ok85 hn h.out
theorem ok86 : okCode Yaao.f86.ntmps (Yaao.f86.body.getD .skip) = true := by kernel_rfl
theorem ent86 {args : Array Value} {w : World} {R : Value → World → Prop} (hn : args.size ≤ 11) (h : VC Yaao.prog (Yaao.f86.body.getD .skip) (retK Yaao.prog Yaao.f86 R) (initEnv args) w) : CallsV Yaao.prog 86 args w R :=
  callsV_of_W hmix Yaao.func86 rfl ok86 hn h.out
theorem ok87 : okCode Yaao.f87.ntmps (Yaao.f87.body.getD .skip) = true := by kernel_rfl
theorem ent87 {args : Array Value} {w : World} {R : Value → World → Prop} (hn : args.size ≤ 25) (h : VC Yaao.prog (Yaao.f87.body.getD .skip) (retK Yaao.prog Yaao.f87 R) (initEnv args) w) : CallsV Yaao.prog 87 args w R :=
  callsV_of_W hmix Yaao.func87 rfl ok87 hn h.out
theorem ok88 : okCode Yaao.f88.ntmps (Yaao.f88.body.getD .skip) = true := by kernel_rfl
theorem ent88 {args : Array Value} {w : World} {R : Value → World → Prop} (hn : args.size ≤ 559) (h : VC Yaao.prog (Yaao.f88.body.getD .skip) (retK Yaao.prog Yaao.f88 R) (initEnv args) w) : CallsV Yaao.prog 88 args w R :=
  callsV_of_W hmix Yaao.func88 rfl ok88 hn h.out
theorem ok89 : okCode Yaao.f89.ntmps (Yaao.f89.body.getD .skip) = true := by kernel_rfl
theorem ent89 {args : Array Value} {w : World} {R : Value → World → Prop} (hn : args.size ≤ 35) (h : VC Yaao.prog (Yaao.f89.body.getD .skip) (retK Yaao.prog Yaao.f89 R) (initEnv args) w) : CallsV Yaao.prog 89 args w R :=
  callsV_of_W hmix Yaao.func89 rfl ok89 hn h.out
theorem ok90 : okCode Yaao.f90.ntmps (Yaao.f90.body.getD .skip) = true := by kernel_rfl
theorem ent90 {args : Array Value} {w : World} {R : Value → World → Prop} (hn : args.size ≤ 20) (h : VC Yaao.prog (Yaao.f90.body.getD .skip) (retK Yaao.prog Yaao.f90 R) (initEnv args) w) : CallsV Yaao.prog 90 args w R :=
  callsV_of_W hmix Yaao.func90 rfl ok90 hn h.out
theorem ok91 : okCode Yaao.f91.ntmps (Yaao.f91.body.getD .skip) = true := by kernel_rfl
theorem ent91 {args : Array Value} {w : World} {R : Value → World → Prop} (hn : args.size ≤ 45) (h : VC Yaao.prog (Yaao.f91.body.getD .skip) (retK Yaao.prog Yaao.f91 R) (initEnv args) w) : CallsV Yaao.prog 91 args w R :=
  callsV_of_W hmix Yaao.func91 rfl ok91 hn h.out
theorem ok92 : okCode Yaao.f92.ntmps (Yaao.f92.body.getD .skip) = true := by kernel_rfl
theorem ent92 {args : Array Value} {w : World} {R : Value → World → Prop} (hn : args.size ≤ 33) (h : VC Yaao.prog (Yaao.f92.body.getD .skip) (retK Yaao.prog Yaao.f92 R) (initEnv args) w) : CallsV Yaao.prog 92 args w R :=
  callsV_of_W hmix Yaao.func92 rfl ok92 hn h.out
theorem ok93 : okCode Yaao.f93.ntmps (Yaao.f93.body.getD .skip) = true := by kernel_rfl
theorem ent93 {args : Array Value} {w : World} {R : Value → World → Prop} (hn : args.size ≤ 626) (h : VC Yaao.prog (Yaao.f93.body.getD .skip) (retK Yaao.prog Yaao.f93 R) (initEnv args) w) : CallsV Yaao.prog 93 args w R :=
  callsV_of_W hmix Yaao.func93 rfl ok93 hn h.out
theorem ok94 : okCode Yaao.f94.ntmps (Yaao.f94.body.getD .skip) = true := by kernel_rfl
theorem ent94 {args : Array Value} {w : World} {R : Value → World → Prop} (hn : args.size ≤ 34) (h : VC Yaao.prog (Yaao.f94.body.getD .skip) (retK Yaao.prog Yaao.f94 R) (initEnv args) w) : CallsV Yaao.prog 94 args w R :=
  callsV_of_W hmix Yaao.func94 rfl ok94 hn h.out
theorem ok95 : okCode Yaao.f95.ntmps (Yaao.f95.body.getD .skip) = true := by kernel_rfl
theorem ent95 {args : Array Value} {w : World} {R : Value → World → Prop} (hn : args.size ≤ 38) (h : VC Yaao.prog (Yaao.f95.body.getD .skip) (retK Yaao.prog Yaao.f95 R) (initEnv args) w) : CallsV Yaao.prog 95 args w R :=
  callsV_of_W hmix Yaao.func95 rfl ok95 hn h.out
theorem ok96 : okCode Yaao.f96.ntmps (Yaao.f96.body.getD .skip) = true := by kernel_rfl
theorem ent96 {args : Array Value} {w : World} {R : Value → World → Prop} (hn : args.size ≤ 13) (h : VC Yaao.prog (Yaao.f96.body.getD .skip) (retK Yaao.prog Yaao.f96 R) (initEnv args) w) : CallsV Yaao.prog 96 args w R :=
  callsV_of_W hmix Yaao.func96 rfl ok96 hn h.out
theorem ok97 : okCode Yaao.f97.ntmps (Yaao.f97.body.getD .skip) = true := by kernel_rfl
theorem ent97 {args : Array Value} {w : World} {R : Value → World → Prop} (hn : args.size ≤ 202) (h : VC Yaao.prog (Yaao.f97.body.getD .skip) (retK Yaao.prog Yaao.f97 R) (initEnv args) w) : CallsV Yaao.prog 97 args w R :=
  callsV_of_W hmix Yaao.func97 rfl ok97 hn h.out
theorem ok98 : okCode Yaao.f98.ntmps (Yaao.f98.body.getD .skip) = true := by kernel_rfl
theorem ent98 {args : Array Value} {w : World} {R : Value → World → Prop} (hn : args.size ≤ 6) (h : VC Yaao.prog (Yaao.f98.body.getD .skip) (retK Yaao.prog Yaao.f98 R) (initEnv args) w) : CallsV Yaao.prog 98 args w R :=
  callsV_of_W hmix Yaao.func98 rfl ok98 hn h.out
theorem ok99 : okCode Yaao.f99.ntmps (Yaao.f99.body.getD .skip) = true := by kernel_rfl
theorem ent99 {args : Array Value} {w : World} {R : Value → World → Prop} (hn : args.size ≤ 60) (h : VC Yaao.prog (Yaao.f99.body.getD .skip) (retK Yaao.prog Yaao.f99 R) (initEnv args) w) : CallsV Yaao.prog 99 args w R :=
  callsV_of_W hmix Yaao.func99 rfl ok99 hn h.out
theorem ok100 : okCode Yaao.f100.ntmps (Yaao.f100.body.getD .skip) = true := by kernel_rfl
theorem ent100 {args : Array Value} {w : World} {R : Value → World → Prop} (hn : args.size ≤ 13) (h : VC Yaao.prog (Yaao.f100.body.getD .skip) (retK Yaao.prog Yaao.f100 R) (initEnv args) w) : CallsV Yaao.prog 100 args w R :=
  callsV_of_W hmix Yaao.func100 rfl ok100 hn h.out
theorem ok101 : okCode Yaao.f101.ntmps (Yaao.f101.body.getD .skip) = true := by kernel_rfl
theorem ent101 {args : Array Value} {w : World} {R : Value → World → Prop} (hn : args.size ≤ 96) (h : VC Yaao.prog (Yaao.f101.body.getD .skip) (retK Yaao.prog Yaao.f101 R) (initEnv args) w) : CallsV Yaao.prog 101 args w R :=
  callsV_of_W hmix Yaao.func101 rfl ok101 hn h.out
theorem ok102 : okCode Yaao.f102.ntmps (Yaao.f102.body.getD .skip) = true := by kernel_rfl
theorem ent102 {args : Array Value} {w : World} {R : Value → World → Prop} (hn : args.size ≤ 35) (h : VC Yaao.prog (Yaao.f102.body.getD .skip) (retK Yaao.prog Yaao.f102 R) (initEnv args) w) : CallsV Yaao.prog 102 args w R :=
  callsV_of_W hmix Yaao.func102 rfl ok102 hn h.out
theorem ok103 : okCode Yaao.f103.ntmps (Yaao.f103.body.getD .skip) = true := by kernel_rfl
theorem ent103 {args : Array Value} {w : World} {R : Value → World → Prop} (hn : args.size ≤ 24) (h : VC Yaao.prog (Yaao.f103.body.getD .skip) (retK Yaao.prog Yaao.f103 R) (initEnv args) w) : CallsV Yaao.prog 103 args w R :=
  callsV_of_W hmix Yaao.func103 rfl ok103 hn h.out
theorem ok104 : okCode Yaao.f104.ntmps (Yaao.f104.body.getD .skip) = true := by kernel_rfl
theorem ent104 {args : Array Value} {w : World} {R : Value → World → Prop} (hn : args.size ≤ 32) (h : VC Yaao.prog (Yaao.f104.body.getD .skip) (retK Yaao.prog Yaao.f104 R) (initEnv args) w) : CallsV Yaao.prog 104 args w R :=
  callsV_of_W hmix Yaao.func104 rfl ok104 hn h.out
theorem ok105 : okCode Yaao.f105.ntmps (Yaao.f105.body.getD .skip) = true := by kernel_rfl
theorem ent105 {args : Array Value} {w : World} {R : Value → World → Prop} (hn : args.size ≤ 46) (h : VC Yaao.prog (Yaao.f105.body.getD .skip) (retK Yaao.prog Yaao.f105 R) (initEnv args) w) : CallsV Yaao.prog 105 args w R :=
  callsV_of_W hmix Yaao.func105 rfl ok105 hn h.out
theorem ok106 : okCode Yaao.f106.ntmps (Yaao.f106.body.getD .skip) = true := by kernel_rfl
theorem ent106 {args : Array Value} {w : World} {R : Value → World → Prop} (hn : args.size ≤ 9) (h : VC Yaao.prog (Yaao.f106.body.getD .skip) (retK Yaao.prog Yaao.f106 R) (initEnv args) w) : CallsV Yaao.prog 106 args w R :=
  callsV_of_W hmix Yaao.func106 rfl ok106 hn h.out
theorem ok107 : okCode Yaao.f107.ntmps (Yaao.f107.body.getD .skip) = true := by kernel_rfl
theorem ent107 {args : Array Value} {w : World} {R : Value → World → Prop} (hn : args.size ≤ 36) (h : VC Yaao.prog (Yaao.f107.body.getD .skip) (retK Yaao.prog Yaao.f107 R) (initEnv args) w) : CallsV Yaao.prog 107 args w R :=
  callsV_of_W hmix Yaao.func107 rfl ok107 hn h.out
theorem ok108 : okCode Yaao.f108.ntmps (Yaao.f108.body.getD .skip) = true := by kernel_rfl
theorem ent108 {args : Array Value} {w : World} {R : Value → World → Prop} (hn : args.size ≤ 67) (h : VC Yaao.prog (Yaao.f108.body.getD .skip) (retK Yaao.prog Yaao.f108 R) (initEnv args) w) : CallsV Yaao.prog 108 args w R :=
  callsV_of_W hmix Yaao.func108 rfl ok108 hn h.out
theorem ok109 : okCode Yaao.f109.ntmps (Yaao.f109.body.getD .skip) = true := by kernel_rfl
theorem ent109 {args : Array Value} {w : World} {R : Value → World → Prop} (hn : args.size ≤ 35) (h : VC Yaao.prog (Yaao.f109.body.getD .skip) (retK Yaao.prog Yaao.f109 R) (initEnv args) w) : CallsV Yaao.prog 109 args w R :=
  callsV_of_W hmix Yaao.func109 rfl ok109 hn h.out
theorem ok110 : okCode Yaao.f110.ntmps (Yaao.f110.body.getD .skip) = true := by kernel_rfl
theorem ent110 {args : Array Value} {w : World} {R : Value → World → Prop} (hn : args.size ≤ 30) (h : VC Yaao.prog (Yaao.f110.body.getD .skip) (retK Yaao.prog Yaao.f110 R) (initEnv args) w) : CallsV Yaao.prog 110 args w R :=
  callsV_of_W hmix Yaao.func110 rfl ok110 hn h.out
theorem ok111 : okCode Yaao.f111.ntmps (Yaao.f111.body.getD .skip) = true := by kernel_rfl
theorem ent111 {args : Array Value} {w : World} {R : Value → World → Prop} (hn : args.size ≤ 24) (h : VC Yaao.prog (Yaao.f111.body.getD .skip) (retK Yaao.prog Yaao.f111 R) (initEnv args) w) : CallsV Yaao.prog 111 args w R :=
  callsV_of_W hmix Yaao.func111 rfl ok111 hn h.out
theorem ok112 : okCode Yaao.f112.ntmps (Yaao.f112.body.getD .skip) = true := by kernel_rfl
theorem ent112 {args : Array Value} {w : World} {R : Value → World → Prop} (hn : args.size ≤ 40) (h : VC Yaao.prog (Yaao.f112.body.getD .skip) (retK Yaao.prog Yaao.f112 R) (initEnv args) w) : CallsV Yaao.prog 112 args w R :=
  callsV_of_W hmix Yaao.func112 rfl ok112 hn h.out
theorem ok113 : okCode Yaao.f113.ntmps (Yaao.f113.body.getD .skip) = true := by kernel_rfl
theorem ent113 {args : Array Value} {w : World} {R : Value → World → Prop} (hn : args.size ≤ 21) (h : VC Yaao.prog (Yaao.f113.body.getD .skip) (retK Yaao.prog Yaao.f113 R) (initEnv args) w) : CallsV Yaao.prog 113 args w R :=
  callsV_of_W hmix Yaao.func113 rfl ok113 hn h.out
theorem ok114 : okCode Yaao.f114.ntmps (Yaao.f114.body.getD .skip) = true := by kernel_rfl
theorem ent114 {args : Array Value} {w : World} {R : Value → World → Prop} (hn : args.size ≤ 35) (h : VC Yaao.prog (Yaao.f114.body.getD .skip) (retK Yaao.prog Yaao.f114 R) (initEnv args) w) : CallsV Yaao.prog 114 args w R :=
  callsV_of_W hmix Yaao.func114 rfl ok114 hn h.out
theorem ok115 : okCode Yaao.f115.ntmps (Yaao.f115.body.getD .skip) = true := by kernel_rfl
theorem ent115 {args : Array Value} {w : World} {R : Value → World → Prop} (hn : args.size ≤ 24) (h : VC Yaao.prog (Yaao.f115.body.getD .skip) (retK Yaao.prog Yaao.f115 R) (initEnv args) w) : CallsV Yaao.prog 115 args w R :=
  callsV_of_W hmix Yaao.func115 rfl ok115 hn h.out
theorem ok116 : okCode Yaao.f116.ntmps (Yaao.f116.body.getD .skip) = true := by kernel_rfl
theorem ent116 {args : Array Value} {w : World} {R : Value → World → Prop} (hn : args.size ≤ 28) (h : VC Yaao.prog (Yaao.f116.body.getD .skip) (retK Yaao.prog Yaao.f116 R) (initEnv args) w) : CallsV Yaao.prog 116 args w R :=
  callsV_of_W hmix Yaao.func116 rfl ok116 hn h.out
theorem ok117 : okCode Yaao.f117.ntmps (Yaao.f117.body.getD .skip) = true := by kernel_rfl
theorem ent117 {args : Array Value} {w : World} {R : Value → World → Prop} (hn : args.size ≤ 40) (h : VC Yaao.prog (Yaao.f117.body.getD .skip) (retK Yaao.prog Yaao.f117 R) (initEnv args) w) : CallsV Yaao.prog 117 args w R :=
  callsV_of_W hmix Yaao.func117 rfl ok117 hn h.out
theorem ok118 : okCode Yaao.f118.ntmps (Yaao.f118.body.getD .skip) = true := by kernel_rfl
theorem ent118 {args : Array Value} {w : World} {R : Value → World → Prop} (hn : args.size ≤ 34) (h : VC Yaao.prog (Yaao.f118.body.getD .skip) (retK Yaao.prog Yaao.f118 R) (initEnv args) w) : CallsV Yaao.prog 118 args w R :=
  callsV_of_W hmix Yaao.func118 rfl ok118 hn h.out
theorem ok119 : okCode Yaao.f119.ntmps (Yaao.f119.body.getD .skip) = true := by kernel_rfl
theorem ent119 {args : Array Value} {w : World} {R : Value → World → Prop} (hn : args.size ≤ 108) (h : VC Yaao.prog (Yaao.f119.body.getD .skip) (retK Yaao.prog Yaao.f119 R) (initEnv args) w) : CallsV Yaao.prog 119 args w R :=
  callsV_of_W hmix Yaao.func119 rfl ok119 hn h.out
theorem ok120 : okCode Yaao.f120.ntmps (Yaao.f120.body.getD .skip) = true := by kernel_rfl
theorem ent120 {args : Array Value} {w : World} {R : Value → World → Prop} (hn : args.size ≤ 34) (h : VC Yaao.prog (Yaao.f120.body.getD .skip) (retK Yaao.prog Yaao.f120 R) (initEnv args) w) : CallsV Yaao.prog 120 args w R :=
  callsV_of_W hmix Yaao.func120 rfl ok120 hn h.out
theorem ok121 : okCode Yaao.f121.ntmps (Yaao.f121.body.getD .skip) = true := by kernel_rfl
theorem ent121 {args : Array Value} {w : World} {R : Value → World → Prop} (hn : args.size ≤ 100) (h : VC Yaao.prog (Yaao.f121.body.getD .skip) (retK Yaao.prog Yaao.f121 R) (initEnv args) w) : CallsV Yaao.prog 121 args w R :=
  callsV_of_W hmix Yaao.func121 rfl ok121 hn h.out
end Go.Proofs.YbzaawGreat
