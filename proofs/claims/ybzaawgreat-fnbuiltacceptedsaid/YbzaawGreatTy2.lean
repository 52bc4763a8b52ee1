/-  Made by program: the struct literals of the seat's types.  -/
import Derived.Test.YbzaawGreatTy
import Derived.Test.YbzaawGreatMem
namespace Go.Proofs.YbzaawGreat
open Go.Wf
theorem bl104 : Built Yaao.prog 104 [.int .i64 0, .int .i64 0, .slice none 0 0] := built_of (fun i => (#[(0, 1), (1, 1), (2, 1)] : Array (Nat × Nat))[i]?) (fun parts => by kernel_rfl) (by decide)
theorem bl113 : Built Yaao.prog 113 [.int .i64 0, .string ⟨#[]⟩, .int .i64 0, .int .i64 0] := built_of (fun i => (#[(0, 1), (1, 1), (2, 1), (3, 1)] : Array (Nat × Nat))[i]?) (fun parts => by kernel_rfl) (by decide)
theorem bl117 : Built Yaao.prog 117 [.int .i64 0, .string ⟨#[]⟩, .int .i64 0, .int .i64 0] := built_of (fun i => (#[(0, 1), (1, 1), (2, 1), (3, 1)] : Array (Nat × Nat))[i]?) (fun parts => by kernel_rfl) (by decide)
theorem bl125 : Built Yaao.prog 125 [.slice none 0 0, .int .i64 0, .int .i64 0] := built_of (fun i => (#[(0, 1), (1, 1), (2, 1)] : Array (Nat × Nat))[i]?) (fun parts => by kernel_rfl) (by decide)
theorem bl132 : Built Yaao.prog 132 [.int .i64 0, .bool false, .int .i64 0, .int .i64 0] := built_of (fun i => (#[(0, 1), (1, 1), (2, 1), (3, 1)] : Array (Nat × Nat))[i]?) (fun parts => by kernel_rfl) (by decide)
theorem bl145 : Built Yaao.prog 145 [.slice none 0 0, .int .i64 0, .int .i64 0] := built_of (fun i => (#[(0, 1), (1, 1), (2, 1)] : Array (Nat × Nat))[i]?) (fun parts => by kernel_rfl) (by decide)
theorem bl147 : Built Yaao.prog 147 [.int .i64 0, .bool false] := built_of (fun i => (#[(0, 1), (1, 1)] : Array (Nat × Nat))[i]?) (fun parts => by kernel_rfl) (by decide)
theorem bl156 : Built Yaao.prog 156 [.slice none 0 0, .int .i64 0, .slice none 0 0, .bool false] := built_of (fun i => (#[(0, 1), (1, 1), (2, 1), (3, 1)] : Array (Nat × Nat))[i]?) (fun parts => by kernel_rfl) (by decide)
theorem bl175 : Built Yaao.prog 175 [.slice none 0 0, .int .i64 0, .bool false] := built_of (fun i => (#[(0, 1), (1, 1), (2, 1)] : Array (Nat × Nat))[i]?) (fun parts => by kernel_rfl) (by decide)
theorem bl178 : Built Yaao.prog 178 [.bool false, .slice none 0 0, .int .i64 0] := built_of (fun i => (#[(0, 1), (1, 1), (2, 1)] : Array (Nat × Nat))[i]?) (fun parts => by kernel_rfl) (by decide)
theorem bl30 : Built Yaao.prog 30 [.bool false, .int .i64 0, .int .i64 0, .slice none 0 0, .slice none 0 0] := built_of (fun i => (#[(0, 1), (1, 1), (2, 1), (3, 1), (4, 1)] : Array (Nat × Nat))[i]?) (fun parts => by kernel_rfl) (by decide)
theorem bl32 : Built Yaao.prog 32 [.slice none 0 0] := built_of (fun i => (#[(0, 1)] : Array (Nat × Nat))[i]?) (fun parts => by kernel_rfl) (by decide)
theorem bl41 : Built Yaao.prog 41 [.string ⟨#[]⟩, .slice none 0 0] := built_of (fun i => (#[(0, 1), (1, 1)] : Array (Nat × Nat))[i]?) (fun parts => by kernel_rfl) (by decide)
theorem bl51 : Built Yaao.prog 51 [.int .i64 0, .string ⟨#[]⟩, .slice none 0 0] := built_of (fun i => (#[(0, 1), (1, 1), (2, 1)] : Array (Nat × Nat))[i]?) (fun parts => by kernel_rfl) (by decide)
theorem bl65 : Built Yaao.prog 65 [.slice none 0 0, .slice none 0 0, .slice none 0 0, .slice none 0 0, .slice none 0 0, .slice none 0 0, .slice none 0 0, .slice none 0 0] := built_of (fun i => (#[(0, 1), (1, 1), (2, 1), (3, 1), (4, 1), (5, 1), (6, 1), (7, 1)] : Array (Nat × Nat))[i]?) (fun parts => by kernel_rfl) (by decide)
theorem bl70 : Built Yaao.prog 70 [.slice none 0 0, .int .i64 0] := built_of (fun i => (#[(0, 1), (1, 1)] : Array (Nat × Nat))[i]?) (fun parts => by kernel_rfl) (by decide)
theorem bl84 : Built Yaao.prog 84 [.string ⟨#[]⟩, .slice none 0 0] := built_of (fun i => (#[(0, 1), (1, 1)] : Array (Nat × Nat))[i]?) (fun parts => by kernel_rfl) (by decide)
theorem bl91 : Built Yaao.prog 91 [.int .i64 0, .slice none 0 0, .int .i64 0, .slice none 0 0, .int .i64 0] := built_of (fun i => (#[(0, 1), (1, 1), (2, 1), (3, 1), (4, 1)] : Array (Nat × Nat))[i]?) (fun parts => by kernel_rfl) (by decide)
theorem bl94 : Built Yaao.prog 94 [.slice none 0 0, .slice none 0 0, .int .i64 0] := built_of (fun i => (#[(0, 1), (1, 1), (2, 1)] : Array (Nat × Nat))[i]?) (fun parts => by kernel_rfl) (by decide)
end Go.Proofs.YbzaawGreat
