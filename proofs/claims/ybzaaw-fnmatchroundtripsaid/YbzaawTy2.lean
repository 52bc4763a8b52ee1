/-  Made by program: the struct literals of the seat's types.  -/
import Derived.Test.YbzaawTy
import Derived.Test.YbzaawMem
namespace Go.Proofs.Ybzaaw
open Go.Wf
theorem bl105 : Built Yaao.prog 105 [.slice none 0 0, .slice none 0 0, .slice none 0 0, .slice none 0 0, .slice none 0 0, .slice none 0 0, .slice none 0 0, .slice none 0 0] := built_of (fun i => (#[(0, 1), (1, 1), (2, 1), (3, 1), (4, 1), (5, 1), (6, 1), (7, 1)] : Array (Nat × Nat))[i]?) (fun parts => by kernel_rfl) (by decide)
theorem bl112 : Built Yaao.prog 112 [.bool false, .int .i64 0, .int .i64 0, .slice none 0 0, .slice none 0 0] := built_of (fun i => (#[(0, 1), (1, 1), (2, 1), (3, 1), (4, 1)] : Array (Nat × Nat))[i]?) (fun parts => by kernel_rfl) (by decide)
theorem bl116 : Built Yaao.prog 116 [.slice none 0 0, .int .i64 0, .slice none 0 0, .bool false] := built_of (fun i => (#[(0, 1), (1, 1), (2, 1), (3, 1)] : Array (Nat × Nat))[i]?) (fun parts => by kernel_rfl) (by decide)
theorem bl131 : Built Yaao.prog 131 [.slice none 0 0] := built_of (fun i => (#[(0, 1)] : Array (Nat × Nat))[i]?) (fun parts => by kernel_rfl) (by decide)
theorem bl136 : Built Yaao.prog 136 [.slice none 0 0, .slice none 0 0, .int .i64 0] := built_of (fun i => (#[(0, 1), (1, 1), (2, 1)] : Array (Nat × Nat))[i]?) (fun parts => by kernel_rfl) (by decide)
theorem bl142 : Built Yaao.prog 142 [.int .i64 0, .int .i64 0, .slice none 0 0] := built_of (fun i => (#[(0, 1), (1, 1), (2, 1)] : Array (Nat × Nat))[i]?) (fun parts => by kernel_rfl) (by decide)
theorem bl150 : Built Yaao.prog 150 [.slice none 0 0, .int .i64 0, .bool false] := built_of (fun i => (#[(0, 1), (1, 1), (2, 1)] : Array (Nat × Nat))[i]?) (fun parts => by kernel_rfl) (by decide)
theorem bl154 : Built Yaao.prog 154 [.slice none 0 0, .int .i64 0, .int .i64 0] := built_of (fun i => (#[(0, 1), (1, 1), (2, 1)] : Array (Nat × Nat))[i]?) (fun parts => by kernel_rfl) (by decide)
theorem bl160 : Built Yaao.prog 160 [.int .i64 0, .bool false, .int .i64 0, .int .i64 0] := built_of (fun i => (#[(0, 1), (1, 1), (2, 1), (3, 1)] : Array (Nat × Nat))[i]?) (fun parts => by kernel_rfl) (by decide)
theorem bl167 : Built Yaao.prog 167 [.slice none 0 0, .int .i64 0, .int .i64 0] := built_of (fun i => (#[(0, 1), (1, 1), (2, 1)] : Array (Nat × Nat))[i]?) (fun parts => by kernel_rfl) (by decide)
theorem bl169 : Built Yaao.prog 169 [.int .i64 0, .bool false] := built_of (fun i => (#[(0, 1), (1, 1)] : Array (Nat × Nat))[i]?) (fun parts => by kernel_rfl) (by decide)
theorem bl187 : Built Yaao.prog 187 [.bool false, .slice none 0 0, .int .i64 0] := built_of (fun i => (#[(0, 1), (1, 1), (2, 1)] : Array (Nat × Nat))[i]?) (fun parts => by kernel_rfl) (by decide)
theorem bl25 : Built Yaao.prog 25 [.int .i64 0, .string ⟨#[]⟩, .int .i64 0, .int .i64 0] := built_of (fun i => (#[(0, 1), (1, 1), (2, 1), (3, 1)] : Array (Nat × Nat))[i]?) (fun parts => by kernel_rfl) (by decide)
theorem bl36 : Built Yaao.prog 36 [.int .i64 0, .string ⟨#[]⟩, .slice none 0 0] := built_of (fun i => (#[(0, 1), (1, 1), (2, 1)] : Array (Nat × Nat))[i]?) (fun parts => by kernel_rfl) (by decide)
theorem bl50 : Built Yaao.prog 50 [.string ⟨#[]⟩, .slice none 0 0] := built_of (fun i => (#[(0, 1), (1, 1)] : Array (Nat × Nat))[i]?) (fun parts => by kernel_rfl) (by decide)
theorem bl64 : Built Yaao.prog 64 [.int .i64 0, .slice none 0 0, .int .i64 0, .slice none 0 0, .int .i64 0] := built_of (fun i => (#[(0, 1), (1, 1), (2, 1), (3, 1), (4, 1)] : Array (Nat × Nat))[i]?) (fun parts => by kernel_rfl) (by decide)
theorem bl80 : Built Yaao.prog 80 [.int .i64 0, .string ⟨#[]⟩, .int .i64 0, .int .i64 0] := built_of (fun i => (#[(0, 1), (1, 1), (2, 1), (3, 1)] : Array (Nat × Nat))[i]?) (fun parts => by kernel_rfl) (by decide)
end Go.Proofs.Ybzaaw
