/-  Made by program: the struct literals of the seat's types.  -/
import Derived.Test.YbzacwTy
import Derived.Test.YbzacwMem
namespace Go.Proofs.Ybzacw
open Go.Wf
theorem bl102 : Built Yaco.prog 102 [.int .i64 0, .int .i64 0, .slice none 0 0] := built_of (fun i => (#[(0, 1), (1, 1), (2, 1)] : Array (Nat × Nat))[i]?) (fun parts => by kernel_rfl) (by decide)
theorem bl109 : Built Yaco.prog 109 [.slice none 0 0, .slice none 0 0, .int .i64 0] := built_of (fun i => (#[(0, 1), (1, 1), (2, 1)] : Array (Nat × Nat))[i]?) (fun parts => by kernel_rfl) (by decide)
theorem bl113 : Built Yaco.prog 113 [.int .i64 0, .string ⟨#[]⟩, .int .i64 0, .int .i64 0] := built_of (fun i => (#[(0, 1), (1, 1), (2, 1), (3, 1)] : Array (Nat × Nat))[i]?) (fun parts => by kernel_rfl) (by decide)
theorem bl117 : Built Yaco.prog 117 [.int .i64 0, .string ⟨#[]⟩, .slice none 0 0] := built_of (fun i => (#[(0, 1), (1, 1), (2, 1)] : Array (Nat × Nat))[i]?) (fun parts => by kernel_rfl) (by decide)
theorem bl124 : Built Yaco.prog 124 [.slice none 0 0, .int .i64 0, .slice none 0 0, .bool false] := built_of (fun i => (#[(0, 1), (1, 1), (2, 1), (3, 1)] : Array (Nat × Nat))[i]?) (fun parts => by kernel_rfl) (by decide)
theorem bl131 : Built Yaco.prog 131 [.slice none 0 0, .int .i64 0, .int .i64 0] := built_of (fun i => (#[(0, 1), (1, 1), (2, 1)] : Array (Nat × Nat))[i]?) (fun parts => by kernel_rfl) (by decide)
theorem bl133 : Built Yaco.prog 133 [.int .i64 0, .bool false] := built_of (fun i => (#[(0, 1), (1, 1)] : Array (Nat × Nat))[i]?) (fun parts => by kernel_rfl) (by decide)
theorem bl140 : Built Yaco.prog 140 [.slice none 0 0, .int .i64 0, .int .i64 0] := built_of (fun i => (#[(0, 1), (1, 1), (2, 1)] : Array (Nat × Nat))[i]?) (fun parts => by kernel_rfl) (by decide)
theorem bl144 : Built Yaco.prog 144 [.int .i64 0, .bool false, .int .i64 0, .int .i64 0] := built_of (fun i => (#[(0, 1), (1, 1), (2, 1), (3, 1)] : Array (Nat × Nat))[i]?) (fun parts => by kernel_rfl) (by decide)
theorem bl150 : Built Yaco.prog 150 [.slice none 0 0, .int .i64 0, .bool false] := built_of (fun i => (#[(0, 1), (1, 1), (2, 1)] : Array (Nat × Nat))[i]?) (fun parts => by kernel_rfl) (by decide)
theorem bl181 : Built Yaco.prog 181 [.bool false, .slice none 0 0, .int .i64 0] := built_of (fun i => (#[(0, 1), (1, 1), (2, 1)] : Array (Nat × Nat))[i]?) (fun parts => by kernel_rfl) (by decide)
theorem bl27 : Built Yaco.prog 27 [.int .i64 0, .slice none 0 0, .int .i64 0, .slice none 0 0, .int .i64 0] := built_of (fun i => (#[(0, 1), (1, 1), (2, 1), (3, 1), (4, 1)] : Array (Nat × Nat))[i]?) (fun parts => by kernel_rfl) (by decide)
theorem bl31 : Built Yaco.prog 31 [.int .i64 0, .slice none 0 0, .int .i64 0, .slice none 0 0, .int .i64 0] := built_of (fun i => (#[(0, 1), (1, 1), (2, 1), (3, 1), (4, 1)] : Array (Nat × Nat))[i]?) (fun parts => by kernel_rfl) (by decide)
theorem bl43 : Built Yaco.prog 43 [.slice none 0 0, .slice none 0 0, .slice none 0 0, .slice none 0 0, .slice none 0 0, .slice none 0 0, .slice none 0 0, .slice none 0 0] := built_of (fun i => (#[(0, 1), (1, 1), (2, 1), (3, 1), (4, 1), (5, 1), (6, 1), (7, 1)] : Array (Nat × Nat))[i]?) (fun parts => by kernel_rfl) (by decide)
theorem bl53 : Built Yaco.prog 53 [.int .i64 0, .string ⟨#[]⟩, .int .i64 0, .int .i64 0] := built_of (fun i => (#[(0, 1), (1, 1), (2, 1), (3, 1)] : Array (Nat × Nat))[i]?) (fun parts => by kernel_rfl) (by decide)
theorem bl71 : Built Yaco.prog 71 [.int .i64 0, .string ⟨#[]⟩, .int .i64 0, .int .i64 0] := built_of (fun i => (#[(0, 1), (1, 1), (2, 1), (3, 1)] : Array (Nat × Nat))[i]?) (fun parts => by kernel_rfl) (by decide)
theorem bl82 : Built Yaco.prog 82 [.slice none 0 0] := built_of (fun i => (#[(0, 1)] : Array (Nat × Nat))[i]?) (fun parts => by kernel_rfl) (by decide)
theorem bl84 : Built Yaco.prog 84 [.bool false, .int .i64 0, .int .i64 0, .slice none 0 0, .slice none 0 0] := built_of (fun i => (#[(0, 1), (1, 1), (2, 1), (3, 1), (4, 1)] : Array (Nat × Nat))[i]?) (fun parts => by kernel_rfl) (by decide)
theorem bl88 : Built Yaco.prog 88 [.string ⟨#[]⟩, .slice none 0 0] := built_of (fun i => (#[(0, 1), (1, 1)] : Array (Nat × Nat))[i]?) (fun parts => by kernel_rfl) (by decide)
theorem bl95 : Built Yaco.prog 95 [.slice none 0 0] := built_of (fun i => (#[(0, 1)] : Array (Nat × Nat))[i]?) (fun parts => by kernel_rfl) (by decide)
theorem bl97 : Built Yaco.prog 97 [.bool false, .int .i64 0, .int .i64 0, .slice none 0 0, .slice none 0 0] := built_of (fun i => (#[(0, 1), (1, 1), (2, 1), (3, 1), (4, 1)] : Array (Nat × Nat))[i]?) (fun parts => by kernel_rfl) (by decide)
end Go.Proofs.Ybzacw
