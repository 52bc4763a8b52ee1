/-  Made by program: the struct literals of the seat's types.  -/
import Derived.Test.YbzabwTy
import Derived.Test.YbzabwMem
namespace Go.Proofs.Ybzabw
open Go.Wf
theorem bl103 : Built Yabo.prog 103 [.slice none 0 0, .int .i64 0] := built_of (fun i => (#[(0, 1), (1, 1)] : Array (Nat × Nat))[i]?) (fun parts => by kernel_rfl) (by decide)
theorem bl111 : Built Yabo.prog 111 [.slice none 0 0, .slice none 0 0, .int .i64 0] := built_of (fun i => (#[(0, 1), (1, 1), (2, 1)] : Array (Nat × Nat))[i]?) (fun parts => by kernel_rfl) (by decide)
theorem bl118 : Built Yabo.prog 118 [.int .i64 0, .int .i64 0, .slice none 0 0] := built_of (fun i => (#[(0, 1), (1, 1), (2, 1)] : Array (Nat × Nat))[i]?) (fun parts => by kernel_rfl) (by decide)
theorem bl124 : Built Yabo.prog 124 [.int .i64 0, .string ⟨#[]⟩, .slice none 0 0] := built_of (fun i => (#[(0, 1), (1, 1), (2, 1)] : Array (Nat × Nat))[i]?) (fun parts => by kernel_rfl) (by decide)
theorem bl128 : Built Yabo.prog 128 [.int .i64 0, .string ⟨#[]⟩, .int .i64 0, .int .i64 0] := built_of (fun i => (#[(0, 1), (1, 1), (2, 1), (3, 1)] : Array (Nat × Nat))[i]?) (fun parts => by kernel_rfl) (by decide)
theorem bl135 : Built Yabo.prog 135 [.int .i64 0, .string ⟨#[]⟩, .int .i64 0, .int .i64 0] := built_of (fun i => (#[(0, 1), (1, 1), (2, 1), (3, 1)] : Array (Nat × Nat))[i]?) (fun parts => by kernel_rfl) (by decide)
theorem bl138 : Built Yabo.prog 138 [.slice none 0 0, .int .i64 0, .slice none 0 0, .bool false] := built_of (fun i => (#[(0, 1), (1, 1), (2, 1), (3, 1)] : Array (Nat × Nat))[i]?) (fun parts => by kernel_rfl) (by decide)
theorem bl150 : Built Yabo.prog 150 [.string ⟨#[]⟩, .slice none 0 0] := built_of (fun i => (#[(0, 1), (1, 1)] : Array (Nat × Nat))[i]?) (fun parts => by kernel_rfl) (by decide)
theorem bl154 : Built Yabo.prog 154 [.slice none 0 0, .int .i64 0, .int .i64 0] := built_of (fun i => (#[(0, 1), (1, 1), (2, 1)] : Array (Nat × Nat))[i]?) (fun parts => by kernel_rfl) (by decide)
theorem bl160 : Built Yabo.prog 160 [.int .i64 0, .bool false, .int .i64 0, .int .i64 0] := built_of (fun i => (#[(0, 1), (1, 1), (2, 1), (3, 1)] : Array (Nat × Nat))[i]?) (fun parts => by kernel_rfl) (by decide)
theorem bl167 : Built Yabo.prog 167 [.slice none 0 0, .int .i64 0, .int .i64 0] := built_of (fun i => (#[(0, 1), (1, 1), (2, 1)] : Array (Nat × Nat))[i]?) (fun parts => by kernel_rfl) (by decide)
theorem bl169 : Built Yabo.prog 169 [.int .i64 0, .bool false] := built_of (fun i => (#[(0, 1), (1, 1)] : Array (Nat × Nat))[i]?) (fun parts => by kernel_rfl) (by decide)
theorem bl179 : Built Yabo.prog 179 [.slice none 0 0, .int .i64 0, .bool false] := built_of (fun i => (#[(0, 1), (1, 1), (2, 1)] : Array (Nat × Nat))[i]?) (fun parts => by kernel_rfl) (by decide)
theorem bl206 : Built Yabo.prog 206 [.bool false, .slice none 0 0, .int .i64 0] := built_of (fun i => (#[(0, 1), (1, 1), (2, 1)] : Array (Nat × Nat))[i]?) (fun parts => by kernel_rfl) (by decide)
theorem bl31 : Built Yabo.prog 31 [.int .i64 0, .slice none 0 0, .int .i64 0, .slice none 0 0, .int .i64 0] := built_of (fun i => (#[(0, 1), (1, 1), (2, 1), (3, 1), (4, 1)] : Array (Nat × Nat))[i]?) (fun parts => by kernel_rfl) (by decide)
theorem bl34 : Built Yabo.prog 34 [.bool false, .int .i64 0, .int .i64 0, .slice none 0 0, .slice none 0 0] := built_of (fun i => (#[(0, 1), (1, 1), (2, 1), (3, 1), (4, 1)] : Array (Nat × Nat))[i]?) (fun parts => by kernel_rfl) (by decide)
theorem bl37 : Built Yabo.prog 37 [.slice none 0 0] := built_of (fun i => (#[(0, 1)] : Array (Nat × Nat))[i]?) (fun parts => by kernel_rfl) (by decide)
theorem bl55 : Built Yabo.prog 55 [.slice none 0 0, .slice none 0 0, .slice none 0 0, .slice none 0 0, .slice none 0 0, .slice none 0 0, .slice none 0 0, .slice none 0 0] := built_of (fun i => (#[(0, 1), (1, 1), (2, 1), (3, 1), (4, 1), (5, 1), (6, 1), (7, 1)] : Array (Nat × Nat))[i]?) (fun parts => by kernel_rfl) (by decide)
theorem bl59 : Built Yabo.prog 59 [.int .i64 0, .string ⟨#[]⟩, .int .i64 0, .int .i64 0] := built_of (fun i => (#[(0, 1), (1, 1), (2, 1), (3, 1)] : Array (Nat × Nat))[i]?) (fun parts => by kernel_rfl) (by decide)
theorem bl71 : Built Yabo.prog 71 [.int .i64 0, .string ⟨#[]⟩, .int .i64 0, .int .i64 0] := built_of (fun i => (#[(0, 1), (1, 1), (2, 1), (3, 1)] : Array (Nat × Nat))[i]?) (fun parts => by kernel_rfl) (by decide)
theorem bl88 : Built Yabo.prog 88 [.string ⟨#[]⟩, .slice none 0 0] := built_of (fun i => (#[(0, 1), (1, 1)] : Array (Nat × Nat))[i]?) (fun parts => by kernel_rfl) (by decide)
end Go.Proofs.Ybzabw
