/- A part of the proofs of the laws of logs: see the last text of this claim. -/
import Derived.Test.YtlehhkleemaloaaGreatDoorB1
namespace Go.Abs
noncomputable section
open Go Go.Proofs
/-! ## The laws' example is right: a closed run, by the interpreter in the kernel -/
noncomputable def exPE : AV := .agg [.slR [.str [84], .nils, .slR [.str [116]] 0 1 1 false, .nils] 0 1 1 false, .slR [.str [77], .nils, .bool false, .slR [.int .i64 (7), .int .i64 (0), .int .i64 (0), .str [116], .nils, .slR [.slR [.int .i64 (0), .int .i64 (5), .str [], .nils, .nils] 0 1 1 false] 0 1 1 false, .nils, .int .i64 (9), .int .i64 (2), .int .i64 (0), .str [], .nils, .nils, .slR [.int .i64 (4), .int .i64 (0), .int .i64 (2), .nils, .str [116], .str [], .nils, .nils] 0 1 1 false, .int .i64 (10), .int .i64 (0), .int .i64 (0), .str [], .nils, .slR [.slR [.int .i64 (6), .int .i64 (1), .str [], .nils, .nils] 0 1 1 false] 0 1 1 false, .nils] 0 3 3 false] 0 1 1 false, .nils, .int .i64 (0), .int .i64 (0)]
noncomputable def chkV : AV := .tup [.int .i64 (0), .int .i64 (0)]
noncomputable def pures (f : Nat) : Bool := Nat.beq f 30 || Nat.beq f 75 || Nat.beq f 8
noncomputable def C0 : Cfg := { P := Tryz.prog, glob := globG, ext := extG, spec := fun _ _ => none, pure := pures, gobj := gobjG, nodef := fun f => memN [69, 68, 87] f }
theorem example_ok (h : Heap) : (fns C0 60).call 30 [] h none = some (.val exPE h none) := by kernel_rfl
theorem check_ok (h : Heap) : (fns C0 60).call 75 [exPE] h none = some (.val chkV h none) := by kernel_rfl
noncomputable def spec1 (f : Nat) (args : List AV) : Option AV := bif Nat.beq f 30 then (match args with | [] => some exPE | _ => none) else bif Nat.beq f 75 then (bif beqL (beqAV 64) args [exPE] then some chkV else none) else none
noncomputable def C1 : Cfg := { C0 with spec := spec1 }
theorem awake_ok (h : Heap) : (fns C1 60).call 8 [] h none = some (.val (.bool true) h none) := by kernel_rfl
end
end Go.Abs
