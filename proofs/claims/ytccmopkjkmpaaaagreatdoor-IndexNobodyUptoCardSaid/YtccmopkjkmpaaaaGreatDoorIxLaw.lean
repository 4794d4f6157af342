/-
  The calls of the law, each by the kernel: over two indexes that are none, a new one, a closed store.
-/
import Derived.Test.YtccmopkjkmpaaaaGreatDoorIxHook
namespace Go.Proofs.YtccmopkjkmpaaaaGreatDoor
open Go Go.Ab
set_option linter.unusedVariables false
set_option maxRecDepth 100000

noncomputable def loopOut (k t : List UInt8) : Option (AExit × Fr × AMem) := runLoop Tryz.prog hkX Tryz.f3 0 [0, 1, 4, 5, 6, 7] 200 200 (mkFr [(0, AV.str k), (1, AV.str t), (4, AV.bool false), (5, AV.ptr none), (6, AV.slice (some ((memG.new (ABlk.cells [AV.ptr none] 0 Cl.yes)).next, 0)) 2 (some 2)), (7, AV.int IntKind.i64 0)]) ((memG.new (ABlk.cells [AV.ptr none] 0 Cl.yes)).new (ABlk.cells [AV.ptr none, AV.ptr (some (memG.next, 0))] 0 Cl.yes)) fun e fr M => some (e, fr, M)
noncomputable def memA (k t : List UInt8) : AMem := match loopOut k t with
  | some (_, _, M) => M
  | none => memG
noncomputable def memB (k t : List UInt8) : AMem := match acall Tryz.prog hkX 200 12 [.ptr none] (memA k t) with
  | some (_, M) => M
  | none => memG
noncomputable def memB2 (k t : List UInt8) : AMem := match acall Tryz.prog hkX 200 14 [] (memB k t) with
  | some (_, M) => M
  | none => memG
noncomputable def memB3 (k t : List UInt8) : AMem := match acall Tryz.prog hkX 200 13 [.agg [.int .i64 20, .int .i64 800, .int .i64 8, .int .i64 8, .int .i64 16, .int .i64 16, .int .i64 24, .int .i64 3]] (memB2 k t) with
  | some (_, M) => M
  | none => memG
noncomputable def memC (k t : List UInt8) : AMem := match acall Tryz.prog hkX 200 15 [.ptr (some (269, 0))] (memB3 k t) with
  | some (_, M) => M
  | none => memG
noncomputable def memD1 (k t : List UInt8) : AMem := match acall Tryz.prog hkX 200 21 [.int .u64 2] (memC k t) with
  | some (_, M) => M
  | none => memG
noncomputable def memD2 (k t : List UInt8) : AMem := match acall Tryz.prog hkX 200 22 [.str t] (memD1 k t) with
  | some (_, M) => M
  | none => memG
noncomputable def memD3 (k t : List UInt8) : AMem := (memD2 k t).new (.cells (parts t) 0 .yes)
noncomputable def memD4 (k t : List UInt8) (lo hi : List UInt8) : AMem := ((memD3 k t).new (.cells [.str [], .str [], .bool false] 0 .yes)).set (memD3 k t).next (.cells [.str lo, .str hi, .bool false] 0 .yes)
noncomputable def memD5 (k t : List UInt8) (lo hi : List UInt8) : AMem := match acall Tryz.prog hkX 200 43 [.ptr (some (269, 0)), .str lo, .str hi, .int .i64 1073741824] (memD4 k t lo hi) with
  | some (_, M) => M
  | none => memG
noncomputable def memE (k t : List UInt8) (lo hi : List UInt8) : AMem := match acall Tryz.prog hkX 200 6 [.ptr (some (270, 0))] (memD5 k t lo hi) with
  | some (_, M) => M
  | none => memG
noncomputable def memE2 (k t : List UInt8) (lo hi : List UInt8) : AMem := match acall Tryz.prog hkX 200 9 [.ptr (some (270, 0)), .str [{ toBitVec := 97#8 : UInt8 }], .str [{ toBitVec := 98#8 : UInt8 }]] (memE k t lo hi) with
  | some (_, M) => M
  | none => memG
noncomputable def memE3 (k t : List UInt8) (lo hi : List UInt8) : AMem := match acall Tryz.prog hkX 200 10 [.ptr (some (270, 0)), .str [{ toBitVec := 97#8 : UInt8 }]] (memE2 k t lo hi) with
  | some (_, M) => M
  | none => memG

theorem law_loop (k t : List UInt8) (n : Nat) (kk : AExit → Fr → AMem → Option (AV × AMem)) : runLoop Tryz.prog hkX Tryz.f3 0 [0, 1, 4, 5, 6, 7] (n + 200) (n + 200) (mkFr [(0, AV.str k), (1, AV.str t), (4, AV.bool false), (5, AV.ptr none), (6, AV.slice (some ((memG.new (ABlk.cells [AV.ptr none] 0 Cl.yes)).next, 0)) 2 (some 2)), (7, AV.int IntKind.i64 0)]) ((memG.new (ABlk.cells [AV.ptr none] 0 Cl.yes)).new (ABlk.cells [AV.ptr none, AV.ptr (some (memG.next, 0))] 0 Cl.yes)) kk =
  kk (.exit 0) (mkFr [(0, .str k), (1, .str t), (4, .bool false), (5, .ptr none), (6, .slice (some (5, 0)) 2 (some 2)), (7, .int .i64 2)]) (memA k t) := by kernel_rfl
theorem new_nil (k t : List UInt8) (n : Nat) : acall Tryz.prog hkX (n + 200) 12 [.ptr none] (memA k t) = some (.tup [.ptr none, .int .i64 1], memB k t) := by kernel_rfl
theorem wide_run (k t : List UInt8) (n : Nat) : acall Tryz.prog hkX (n + 200) 14 [] (memB k t) = some (.agg [.int .i64 20, .int .i64 800, .int .i64 8, .int .i64 8, .int .i64 16, .int .i64 16, .int .i64 24, .int .i64 3], memB2 k t) := by kernel_rfl
theorem begun_run (k t : List UInt8) (n : Nat) : acall Tryz.prog hkX (n + 200) 13 [.agg [.int .i64 20, .int .i64 800, .int .i64 8, .int .i64 8, .int .i64 16, .int .i64 16, .int .i64 24, .int .i64 3]] (memB2 k t) = some (.ptr (some (270, 0)), memB3 k t) := by kernel_rfl
theorem store_run (k t : List UInt8) (n : Nat) : acall Tryz.prog hkX (n + 200) 11 [.ptr (some (270, 0))] (memB3 k t) = some (.ptr (some (269, 0)), memB3 k t) := by kernel_rfl
theorem close_run (k t : List UInt8) (n : Nat) : acall Tryz.prog hkX (n + 200) 15 [.ptr (some (269, 0))] (memB3 k t) = some (.tup [.slice (some (407, 0)) 16000 none, .int .i64 0], memC k t) := by kernel_rfl
theorem num_run (k t : List UInt8) (n : Nat) : acall Tryz.prog hkX (n + 200) 21 [.int .u64 2] (memC k t) = some (.agg [.bool true, .int .u64 2, .str []], memD1 k t) := by kernel_rfl
theorem text_run (k t : List UInt8) (n : Nat) : acall Tryz.prog hkX (n + 200) 22 [.str t] (memD1 k t) = some (.agg [.bool false, .int .u64 0, .str t], memD2 k t) := by kernel_rfl
theorem none_run (k t : List UInt8) (n : Nat) : acall Tryz.prog hkX (n + 200) 17 [.ptr (some (270, 0))] (memD3 k t) = some (.bool false, memD3 k t) := by kernel_rfl
theorem x_row (k t : List UInt8) (lo hi : List UInt8) : (memD4 k t lo hi).row 270 = some [.ptr (some (269, 0))] := by kernel_rfl
theorem range_run (k t : List UInt8) (lo hi : List UInt8) (n : Nat) : acall Tryz.prog hkX (n + 200) 43 [.ptr (some (269, 0)), .str lo, .str hi, .int .i64 1073741824] (memD4 k t lo hi) = some (.tup [.slice none 0 (some 0), .int .i64 13], memD5 k t lo hi) := by kernel_rfl
theorem tags_run (k t : List UInt8) (lo hi : List UInt8) (n : Nat) : acall Tryz.prog hkX (n + 200) 6 [.ptr (some (270, 0))] (memD5 k t lo hi) = some (.tup [.slice none 0 (some 0), .int .i64 13], memE k t lo hi) := by kernel_rfl
theorem set_run (k t : List UInt8) (lo hi : List UInt8) (n : Nat) : acall Tryz.prog hkX (n + 200) 9 [.ptr (some (270, 0)), .str [{ toBitVec := 97#8 : UInt8 }], .str [{ toBitVec := 98#8 : UInt8 }]] (memE k t lo hi) = some (.int .i64 13, memE2 k t lo hi) := by kernel_rfl
theorem drop_run (k t : List UInt8) (lo hi : List UInt8) (n : Nat) : acall Tryz.prog hkX (n + 200) 10 [.ptr (some (270, 0)), .str [{ toBitVec := 97#8 : UInt8 }]] (memE2 k t lo hi) = some (.int .i64 13, memE3 k t lo hi) := by kernel_rfl
theorem memE3_next (k t : List UInt8) (lo hi : List UInt8) : Nat.ble 4 (memE3 k t lo hi).next = true := by kernel_rfl
theorem memE3_tab (k t : List UInt8) (lo hi : List UInt8) : subM linG (memE3 k t lo hi) = true := by kernel_rfl
end Go.Proofs.YtccmopkjkmpaaaaGreatDoor
