/-
  17 cuts and their hooks. Printed by wip/tool/mkcuts5.py.
-/
import Derived.Test.YthhflooehdhkhaaGreatDoorBase
namespace Go.Proofs.YthhflooehdhkhaaGreatDoor
open Go Go.Ab Go.Proofs
set_option linter.unusedVariables false
set_option maxRecDepth 100000

def by8 (l : List Int) : List AV := l.map (AV.int .u8)
def nul (n : Nat) : List AV := List.replicate n (.int .u8 0)

def cut1 : Cut := {
 args := [.ptr (some (52, 0))], nin := 53,
 lin := [(3, .ro (by8 [0, 1, 56, 2, 57, 49, 28, 3, 61, 58, 42, 50, 38, 29, 17, 4, 62, 47, 59, 36, 45, 43, 51, 22, 53, 39, 33, 30, 24, 18, 12, 5, 63, 55, 48, 27, 60, 41, 37, 16, 46, 35, 44, 21, 52, 32, 23, 11, 54, 26, 40, 15, 34, 20, 31, 10, 25, 14, 19, 9, 13, 8, 7, 6])),
  (16, .cells (nul 16000) 0 .yes),
  (17, .cells [.int .i64 800, .slice (some (16, 0)) 16000 (some 16000), .int .u64 0, .int .u64 0] 0 .yes),
  (28, .cells [.int .i64 0, .int .i64 0, .bool false, .int .i64 0, .int .i64 0, .bool false, .int .i64 0, .int .i64 0, .bool false, .int .i64 0, .int .i64 0, .bool false, .int .i64 0, .int .i64 0, .bool false, .int .i64 0, .int .i64 0, .bool false, .int .i64 0, .int .i64 0, .bool false, .int .i64 0, .int .i64 0, .bool false, .int .i64 8, .int .i64 8, .bool false] 0 .yes),
  (29, .cells [.slice (some (28, 0)) 9 (some 9), .int .i64 0] 0 .yes),
  (30, .cells [.int .u32 0, .slice none 0 (some 0), .bool false, .int .i64 0, .int .u32 0, .slice none 0 (some 0), .bool false, .int .i64 0, .int .u32 0, .slice none 0 (some 0), .bool false, .int .i64 0, .int .u32 0, .slice none 0 (some 0), .bool false, .int .i64 0, .int .u32 0, .slice none 0 (some 0), .bool false, .int .i64 0, .int .u32 0, .slice none 0 (some 0), .bool false, .int .i64 0, .int .u32 0, .slice none 0 (some 0), .bool false, .int .i64 0, .int .u32 0, .slice none 0 (some 0), .bool false, .int .i64 0] 0 .yes),
  (31, .map [] 0),
  (32, .cells [.ptr (some (17, 0)), .slice (some (30, 0)) 8 (some 8), .map (some 31), .slice (some (48, 0)) 8 none, .ptr (some (29, 0))] 0 .yes),
  (48, .cells [.int .i64 0, .int .i64 1, .int .i64 2, .int .i64 3, .int .i64 4, .int .i64 5, .int .i64 6, .int .i64 7] 1 .yes),
  (49, .cells [.int .u64 1] 0 .yes),
  (50, .cells [.int .i64 20, .int .i64 1, .slice (some (49, 0)) 1 (some 1)] 0 .yes),
  (51, .cells [.ptr (some (50, 0))] 0 .yes),
  (52, .cells [.int .i64 20, .int .i64 800, .int .i64 8, .int .i64 8, .int .i64 16, .int .i64 16, .int .i64 26, .int .i64 3, .ptr (some (17, 0)), .ptr (some (32, 0)), .ptr (some (51, 0)), .int .u32 0] 0 .yes)],
 v := .tup [.ptr (some (103, 0)), .int .i64 0], nout := 105, ldel := [],
 lset := [(30, .cells [.int .u32 0, .slice none 0 (some 0), .bool false, .int .i64 0, .int .u32 0, .slice none 0 (some 0), .bool false, .int .i64 0, .int .u32 0, .slice none 0 (some 0), .bool false, .int .i64 0, .int .u32 0, .slice none 0 (some 0), .bool false, .int .i64 0, .int .u32 0, .slice none 0 (some 0), .bool false, .int .i64 0, .int .u32 0, .slice none 0 (some 0), .bool false, .int .i64 0, .int .u32 0, .slice none 0 (some 0), .bool false, .int .i64 0, .int .u32 1, .slice (some (101, 0)) 800 none, .bool true, .int .i64 1] 0 .yes),
  (31, .map [(.int .u32 1, .int .i64 7, 0)] 1),
  (32, .cells [.ptr (some (17, 0)), .slice (some (30, 0)) 8 (some 8), .map (some 31), .slice (some (48, 0)) 7 none, .ptr (some (29, 0))] 0 .yes),
  (49, .cells [.int .u64 3] 0 .yes),
  (50, .cells [.int .i64 20, .int .i64 2, .slice (some (49, 0)) 1 (some 1)] 0 .yes),
  (52, .cells [.int .i64 20, .int .i64 800, .int .i64 8, .int .i64 8, .int .i64 16, .int .i64 16, .int .i64 26, .int .i64 3, .ptr (some (17, 0)), .ptr (some (32, 0)), .ptr (some (51, 0)), .int .u32 1] 0 .yes),
  (101, .cells (by8 [1] ++ (nul 799)) 1 (.of 5)),
  (103, .cells [.ptr (some (52, 0)), .int .u32 1, .int .i64 0, .int .i64 0, .int .i64 0, .int .i64 0] 0 .yes)] }

noncomputable def hk1F (args : List AV) (M : AMem) : Option (AV × AMem) := match hkB 51 with
  | some h => h args M
  | none => acall Tryz.prog hkB 1000 51 args M

noncomputable def hk1 : Hook := fun f => match f with
  | 51 => some (cutAt [cut1] hk1F)
  | _ => hkB f

def cut2 : Cut := {
 args := [.ptr (some (105, 0))], nin := 106,
 lin := [(3, .ro (by8 [0, 1, 56, 2, 57, 49, 28, 3, 61, 58, 42, 50, 38, 29, 17, 4, 62, 47, 59, 36, 45, 43, 51, 22, 53, 39, 33, 30, 24, 18, 12, 5, 63, 55, 48, 27, 60, 41, 37, 16, 46, 35, 44, 21, 52, 32, 23, 11, 54, 26, 40, 15, 34, 20, 31, 10, 25, 14, 19, 9, 13, 8, 7, 6])),
  (16, .cells (nul 16000) 0 .yes),
  (17, .cells [.int .i64 800, .slice (some (16, 0)) 16000 (some 16000), .int .u64 0, .int .u64 0] 0 .yes),
  (28, .cells [.int .i64 0, .int .i64 0, .bool false, .int .i64 0, .int .i64 0, .bool false, .int .i64 0, .int .i64 0, .bool false, .int .i64 0, .int .i64 0, .bool false, .int .i64 0, .int .i64 0, .bool false, .int .i64 0, .int .i64 0, .bool false, .int .i64 0, .int .i64 0, .bool false, .int .i64 0, .int .i64 0, .bool false, .int .i64 8, .int .i64 8, .bool false] 0 .yes),
  (29, .cells [.slice (some (28, 0)) 9 (some 9), .int .i64 0] 0 .yes),
  (30, .cells [.int .u32 0, .slice none 0 (some 0), .bool false, .int .i64 0, .int .u32 0, .slice none 0 (some 0), .bool false, .int .i64 0, .int .u32 0, .slice none 0 (some 0), .bool false, .int .i64 0, .int .u32 0, .slice none 0 (some 0), .bool false, .int .i64 0, .int .u32 0, .slice none 0 (some 0), .bool false, .int .i64 0, .int .u32 0, .slice none 0 (some 0), .bool false, .int .i64 0, .int .u32 0, .slice none 0 (some 0), .bool false, .int .i64 0, .int .u32 1, .slice (some (101, 0)) 800 none, .bool true, .int .i64 1] 0 .yes),
  (31, .map [(.int .u32 1, .int .i64 7, 0)] 1),
  (32, .cells [.ptr (some (17, 0)), .slice (some (30, 0)) 8 (some 8), .map (some 31), .slice (some (48, 0)) 7 none, .ptr (some (29, 0))] 0 .yes),
  (48, .cells [.int .i64 0, .int .i64 1, .int .i64 2, .int .i64 3, .int .i64 4, .int .i64 5, .int .i64 6, .int .i64 7] 1 .yes),
  (49, .cells [.int .u64 3] 0 .yes),
  (50, .cells [.int .i64 20, .int .i64 2, .slice (some (49, 0)) 1 (some 1)] 0 .yes),
  (51, .cells [.ptr (some (50, 0))] 0 .yes),
  (52, .cells [.int .i64 20, .int .i64 800, .int .i64 8, .int .i64 8, .int .i64 16, .int .i64 16, .int .i64 26, .int .i64 3, .ptr (some (17, 0)), .ptr (some (32, 0)), .ptr (some (51, 0)), .int .u32 1] 0 .yes),
  (101, .cells (by8 [1] ++ (nul 799)) 1 (.of 5)),
  (103, .cells [.ptr (some (52, 0)), .int .u32 1, .int .i64 0, .int .i64 0, .int .i64 0, .int .i64 0] 0 .yes),
  (105, .cells [.ptr (some (17, 0)), .ptr (some (103, 0))] 0 .yes)],
 v := .int .i64 0, nout := 239, ldel := [],
 lset := [(16, .cells (by8 [83, 76, 85, 73, 67, 69, 48, 49, 0, 0, 0, 20, 0, 0, 3, 32, 0, 0, 0, 8, 0, 0, 0, 8, 0, 0, 0, 16, 0, 0, 0, 16, 0, 0, 0, 26, 0, 0, 0, 3, 0, 0, 0, 1, 0, 0, 0, 1, 0, 0, 0, 0, 0, 0, 0, 0, 0, 0, 0, 0, 141, 172, 2, 173] ++ (nul 736 ++ (by8 [1] ++ (nul 15199)))) 0 .yes),
  (17, .cells [.int .i64 800, .slice (some (16, 0)) 16000 (some 16000), .int .u64 0, .int .u64 2] 0 .yes),
  (30, .cells [.int .u32 0, .slice none 0 (some 0), .bool false, .int .i64 0, .int .u32 0, .slice none 0 (some 0), .bool false, .int .i64 0, .int .u32 0, .slice none 0 (some 0), .bool false, .int .i64 0, .int .u32 0, .slice none 0 (some 0), .bool false, .int .i64 0, .int .u32 0, .slice none 0 (some 0), .bool false, .int .i64 0, .int .u32 0, .slice none 0 (some 0), .bool false, .int .i64 0, .int .u32 0, .slice none 0 (some 0), .bool false, .int .i64 0, .int .u32 1, .slice (some (101, 0)) 800 none, .bool false, .int .i64 1] 0 .yes)] }

noncomputable def hk2F (args : List AV) (M : AMem) : Option (AV × AMem) := match hk1 29 with
  | some h => h args M
  | none => acall Tryz.prog hk1 1000 29 args M

noncomputable def hk2 : Hook := fun f => match f with
  | 29 => some (cutAt [cut2] hk2F)
  | _ => hk1 f

def cut3 : Cut := {
 args := [.agg [.int .i64 20, .int .i64 800, .int .i64 8, .int .i64 8, .int .i64 16, .int .i64 16, .int .i64 26, .int .i64 3]], nin := 5,
 lin := [(3, .ro (by8 [0, 1, 56, 2, 57, 49, 28, 3, 61, 58, 42, 50, 38, 29, 17, 4, 62, 47, 59, 36, 45, 43, 51, 22, 53, 39, 33, 30, 24, 18, 12, 5, 63, 55, 48, 27, 60, 41, 37, 16, 46, 35, 44, 21, 52, 32, 23, 11, 54, 26, 40, 15, 34, 20, 31, 10, 25, 14, 19, 9, 13, 8, 7, 6]))],
 v := .tup [.ptr (some (241, 0)), .int .i64 0], nout := 242, ldel := [],
 lset := [(16, .cells (by8 [83, 76, 85, 73, 67, 69, 48, 49, 0, 0, 0, 20, 0, 0, 3, 32, 0, 0, 0, 8, 0, 0, 0, 8, 0, 0, 0, 16, 0, 0, 0, 16, 0, 0, 0, 26, 0, 0, 0, 3, 0, 0, 0, 1, 0, 0, 0, 1, 0, 0, 0, 0, 0, 0, 0, 0, 0, 0, 0, 0, 141, 172, 2, 173] ++ (nul 736 ++ (by8 [1] ++ (nul 15199)))) 0 .yes),
  (17, .cells [.int .i64 800, .slice (some (16, 0)) 16000 (some 16000), .int .u64 0, .int .u64 2] 0 .yes),
  (28, .cells [.int .i64 0, .int .i64 0, .bool false, .int .i64 0, .int .i64 0, .bool false, .int .i64 0, .int .i64 0, .bool false, .int .i64 0, .int .i64 0, .bool false, .int .i64 0, .int .i64 0, .bool false, .int .i64 0, .int .i64 0, .bool false, .int .i64 0, .int .i64 0, .bool false, .int .i64 0, .int .i64 0, .bool false, .int .i64 8, .int .i64 8, .bool false] 0 .yes),
  (29, .cells [.slice (some (28, 0)) 9 (some 9), .int .i64 0] 0 .yes),
  (30, .cells [.int .u32 0, .slice none 0 (some 0), .bool false, .int .i64 0, .int .u32 0, .slice none 0 (some 0), .bool false, .int .i64 0, .int .u32 0, .slice none 0 (some 0), .bool false, .int .i64 0, .int .u32 0, .slice none 0 (some 0), .bool false, .int .i64 0, .int .u32 0, .slice none 0 (some 0), .bool false, .int .i64 0, .int .u32 0, .slice none 0 (some 0), .bool false, .int .i64 0, .int .u32 0, .slice none 0 (some 0), .bool false, .int .i64 0, .int .u32 1, .slice (some (101, 0)) 800 none, .bool false, .int .i64 1] 0 .yes),
  (31, .map [(.int .u32 1, .int .i64 7, 0)] 1),
  (32, .cells [.ptr (some (17, 0)), .slice (some (30, 0)) 8 (some 8), .map (some 31), .slice (some (48, 0)) 7 none, .ptr (some (29, 0))] 0 .yes),
  (48, .cells [.int .i64 0, .int .i64 1, .int .i64 2, .int .i64 3, .int .i64 4, .int .i64 5, .int .i64 6, .int .i64 7] 1 .yes),
  (49, .cells [.int .u64 3] 0 .yes),
  (50, .cells [.int .i64 20, .int .i64 2, .slice (some (49, 0)) 1 (some 1)] 0 .yes),
  (51, .cells [.ptr (some (50, 0))] 0 .yes),
  (52, .cells [.int .i64 20, .int .i64 800, .int .i64 8, .int .i64 8, .int .i64 16, .int .i64 16, .int .i64 26, .int .i64 3, .ptr (some (17, 0)), .ptr (some (32, 0)), .ptr (some (51, 0)), .int .u32 1] 0 .yes),
  (101, .cells (by8 [1] ++ (nul 799)) 1 (.of 5)),
  (103, .cells [.ptr (some (52, 0)), .int .u32 1, .int .i64 0, .int .i64 0, .int .i64 0, .int .i64 0] 0 .yes),
  (105, .cells [.ptr (some (17, 0)), .ptr (some (103, 0))] 0 .yes),
  (241, .cells [.int .i64 20, .int .i64 800, .int .i64 8, .int .i64 8, .int .i64 16, .int .i64 16, .int .i64 26, .int .i64 3, .ptr (some (105, 0)), .bool true, .int .u64 0, .int .u64 0, .int .u64 0, .int .u64 0] 0 .yes)] }

noncomputable def hk3F (args : List AV) (M : AMem) : Option (AV × AMem) := match hk2 10 with
  | some h => h args M
  | none => acall Tryz.prog hk2 1000 10 args M

noncomputable def hk3 : Hook := fun f => match f with
  | 10 => some (cutAt [cut3] hk3F)
  | _ => hk2 f

def cut4 : Cut := {
 args := [.agg [.int .i64 20, .int .i64 800, .int .i64 8, .int .i64 8, .int .i64 16, .int .i64 16, .int .i64 26, .int .i64 3], .slice (some (318, 0)) 800 none], nin := 319,
 lin := [(3, .ro (by8 [0, 1, 56, 2, 57, 49, 28, 3, 61, 58, 42, 50, 38, 29, 17, 4, 62, 47, 59, 36, 45, 43, 51, 22, 53, 39, 33, 30, 24, 18, 12, 5, 63, 55, 48, 27, 60, 41, 37, 16, 46, 35, 44, 21, 52, 32, 23, 11, 54, 26, 40, 15, 34, 20, 31, 10, 25, 14, 19, 9, 13, 8, 7, 6])),
  (318, .cells (by8 [1] ++ (nul 799)) 1 (.of 5))],
 v := .tup [.agg [.int .i64 0, .slice none 0 (some 0), .slice none 0 (some 0), .slice none 0 (some 0), .slice none 0 (some 0)], .int .i64 0], nout := 384, ldel := [],
 lset := [] }

noncomputable def hk4F (args : List AV) (M : AMem) : Option (AV × AMem) := match hk3 129 with
  | some h => h args M
  | none => acall Tryz.prog hk3 1000 129 args M

noncomputable def hk4 : Hook := fun f => match f with
  | 129 => some (cutAt [cut4] hk4F)
  | _ => hk3 f

def cut5 : Cut := {
 args := [.ptr (some (52, 0)), .int .u32 1, .agg [.str [1, 0, 0, 0, 0, 0, 0, 0, 3, 2, 113, 0, 1], .str [1, 0, 0, 0, 0, 0, 0, 0, 3, 2, 113, 0, 1, 3], .bool false], .int .i64 1073741824], nin := 312,
 lin := [(3, .ro (by8 [0, 1, 56, 2, 57, 49, 28, 3, 61, 58, 42, 50, 38, 29, 17, 4, 62, 47, 59, 36, 45, 43, 51, 22, 53, 39, 33, 30, 24, 18, 12, 5, 63, 55, 48, 27, 60, 41, 37, 16, 46, 35, 44, 21, 52, 32, 23, 11, 54, 26, 40, 15, 34, 20, 31, 10, 25, 14, 19, 9, 13, 8, 7, 6])),
  (16, .cells (by8 [83, 76, 85, 73, 67, 69, 48, 49, 0, 0, 0, 20, 0, 0, 3, 32, 0, 0, 0, 8, 0, 0, 0, 8, 0, 0, 0, 16, 0, 0, 0, 16, 0, 0, 0, 26, 0, 0, 0, 3, 0, 0, 0, 1, 0, 0, 0, 1, 0, 0, 0, 0, 0, 0, 0, 0, 0, 0, 0, 0, 141, 172, 2, 173] ++ (nul 736 ++ (by8 [1] ++ (nul 15199)))) 0 .yes),
  (17, .cells [.int .i64 800, .slice (some (16, 0)) 16000 (some 16000), .int .u64 0, .int .u64 2] 0 .yes),
  (28, .cells [.int .i64 0, .int .i64 0, .bool false, .int .i64 0, .int .i64 0, .bool false, .int .i64 0, .int .i64 0, .bool false, .int .i64 0, .int .i64 0, .bool false, .int .i64 0, .int .i64 0, .bool false, .int .i64 0, .int .i64 0, .bool false, .int .i64 0, .int .i64 0, .bool false, .int .i64 0, .int .i64 0, .bool false, .int .i64 8, .int .i64 8, .bool false] 0 .yes),
  (29, .cells [.slice (some (28, 0)) 9 (some 9), .int .i64 0] 0 .yes),
  (30, .cells [.int .u32 0, .slice none 0 (some 0), .bool false, .int .i64 0, .int .u32 0, .slice none 0 (some 0), .bool false, .int .i64 0, .int .u32 0, .slice none 0 (some 0), .bool false, .int .i64 0, .int .u32 0, .slice none 0 (some 0), .bool false, .int .i64 0, .int .u32 0, .slice none 0 (some 0), .bool false, .int .i64 0, .int .u32 0, .slice none 0 (some 0), .bool false, .int .i64 0, .int .u32 0, .slice none 0 (some 0), .bool false, .int .i64 0, .int .u32 1, .slice (some (101, 0)) 800 none, .bool false, .int .i64 1] 0 .yes),
  (31, .map [(.int .u32 1, .int .i64 7, 0)] 1),
  (32, .cells [.ptr (some (17, 0)), .slice (some (30, 0)) 8 (some 8), .map (some 31), .slice (some (48, 0)) 7 none, .ptr (some (29, 0))] 0 .yes),
  (48, .cells [.int .i64 0, .int .i64 1, .int .i64 2, .int .i64 3, .int .i64 4, .int .i64 5, .int .i64 6, .int .i64 7] 1 .yes),
  (49, .cells [.int .u64 3] 0 .yes),
  (50, .cells [.int .i64 20, .int .i64 2, .slice (some (49, 0)) 1 (some 1)] 0 .yes),
  (51, .cells [.ptr (some (50, 0))] 0 .yes),
  (52, .cells [.int .i64 20, .int .i64 800, .int .i64 8, .int .i64 8, .int .i64 16, .int .i64 16, .int .i64 26, .int .i64 3, .ptr (some (17, 0)), .ptr (some (32, 0)), .ptr (some (51, 0)), .int .u32 1] 0 .yes),
  (101, .cells (by8 [1] ++ (nul 799)) 1 (.of 5))],
 v := .tup [.slice none 0 (some 0), .int .i64 0], nout := 387, ldel := [],
 lset := [] }

noncomputable def hk5F (args : List AV) (M : AMem) : Option (AV × AMem) := match hk4 41 with
  | some h => h args M
  | none => acall Tryz.prog hk4 1000 41 args M

noncomputable def hk5 : Hook := fun f => match f with
  | 41 => some (cutAt [cut5] hk5F)
  | _ => hk4 f

def cut6 : Cut := {
 args := [.ptr (some (241, 0)), .str [113]], nin := 242,
 lin := [(3, .ro (by8 [0, 1, 56, 2, 57, 49, 28, 3, 61, 58, 42, 50, 38, 29, 17, 4, 62, 47, 59, 36, 45, 43, 51, 22, 53, 39, 33, 30, 24, 18, 12, 5, 63, 55, 48, 27, 60, 41, 37, 16, 46, 35, 44, 21, 52, 32, 23, 11, 54, 26, 40, 15, 34, 20, 31, 10, 25, 14, 19, 9, 13, 8, 7, 6])),
  (16, .cells (by8 [83, 76, 85, 73, 67, 69, 48, 49, 0, 0, 0, 20, 0, 0, 3, 32, 0, 0, 0, 8, 0, 0, 0, 8, 0, 0, 0, 16, 0, 0, 0, 16, 0, 0, 0, 26, 0, 0, 0, 3, 0, 0, 0, 1, 0, 0, 0, 1, 0, 0, 0, 0, 0, 0, 0, 0, 0, 0, 0, 0, 141, 172, 2, 173] ++ (nul 736 ++ (by8 [1] ++ (nul 15199)))) 0 .yes),
  (17, .cells [.int .i64 800, .slice (some (16, 0)) 16000 (some 16000), .int .u64 0, .int .u64 2] 0 .yes),
  (28, .cells [.int .i64 0, .int .i64 0, .bool false, .int .i64 0, .int .i64 0, .bool false, .int .i64 0, .int .i64 0, .bool false, .int .i64 0, .int .i64 0, .bool false, .int .i64 0, .int .i64 0, .bool false, .int .i64 0, .int .i64 0, .bool false, .int .i64 0, .int .i64 0, .bool false, .int .i64 0, .int .i64 0, .bool false, .int .i64 8, .int .i64 8, .bool false] 0 .yes),
  (29, .cells [.slice (some (28, 0)) 9 (some 9), .int .i64 0] 0 .yes),
  (30, .cells [.int .u32 0, .slice none 0 (some 0), .bool false, .int .i64 0, .int .u32 0, .slice none 0 (some 0), .bool false, .int .i64 0, .int .u32 0, .slice none 0 (some 0), .bool false, .int .i64 0, .int .u32 0, .slice none 0 (some 0), .bool false, .int .i64 0, .int .u32 0, .slice none 0 (some 0), .bool false, .int .i64 0, .int .u32 0, .slice none 0 (some 0), .bool false, .int .i64 0, .int .u32 0, .slice none 0 (some 0), .bool false, .int .i64 0, .int .u32 1, .slice (some (101, 0)) 800 none, .bool false, .int .i64 1] 0 .yes),
  (31, .map [(.int .u32 1, .int .i64 7, 0)] 1),
  (32, .cells [.ptr (some (17, 0)), .slice (some (30, 0)) 8 (some 8), .map (some 31), .slice (some (48, 0)) 7 none, .ptr (some (29, 0))] 0 .yes),
  (48, .cells [.int .i64 0, .int .i64 1, .int .i64 2, .int .i64 3, .int .i64 4, .int .i64 5, .int .i64 6, .int .i64 7] 1 .yes),
  (49, .cells [.int .u64 3] 0 .yes),
  (50, .cells [.int .i64 20, .int .i64 2, .slice (some (49, 0)) 1 (some 1)] 0 .yes),
  (51, .cells [.ptr (some (50, 0))] 0 .yes),
  (52, .cells [.int .i64 20, .int .i64 800, .int .i64 8, .int .i64 8, .int .i64 16, .int .i64 16, .int .i64 26, .int .i64 3, .ptr (some (17, 0)), .ptr (some (32, 0)), .ptr (some (51, 0)), .int .u32 1] 0 .yes),
  (101, .cells (by8 [1] ++ (nul 799)) 1 (.of 5)),
  (103, .cells [.ptr (some (52, 0)), .int .u32 1, .int .i64 0, .int .i64 0, .int .i64 0, .int .i64 0] 0 .yes),
  (105, .cells [.ptr (some (17, 0)), .ptr (some (103, 0))] 0 .yes),
  (241, .cells [.int .i64 20, .int .i64 800, .int .i64 8, .int .i64 8, .int .i64 16, .int .i64 16, .int .i64 26, .int .i64 3, .ptr (some (105, 0)), .bool true, .int .u64 0, .int .u64 0, .int .u64 0, .int .u64 0] 0 .yes)],
 v := .tup [.ptr (some (242, 0)), .int .i64 0], nout := 445, ldel := [],
 lset := [(242, .cells [.ptr (some (241, 0)), .str [113], .slice none 0 (some 0), .int .u64 0, .bool false] 0 .yes)] }

noncomputable def hk6F (args : List AV) (M : AMem) : Option (AV × AMem) := match hk5 9 with
  | some h => h args M
  | none => acall Tryz.prog hk5 1000 9 args M

noncomputable def hk6 : Hook := fun f => match f with
  | 9 => some (cutAt [cut6] hk6F)
  | _ => hk5 f

def cut7 : Cut := {
 args := [.agg [.int .i64 20, .int .i64 800, .int .i64 8, .int .i64 8, .int .i64 16, .int .i64 16, .int .i64 26, .int .i64 3], .slice (some (507, 0)) 800 none], nin := 508,
 lin := [(3, .ro (by8 [0, 1, 56, 2, 57, 49, 28, 3, 61, 58, 42, 50, 38, 29, 17, 4, 62, 47, 59, 36, 45, 43, 51, 22, 53, 39, 33, 30, 24, 18, 12, 5, 63, 55, 48, 27, 60, 41, 37, 16, 46, 35, 44, 21, 52, 32, 23, 11, 54, 26, 40, 15, 34, 20, 31, 10, 25, 14, 19, 9, 13, 8, 7, 6])),
  (507, .cells (by8 [1] ++ (nul 799)) 1 (.of 5))],
 v := .tup [.agg [.int .i64 0, .slice none 0 (some 0), .slice none 0 (some 0), .slice none 0 (some 0), .slice none 0 (some 0)], .int .i64 0], nout := 573, ldel := [],
 lset := [] }

noncomputable def hk7F (args : List AV) (M : AMem) : Option (AV × AMem) := match hk6 129 with
  | some h => h args M
  | none => acall Tryz.prog hk6 1000 129 args M

noncomputable def hk7 : Hook := fun f => match f with
  | 129 => some (cutAt [cut7] hk7F)
  | _ => hk6 f

def cut8 : Cut := {
 args := [.ptr (some (52, 0)), .int .u32 1, .agg [.int .i64 0, .slice none 0 (some 0), .slice none 0 (some 0), .slice none 0 (some 0), .slice (some (581, 0)) 1 none]], nin := 582,
 lin := [(3, .ro (by8 [0, 1, 56, 2, 57, 49, 28, 3, 61, 58, 42, 50, 38, 29, 17, 4, 62, 47, 59, 36, 45, 43, 51, 22, 53, 39, 33, 30, 24, 18, 12, 5, 63, 55, 48, 27, 60, 41, 37, 16, 46, 35, 44, 21, 52, 32, 23, 11, 54, 26, 40, 15, 34, 20, 31, 10, 25, 14, 19, 9, 13, 8, 7, 6])),
  (16, .cells (by8 [83, 76, 85, 73, 67, 69, 48, 49, 0, 0, 0, 20, 0, 0, 3, 32, 0, 0, 0, 8, 0, 0, 0, 8, 0, 0, 0, 16, 0, 0, 0, 16, 0, 0, 0, 26, 0, 0, 0, 3, 0, 0, 0, 1, 0, 0, 0, 1, 0, 0, 0, 0, 0, 0, 0, 0, 0, 0, 0, 0, 141, 172, 2, 173] ++ (nul 736 ++ (by8 [1] ++ (nul 15199)))) 0 .yes),
  (17, .cells [.int .i64 800, .slice (some (16, 0)) 16000 (some 16000), .int .u64 0, .int .u64 2] 0 .yes),
  (28, .cells [.int .i64 0, .int .i64 0, .bool false, .int .i64 0, .int .i64 0, .bool false, .int .i64 0, .int .i64 0, .bool false, .int .i64 0, .int .i64 0, .bool false, .int .i64 0, .int .i64 0, .bool false, .int .i64 0, .int .i64 0, .bool false, .int .i64 0, .int .i64 0, .bool false, .int .i64 0, .int .i64 0, .bool false, .int .i64 8, .int .i64 8, .bool false] 0 .yes),
  (29, .cells [.slice (some (28, 0)) 9 (some 9), .int .i64 0] 0 .yes),
  (30, .cells [.int .u32 0, .slice none 0 (some 0), .bool false, .int .i64 0, .int .u32 0, .slice none 0 (some 0), .bool false, .int .i64 0, .int .u32 0, .slice none 0 (some 0), .bool false, .int .i64 0, .int .u32 0, .slice none 0 (some 0), .bool false, .int .i64 0, .int .u32 0, .slice none 0 (some 0), .bool false, .int .i64 0, .int .u32 0, .slice none 0 (some 0), .bool false, .int .i64 0, .int .u32 0, .slice none 0 (some 0), .bool false, .int .i64 0, .int .u32 1, .slice (some (101, 0)) 800 none, .bool false, .int .i64 1] 0 .yes),
  (31, .map [(.int .u32 1, .int .i64 7, 0)] 1),
  (32, .cells [.ptr (some (17, 0)), .slice (some (30, 0)) 8 (some 8), .map (some 31), .slice (some (48, 0)) 7 none, .ptr (some (29, 0))] 0 .yes),
  (48, .cells [.int .i64 0, .int .i64 1, .int .i64 2, .int .i64 3, .int .i64 4, .int .i64 5, .int .i64 6, .int .i64 7] 1 .yes),
  (49, .cells [.int .u64 3] 0 .yes),
  (50, .cells [.int .i64 20, .int .i64 2, .slice (some (49, 0)) 1 (some 1)] 0 .yes),
  (51, .cells [.ptr (some (50, 0))] 0 .yes),
  (52, .cells [.int .i64 20, .int .i64 800, .int .i64 8, .int .i64 8, .int .i64 16, .int .i64 16, .int .i64 26, .int .i64 3, .ptr (some (17, 0)), .ptr (some (32, 0)), .ptr (some (51, 0)), .int .u32 1] 0 .yes),
  (101, .cells (by8 [1] ++ (nul 799)) 1 (.of 5)),
  (581, .cells [.str [1, 0, 0, 0, 0, 0, 0, 0, 3, 2, 113, 0, 1, 1, 0, 0, 0, 0, 0, 0, 0, 0], .str [120]] 2 .yes)],
 v := .int .i64 0, nout := 644, ldel := [],
 lset := [(30, .cells [.int .u32 0, .slice none 0 (some 0), .bool false, .int .i64 0, .int .u32 0, .slice none 0 (some 0), .bool false, .int .i64 0, .int .u32 0, .slice none 0 (some 0), .bool false, .int .i64 0, .int .u32 0, .slice none 0 (some 0), .bool false, .int .i64 0, .int .u32 0, .slice none 0 (some 0), .bool false, .int .i64 0, .int .u32 0, .slice none 0 (some 0), .bool false, .int .i64 0, .int .u32 0, .slice none 0 (some 0), .bool false, .int .i64 0, .int .u32 1, .slice (some (643, 0)) 800 none, .bool true, .int .i64 1] 0 .yes),
  (643, .cells (by8 [1, 0, 0, 1, 0, 0, 0, 0, 22, 0, 1, 1, 0, 0, 0, 0, 0, 0, 0, 3, 2, 113, 0, 1, 1, 0, 0, 0, 0, 0, 0, 0, 0, 0, 0, 0, 0, 120] ++ (nul 762)) 1 (.of 5))] }

noncomputable def hk8F (args : List AV) (M : AMem) : Option (AV × AMem) := match hk7 131 with
  | some h => h args M
  | none => acall Tryz.prog hk7 1000 131 args M

noncomputable def hk8 : Hook := fun f => match f with
  | 131 => some (cutAt [cut8] hk8F)
  | _ => hk7 f

def cut9 : Cut := {
 args := [.ptr (some (242, 0)), .str [120]], nin := 445,
 lin := [(3, .ro (by8 [0, 1, 56, 2, 57, 49, 28, 3, 61, 58, 42, 50, 38, 29, 17, 4, 62, 47, 59, 36, 45, 43, 51, 22, 53, 39, 33, 30, 24, 18, 12, 5, 63, 55, 48, 27, 60, 41, 37, 16, 46, 35, 44, 21, 52, 32, 23, 11, 54, 26, 40, 15, 34, 20, 31, 10, 25, 14, 19, 9, 13, 8, 7, 6])),
  (16, .cells (by8 [83, 76, 85, 73, 67, 69, 48, 49, 0, 0, 0, 20, 0, 0, 3, 32, 0, 0, 0, 8, 0, 0, 0, 8, 0, 0, 0, 16, 0, 0, 0, 16, 0, 0, 0, 26, 0, 0, 0, 3, 0, 0, 0, 1, 0, 0, 0, 1, 0, 0, 0, 0, 0, 0, 0, 0, 0, 0, 0, 0, 141, 172, 2, 173] ++ (nul 736 ++ (by8 [1] ++ (nul 15199)))) 0 .yes),
  (17, .cells [.int .i64 800, .slice (some (16, 0)) 16000 (some 16000), .int .u64 0, .int .u64 2] 0 .yes),
  (28, .cells [.int .i64 0, .int .i64 0, .bool false, .int .i64 0, .int .i64 0, .bool false, .int .i64 0, .int .i64 0, .bool false, .int .i64 0, .int .i64 0, .bool false, .int .i64 0, .int .i64 0, .bool false, .int .i64 0, .int .i64 0, .bool false, .int .i64 0, .int .i64 0, .bool false, .int .i64 0, .int .i64 0, .bool false, .int .i64 8, .int .i64 8, .bool false] 0 .yes),
  (29, .cells [.slice (some (28, 0)) 9 (some 9), .int .i64 0] 0 .yes),
  (30, .cells [.int .u32 0, .slice none 0 (some 0), .bool false, .int .i64 0, .int .u32 0, .slice none 0 (some 0), .bool false, .int .i64 0, .int .u32 0, .slice none 0 (some 0), .bool false, .int .i64 0, .int .u32 0, .slice none 0 (some 0), .bool false, .int .i64 0, .int .u32 0, .slice none 0 (some 0), .bool false, .int .i64 0, .int .u32 0, .slice none 0 (some 0), .bool false, .int .i64 0, .int .u32 0, .slice none 0 (some 0), .bool false, .int .i64 0, .int .u32 1, .slice (some (101, 0)) 800 none, .bool false, .int .i64 1] 0 .yes),
  (31, .map [(.int .u32 1, .int .i64 7, 0)] 1),
  (32, .cells [.ptr (some (17, 0)), .slice (some (30, 0)) 8 (some 8), .map (some 31), .slice (some (48, 0)) 7 none, .ptr (some (29, 0))] 0 .yes),
  (48, .cells [.int .i64 0, .int .i64 1, .int .i64 2, .int .i64 3, .int .i64 4, .int .i64 5, .int .i64 6, .int .i64 7] 1 .yes),
  (49, .cells [.int .u64 3] 0 .yes),
  (50, .cells [.int .i64 20, .int .i64 2, .slice (some (49, 0)) 1 (some 1)] 0 .yes),
  (51, .cells [.ptr (some (50, 0))] 0 .yes),
  (52, .cells [.int .i64 20, .int .i64 800, .int .i64 8, .int .i64 8, .int .i64 16, .int .i64 16, .int .i64 26, .int .i64 3, .ptr (some (17, 0)), .ptr (some (32, 0)), .ptr (some (51, 0)), .int .u32 1] 0 .yes),
  (101, .cells (by8 [1] ++ (nul 799)) 1 (.of 5)),
  (103, .cells [.ptr (some (52, 0)), .int .u32 1, .int .i64 0, .int .i64 0, .int .i64 0, .int .i64 0] 0 .yes),
  (105, .cells [.ptr (some (17, 0)), .ptr (some (103, 0))] 0 .yes),
  (241, .cells [.int .i64 20, .int .i64 800, .int .i64 8, .int .i64 8, .int .i64 16, .int .i64 16, .int .i64 26, .int .i64 3, .ptr (some (105, 0)), .bool true, .int .u64 0, .int .u64 0, .int .u64 0, .int .u64 0] 0 .yes),
  (242, .cells [.ptr (some (241, 0)), .str [113], .slice none 0 (some 0), .int .u64 0, .bool false] 0 .yes)],
 v := .tup [.int .u64 0, .int .i64 0], nout := 654, ldel := [],
 lset := [(30, .cells [.int .u32 0, .slice none 0 (some 0), .bool false, .int .i64 0, .int .u32 0, .slice none 0 (some 0), .bool false, .int .i64 0, .int .u32 0, .slice none 0 (some 0), .bool false, .int .i64 0, .int .u32 0, .slice none 0 (some 0), .bool false, .int .i64 0, .int .u32 0, .slice none 0 (some 0), .bool false, .int .i64 0, .int .u32 0, .slice none 0 (some 0), .bool false, .int .i64 0, .int .u32 0, .slice none 0 (some 0), .bool false, .int .i64 0, .int .u32 1, .slice (some (643, 0)) 800 none, .bool true, .int .i64 1] 0 .yes),
  (103, .cells [.ptr (some (52, 0)), .int .u32 1, .int .i64 0, .int .i64 1, .int .i64 0, .int .i64 0] 0 .yes),
  (242, .cells [.ptr (some (241, 0)), .str [113], .slice (some (653, 0)) 1 none, .int .u64 1, .bool false] 0 .yes),
  (643, .cells (by8 [1, 0, 0, 1, 0, 0, 0, 0, 22, 0, 1, 1, 0, 0, 0, 0, 0, 0, 0, 3, 2, 113, 0, 1, 1, 0, 0, 0, 0, 0, 0, 0, 0, 0, 0, 0, 0, 120] ++ (nul 762)) 1 (.of 5)),
  (653, .cells [.int .u64 0] 1 .yes)] }

noncomputable def hk9F (args : List AV) (M : AMem) : Option (AV × AMem) := match hk8 4 with
  | some h => h args M
  | none => acall Tryz.prog hk8 1000 4 args M

noncomputable def hk9 : Hook := fun f => match f with
  | 4 => some (cutAt [cut9] hk9F)
  | _ => hk8 f

def cut10 : Cut := {
 args := [.agg [.int .i64 20, .int .i64 800, .int .i64 8, .int .i64 8, .int .i64 16, .int .i64 16, .int .i64 26, .int .i64 3], .slice (some (716, 0)) 800 none], nin := 717,
 lin := [(3, .ro (by8 [0, 1, 56, 2, 57, 49, 28, 3, 61, 58, 42, 50, 38, 29, 17, 4, 62, 47, 59, 36, 45, 43, 51, 22, 53, 39, 33, 30, 24, 18, 12, 5, 63, 55, 48, 27, 60, 41, 37, 16, 46, 35, 44, 21, 52, 32, 23, 11, 54, 26, 40, 15, 34, 20, 31, 10, 25, 14, 19, 9, 13, 8, 7, 6])),
  (716, .cells (by8 [1, 0, 0, 1, 0, 0, 0, 0, 22, 0, 1, 1, 0, 0, 0, 0, 0, 0, 0, 3, 2, 113, 0, 1, 1, 0, 0, 0, 0, 0, 0, 0, 0, 0, 0, 0, 0, 120] ++ (nul 762)) 1 (.of 5))],
 v := .tup [.agg [.int .i64 0, .slice none 0 (some 0), .slice none 0 (some 0), .slice none 0 (some 0), .slice (some (746, 0)) 1 none], .int .i64 0], nout := 806, ldel := [],
 lset := [(746, .cells [.str [1, 0, 0, 0, 0, 0, 0, 0, 3, 2, 113, 0, 1, 1, 0, 0, 0, 0, 0, 0, 0, 0], .str [120]] 2 .yes)] }

noncomputable def hk10F (args : List AV) (M : AMem) : Option (AV × AMem) := match hk9 129 with
  | some h => h args M
  | none => acall Tryz.prog hk9 1000 129 args M

noncomputable def hk10 : Hook := fun f => match f with
  | 129 => some (cutAt [cut10] hk10F)
  | _ => hk9 f

def cut11 : Cut := {
 args := [.ptr (some (52, 0)), .int .u32 1, .agg [.int .i64 0, .slice none 0 (some 0), .slice none 0 (some 0), .slice none 0 (some 0), .slice (some (817, 0)) 2 none]], nin := 818,
 lin := [(3, .ro (by8 [0, 1, 56, 2, 57, 49, 28, 3, 61, 58, 42, 50, 38, 29, 17, 4, 62, 47, 59, 36, 45, 43, 51, 22, 53, 39, 33, 30, 24, 18, 12, 5, 63, 55, 48, 27, 60, 41, 37, 16, 46, 35, 44, 21, 52, 32, 23, 11, 54, 26, 40, 15, 34, 20, 31, 10, 25, 14, 19, 9, 13, 8, 7, 6])),
  (16, .cells (by8 [83, 76, 85, 73, 67, 69, 48, 49, 0, 0, 0, 20, 0, 0, 3, 32, 0, 0, 0, 8, 0, 0, 0, 8, 0, 0, 0, 16, 0, 0, 0, 16, 0, 0, 0, 26, 0, 0, 0, 3, 0, 0, 0, 1, 0, 0, 0, 1, 0, 0, 0, 0, 0, 0, 0, 0, 0, 0, 0, 0, 141, 172, 2, 173] ++ (nul 736 ++ (by8 [1] ++ (nul 15199)))) 0 .yes),
  (17, .cells [.int .i64 800, .slice (some (16, 0)) 16000 (some 16000), .int .u64 0, .int .u64 2] 0 .yes),
  (28, .cells [.int .i64 0, .int .i64 0, .bool false, .int .i64 0, .int .i64 0, .bool false, .int .i64 0, .int .i64 0, .bool false, .int .i64 0, .int .i64 0, .bool false, .int .i64 0, .int .i64 0, .bool false, .int .i64 0, .int .i64 0, .bool false, .int .i64 0, .int .i64 0, .bool false, .int .i64 0, .int .i64 0, .bool false, .int .i64 8, .int .i64 8, .bool false] 0 .yes),
  (29, .cells [.slice (some (28, 0)) 9 (some 9), .int .i64 0] 0 .yes),
  (30, .cells [.int .u32 0, .slice none 0 (some 0), .bool false, .int .i64 0, .int .u32 0, .slice none 0 (some 0), .bool false, .int .i64 0, .int .u32 0, .slice none 0 (some 0), .bool false, .int .i64 0, .int .u32 0, .slice none 0 (some 0), .bool false, .int .i64 0, .int .u32 0, .slice none 0 (some 0), .bool false, .int .i64 0, .int .u32 0, .slice none 0 (some 0), .bool false, .int .i64 0, .int .u32 0, .slice none 0 (some 0), .bool false, .int .i64 0, .int .u32 1, .slice (some (643, 0)) 800 none, .bool true, .int .i64 1] 0 .yes),
  (31, .map [(.int .u32 1, .int .i64 7, 0)] 1),
  (32, .cells [.ptr (some (17, 0)), .slice (some (30, 0)) 8 (some 8), .map (some 31), .slice (some (48, 0)) 7 none, .ptr (some (29, 0))] 0 .yes),
  (48, .cells [.int .i64 0, .int .i64 1, .int .i64 2, .int .i64 3, .int .i64 4, .int .i64 5, .int .i64 6, .int .i64 7] 1 .yes),
  (49, .cells [.int .u64 3] 0 .yes),
  (50, .cells [.int .i64 20, .int .i64 2, .slice (some (49, 0)) 1 (some 1)] 0 .yes),
  (51, .cells [.ptr (some (50, 0))] 0 .yes),
  (52, .cells [.int .i64 20, .int .i64 800, .int .i64 8, .int .i64 8, .int .i64 16, .int .i64 16, .int .i64 26, .int .i64 3, .ptr (some (17, 0)), .ptr (some (32, 0)), .ptr (some (51, 0)), .int .u32 1] 0 .yes),
  (643, .cells (by8 [1, 0, 0, 1, 0, 0, 0, 0, 22, 0, 1, 1, 0, 0, 0, 0, 0, 0, 0, 3, 2, 113, 0, 1, 1, 0, 0, 0, 0, 0, 0, 0, 0, 0, 0, 0, 0, 120] ++ (nul 762)) 1 (.of 5)),
  (817, .cells [.str [1, 0, 0, 0, 0, 0, 0, 0, 3, 2, 113, 0, 1, 1, 0, 0, 0, 0, 0, 0, 0, 0], .str [120], .str [1, 0, 0, 0, 0, 0, 0, 0, 3, 2, 113, 0, 1, 1, 0, 0, 0, 0, 0, 0, 0, 1], .str [121]] 2 .yes)],
 v := .int .i64 0, nout := 897, ldel := [],
 lset := [(30, .cells [.int .u32 0, .slice none 0 (some 0), .bool false, .int .i64 0, .int .u32 0, .slice none 0 (some 0), .bool false, .int .i64 0, .int .u32 0, .slice none 0 (some 0), .bool false, .int .i64 0, .int .u32 0, .slice none 0 (some 0), .bool false, .int .i64 0, .int .u32 0, .slice none 0 (some 0), .bool false, .int .i64 0, .int .u32 0, .slice none 0 (some 0), .bool false, .int .i64 0, .int .u32 0, .slice none 0 (some 0), .bool false, .int .i64 0, .int .u32 1, .slice (some (896, 0)) 800 none, .bool true, .int .i64 1] 0 .yes),
  (896, .cells (by8 [1, 0, 0, 2, 0, 0, 0, 0, 22, 0, 1, 1, 0, 0, 0, 0, 0, 0, 0, 3, 2, 113, 0, 1, 1, 0, 0, 0, 0, 0, 0, 0, 0, 0, 0, 0, 0, 120, 0, 0, 22, 0, 1, 1, 0, 0, 0, 0, 0, 0, 0, 3, 2, 113, 0, 1, 1, 0, 0, 0, 0, 0, 0, 0, 1, 0, 0, 0, 0, 121] ++ (nul 730)) 1 (.of 5))] }

noncomputable def hk11F (args : List AV) (M : AMem) : Option (AV × AMem) := match hk10 131 with
  | some h => h args M
  | none => acall Tryz.prog hk10 1000 131 args M

noncomputable def hk11 : Hook := fun f => match f with
  | 131 => some (cutAt [cut11] hk11F)
  | _ => hk10 f

def cut12 : Cut := {
 args := [.ptr (some (242, 0)), .str [121]], nin := 654,
 lin := [(3, .ro (by8 [0, 1, 56, 2, 57, 49, 28, 3, 61, 58, 42, 50, 38, 29, 17, 4, 62, 47, 59, 36, 45, 43, 51, 22, 53, 39, 33, 30, 24, 18, 12, 5, 63, 55, 48, 27, 60, 41, 37, 16, 46, 35, 44, 21, 52, 32, 23, 11, 54, 26, 40, 15, 34, 20, 31, 10, 25, 14, 19, 9, 13, 8, 7, 6])),
  (16, .cells (by8 [83, 76, 85, 73, 67, 69, 48, 49, 0, 0, 0, 20, 0, 0, 3, 32, 0, 0, 0, 8, 0, 0, 0, 8, 0, 0, 0, 16, 0, 0, 0, 16, 0, 0, 0, 26, 0, 0, 0, 3, 0, 0, 0, 1, 0, 0, 0, 1, 0, 0, 0, 0, 0, 0, 0, 0, 0, 0, 0, 0, 141, 172, 2, 173] ++ (nul 736 ++ (by8 [1] ++ (nul 15199)))) 0 .yes),
  (17, .cells [.int .i64 800, .slice (some (16, 0)) 16000 (some 16000), .int .u64 0, .int .u64 2] 0 .yes),
  (28, .cells [.int .i64 0, .int .i64 0, .bool false, .int .i64 0, .int .i64 0, .bool false, .int .i64 0, .int .i64 0, .bool false, .int .i64 0, .int .i64 0, .bool false, .int .i64 0, .int .i64 0, .bool false, .int .i64 0, .int .i64 0, .bool false, .int .i64 0, .int .i64 0, .bool false, .int .i64 0, .int .i64 0, .bool false, .int .i64 8, .int .i64 8, .bool false] 0 .yes),
  (29, .cells [.slice (some (28, 0)) 9 (some 9), .int .i64 0] 0 .yes),
  (30, .cells [.int .u32 0, .slice none 0 (some 0), .bool false, .int .i64 0, .int .u32 0, .slice none 0 (some 0), .bool false, .int .i64 0, .int .u32 0, .slice none 0 (some 0), .bool false, .int .i64 0, .int .u32 0, .slice none 0 (some 0), .bool false, .int .i64 0, .int .u32 0, .slice none 0 (some 0), .bool false, .int .i64 0, .int .u32 0, .slice none 0 (some 0), .bool false, .int .i64 0, .int .u32 0, .slice none 0 (some 0), .bool false, .int .i64 0, .int .u32 1, .slice (some (643, 0)) 800 none, .bool true, .int .i64 1] 0 .yes),
  (31, .map [(.int .u32 1, .int .i64 7, 0)] 1),
  (32, .cells [.ptr (some (17, 0)), .slice (some (30, 0)) 8 (some 8), .map (some 31), .slice (some (48, 0)) 7 none, .ptr (some (29, 0))] 0 .yes),
  (48, .cells [.int .i64 0, .int .i64 1, .int .i64 2, .int .i64 3, .int .i64 4, .int .i64 5, .int .i64 6, .int .i64 7] 1 .yes),
  (49, .cells [.int .u64 3] 0 .yes),
  (50, .cells [.int .i64 20, .int .i64 2, .slice (some (49, 0)) 1 (some 1)] 0 .yes),
  (51, .cells [.ptr (some (50, 0))] 0 .yes),
  (52, .cells [.int .i64 20, .int .i64 800, .int .i64 8, .int .i64 8, .int .i64 16, .int .i64 16, .int .i64 26, .int .i64 3, .ptr (some (17, 0)), .ptr (some (32, 0)), .ptr (some (51, 0)), .int .u32 1] 0 .yes),
  (103, .cells [.ptr (some (52, 0)), .int .u32 1, .int .i64 0, .int .i64 1, .int .i64 0, .int .i64 0] 0 .yes),
  (105, .cells [.ptr (some (17, 0)), .ptr (some (103, 0))] 0 .yes),
  (241, .cells [.int .i64 20, .int .i64 800, .int .i64 8, .int .i64 8, .int .i64 16, .int .i64 16, .int .i64 26, .int .i64 3, .ptr (some (105, 0)), .bool true, .int .u64 0, .int .u64 0, .int .u64 0, .int .u64 0] 0 .yes),
  (242, .cells [.ptr (some (241, 0)), .str [113], .slice (some (653, 0)) 1 none, .int .u64 1, .bool false] 0 .yes),
  (643, .cells (by8 [1, 0, 0, 1, 0, 0, 0, 0, 22, 0, 1, 1, 0, 0, 0, 0, 0, 0, 0, 3, 2, 113, 0, 1, 1, 0, 0, 0, 0, 0, 0, 0, 0, 0, 0, 0, 0, 120] ++ (nul 762)) 1 (.of 5)),
  (653, .cells [.int .u64 0] 1 .yes)],
 v := .tup [.int .u64 1, .int .i64 0], nout := 907, ldel := [653],
 lset := [(30, .cells [.int .u32 0, .slice none 0 (some 0), .bool false, .int .i64 0, .int .u32 0, .slice none 0 (some 0), .bool false, .int .i64 0, .int .u32 0, .slice none 0 (some 0), .bool false, .int .i64 0, .int .u32 0, .slice none 0 (some 0), .bool false, .int .i64 0, .int .u32 0, .slice none 0 (some 0), .bool false, .int .i64 0, .int .u32 0, .slice none 0 (some 0), .bool false, .int .i64 0, .int .u32 0, .slice none 0 (some 0), .bool false, .int .i64 0, .int .u32 1, .slice (some (896, 0)) 800 none, .bool true, .int .i64 1] 0 .yes),
  (103, .cells [.ptr (some (52, 0)), .int .u32 1, .int .i64 0, .int .i64 2, .int .i64 0, .int .i64 0] 0 .yes),
  (242, .cells [.ptr (some (241, 0)), .str [113], .slice (some (906, 0)) 2 none, .int .u64 2, .bool false] 0 .yes),
  (896, .cells (by8 [1, 0, 0, 2, 0, 0, 0, 0, 22, 0, 1, 1, 0, 0, 0, 0, 0, 0, 0, 3, 2, 113, 0, 1, 1, 0, 0, 0, 0, 0, 0, 0, 0, 0, 0, 0, 0, 120, 0, 0, 22, 0, 1, 1, 0, 0, 0, 0, 0, 0, 0, 3, 2, 113, 0, 1, 1, 0, 0, 0, 0, 0, 0, 0, 1, 0, 0, 0, 0, 121] ++ (nul 730)) 1 (.of 5)),
  (906, .cells [.int .u64 0, .int .u64 1] 1 .yes)] }

noncomputable def hk12F (args : List AV) (M : AMem) : Option (AV × AMem) := match hk11 4 with
  | some h => h args M
  | none => acall Tryz.prog hk11 1000 4 args M

noncomputable def hk12 : Hook := fun f => match f with
  | 4 => some (cutAt [cut12] hk12F)
  | _ => hk11 f

def cut13 : Cut := {
 args := [.agg [.int .i64 20, .int .i64 800, .int .i64 8, .int .i64 8, .int .i64 16, .int .i64 16, .int .i64 26, .int .i64 3], .slice (some (966, 0)) 800 none], nin := 967,
 lin := [(3, .ro (by8 [0, 1, 56, 2, 57, 49, 28, 3, 61, 58, 42, 50, 38, 29, 17, 4, 62, 47, 59, 36, 45, 43, 51, 22, 53, 39, 33, 30, 24, 18, 12, 5, 63, 55, 48, 27, 60, 41, 37, 16, 46, 35, 44, 21, 52, 32, 23, 11, 54, 26, 40, 15, 34, 20, 31, 10, 25, 14, 19, 9, 13, 8, 7, 6])),
  (966, .cells (by8 [1, 0, 0, 2, 0, 0, 0, 0, 22, 0, 1, 1, 0, 0, 0, 0, 0, 0, 0, 3, 2, 113, 0, 1, 1, 0, 0, 0, 0, 0, 0, 0, 0, 0, 0, 0, 0, 120, 0, 0, 22, 0, 1, 1, 0, 0, 0, 0, 0, 0, 0, 3, 2, 113, 0, 1, 1, 0, 0, 0, 0, 0, 0, 0, 1, 0, 0, 0, 0, 121] ++ (nul 730)) 1 (.of 5))],
 v := .tup [.agg [.int .i64 0, .slice none 0 (some 0), .slice none 0 (some 0), .slice none 0 (some 0), .slice (some (1003, 0)) 2 none], .int .i64 0], nout := 1080, ldel := [],
 lset := [(1003, .cells [.str [1, 0, 0, 0, 0, 0, 0, 0, 3, 2, 113, 0, 1, 1, 0, 0, 0, 0, 0, 0, 0, 0], .str [120], .str [1, 0, 0, 0, 0, 0, 0, 0, 3, 2, 113, 0, 1, 1, 0, 0, 0, 0, 0, 0, 0, 1], .str [121]] 2 .yes)] }

noncomputable def hk13F (args : List AV) (M : AMem) : Option (AV × AMem) := match hk12 129 with
  | some h => h args M
  | none => acall Tryz.prog hk12 1000 129 args M

noncomputable def hk13 : Hook := fun f => match f with
  | 129 => some (cutAt [cut13] hk13F)
  | _ => hk12 f

def cut14 : Cut := {
 args := [.ptr (some (242, 0))], nin := 907,
 lin := [(3, .ro (by8 [0, 1, 56, 2, 57, 49, 28, 3, 61, 58, 42, 50, 38, 29, 17, 4, 62, 47, 59, 36, 45, 43, 51, 22, 53, 39, 33, 30, 24, 18, 12, 5, 63, 55, 48, 27, 60, 41, 37, 16, 46, 35, 44, 21, 52, 32, 23, 11, 54, 26, 40, 15, 34, 20, 31, 10, 25, 14, 19, 9, 13, 8, 7, 6])),
  (16, .cells (by8 [83, 76, 85, 73, 67, 69, 48, 49, 0, 0, 0, 20, 0, 0, 3, 32, 0, 0, 0, 8, 0, 0, 0, 8, 0, 0, 0, 16, 0, 0, 0, 16, 0, 0, 0, 26, 0, 0, 0, 3, 0, 0, 0, 1, 0, 0, 0, 1, 0, 0, 0, 0, 0, 0, 0, 0, 0, 0, 0, 0, 141, 172, 2, 173] ++ (nul 736 ++ (by8 [1] ++ (nul 15199)))) 0 .yes),
  (17, .cells [.int .i64 800, .slice (some (16, 0)) 16000 (some 16000), .int .u64 0, .int .u64 2] 0 .yes),
  (28, .cells [.int .i64 0, .int .i64 0, .bool false, .int .i64 0, .int .i64 0, .bool false, .int .i64 0, .int .i64 0, .bool false, .int .i64 0, .int .i64 0, .bool false, .int .i64 0, .int .i64 0, .bool false, .int .i64 0, .int .i64 0, .bool false, .int .i64 0, .int .i64 0, .bool false, .int .i64 0, .int .i64 0, .bool false, .int .i64 8, .int .i64 8, .bool false] 0 .yes),
  (29, .cells [.slice (some (28, 0)) 9 (some 9), .int .i64 0] 0 .yes),
  (30, .cells [.int .u32 0, .slice none 0 (some 0), .bool false, .int .i64 0, .int .u32 0, .slice none 0 (some 0), .bool false, .int .i64 0, .int .u32 0, .slice none 0 (some 0), .bool false, .int .i64 0, .int .u32 0, .slice none 0 (some 0), .bool false, .int .i64 0, .int .u32 0, .slice none 0 (some 0), .bool false, .int .i64 0, .int .u32 0, .slice none 0 (some 0), .bool false, .int .i64 0, .int .u32 0, .slice none 0 (some 0), .bool false, .int .i64 0, .int .u32 1, .slice (some (896, 0)) 800 none, .bool true, .int .i64 1] 0 .yes),
  (31, .map [(.int .u32 1, .int .i64 7, 0)] 1),
  (32, .cells [.ptr (some (17, 0)), .slice (some (30, 0)) 8 (some 8), .map (some 31), .slice (some (48, 0)) 7 none, .ptr (some (29, 0))] 0 .yes),
  (48, .cells [.int .i64 0, .int .i64 1, .int .i64 2, .int .i64 3, .int .i64 4, .int .i64 5, .int .i64 6, .int .i64 7] 1 .yes),
  (49, .cells [.int .u64 3] 0 .yes),
  (50, .cells [.int .i64 20, .int .i64 2, .slice (some (49, 0)) 1 (some 1)] 0 .yes),
  (51, .cells [.ptr (some (50, 0))] 0 .yes),
  (52, .cells [.int .i64 20, .int .i64 800, .int .i64 8, .int .i64 8, .int .i64 16, .int .i64 16, .int .i64 26, .int .i64 3, .ptr (some (17, 0)), .ptr (some (32, 0)), .ptr (some (51, 0)), .int .u32 1] 0 .yes),
  (103, .cells [.ptr (some (52, 0)), .int .u32 1, .int .i64 0, .int .i64 2, .int .i64 0, .int .i64 0] 0 .yes),
  (105, .cells [.ptr (some (17, 0)), .ptr (some (103, 0))] 0 .yes),
  (241, .cells [.int .i64 20, .int .i64 800, .int .i64 8, .int .i64 8, .int .i64 16, .int .i64 16, .int .i64 26, .int .i64 3, .ptr (some (105, 0)), .bool true, .int .u64 0, .int .u64 0, .int .u64 0, .int .u64 0] 0 .yes),
  (242, .cells [.ptr (some (241, 0)), .str [113], .slice (some (906, 0)) 2 none, .int .u64 2, .bool false] 0 .yes),
  (896, .cells (by8 [1, 0, 0, 2, 0, 0, 0, 0, 22, 0, 1, 1, 0, 0, 0, 0, 0, 0, 0, 3, 2, 113, 0, 1, 1, 0, 0, 0, 0, 0, 0, 0, 0, 0, 0, 0, 0, 120, 0, 0, 22, 0, 1, 1, 0, 0, 0, 0, 0, 0, 0, 3, 2, 113, 0, 1, 1, 0, 0, 0, 0, 0, 0, 0, 1, 0, 0, 0, 0, 121] ++ (nul 730)) 1 (.of 5)),
  (906, .cells [.int .u64 0, .int .u64 1] 1 .yes)],
 v := .tup [.str [120], .int .i64 0], nout := 1096, ldel := [],
 lset := [] }

noncomputable def hk14F (args : List AV) (M : AMem) : Option (AV × AMem) := match hk13 6 with
  | some h => h args M
  | none => acall Tryz.prog hk13 1000 6 args M

noncomputable def hk14 : Hook := fun f => match f with
  | 6 => some (cutAt [cut14] hk14F)
  | _ => hk13 f

def cut15 : Cut := {
 args := [.agg [.int .i64 20, .int .i64 800, .int .i64 8, .int .i64 8, .int .i64 16, .int .i64 16, .int .i64 26, .int .i64 3], .slice (some (1158, 0)) 800 none], nin := 1159,
 lin := [(3, .ro (by8 [0, 1, 56, 2, 57, 49, 28, 3, 61, 58, 42, 50, 38, 29, 17, 4, 62, 47, 59, 36, 45, 43, 51, 22, 53, 39, 33, 30, 24, 18, 12, 5, 63, 55, 48, 27, 60, 41, 37, 16, 46, 35, 44, 21, 52, 32, 23, 11, 54, 26, 40, 15, 34, 20, 31, 10, 25, 14, 19, 9, 13, 8, 7, 6])),
  (1158, .cells (by8 [1, 0, 0, 2, 0, 0, 0, 0, 22, 0, 1, 1, 0, 0, 0, 0, 0, 0, 0, 3, 2, 113, 0, 1, 1, 0, 0, 0, 0, 0, 0, 0, 0, 0, 0, 0, 0, 120, 0, 0, 22, 0, 1, 1, 0, 0, 0, 0, 0, 0, 0, 3, 2, 113, 0, 1, 1, 0, 0, 0, 0, 0, 0, 0, 1, 0, 0, 0, 0, 121] ++ (nul 730)) 1 (.of 5))],
 v := .tup [.agg [.int .i64 0, .slice none 0 (some 0), .slice none 0 (some 0), .slice none 0 (some 0), .slice (some (1195, 0)) 2 none], .int .i64 0], nout := 1272, ldel := [],
 lset := [(1195, .cells [.str [1, 0, 0, 0, 0, 0, 0, 0, 3, 2, 113, 0, 1, 1, 0, 0, 0, 0, 0, 0, 0, 0], .str [120], .str [1, 0, 0, 0, 0, 0, 0, 0, 3, 2, 113, 0, 1, 1, 0, 0, 0, 0, 0, 0, 0, 1], .str [121]] 2 .yes)] }

noncomputable def hk15F (args : List AV) (M : AMem) : Option (AV × AMem) := match hk14 129 with
  | some h => h args M
  | none => acall Tryz.prog hk14 1000 129 args M

noncomputable def hk15 : Hook := fun f => match f with
  | 129 => some (cutAt [cut15] hk15F)
  | _ => hk14 f

def cut16 : Cut := {
 args := [.ptr (some (52, 0)), .int .u32 1, .agg [.int .i64 0, .slice none 0 (some 0), .slice none 0 (some 0), .slice none 0 (some 0), .slice (some (1279, 0)) 1 none]], nin := 1284,
 lin := [(3, .ro (by8 [0, 1, 56, 2, 57, 49, 28, 3, 61, 58, 42, 50, 38, 29, 17, 4, 62, 47, 59, 36, 45, 43, 51, 22, 53, 39, 33, 30, 24, 18, 12, 5, 63, 55, 48, 27, 60, 41, 37, 16, 46, 35, 44, 21, 52, 32, 23, 11, 54, 26, 40, 15, 34, 20, 31, 10, 25, 14, 19, 9, 13, 8, 7, 6])),
  (16, .cells (by8 [83, 76, 85, 73, 67, 69, 48, 49, 0, 0, 0, 20, 0, 0, 3, 32, 0, 0, 0, 8, 0, 0, 0, 8, 0, 0, 0, 16, 0, 0, 0, 16, 0, 0, 0, 26, 0, 0, 0, 3, 0, 0, 0, 1, 0, 0, 0, 1, 0, 0, 0, 0, 0, 0, 0, 0, 0, 0, 0, 0, 141, 172, 2, 173] ++ (nul 736 ++ (by8 [1] ++ (nul 15199)))) 0 .yes),
  (17, .cells [.int .i64 800, .slice (some (16, 0)) 16000 (some 16000), .int .u64 0, .int .u64 2] 0 .yes),
  (28, .cells [.int .i64 0, .int .i64 0, .bool false, .int .i64 0, .int .i64 0, .bool false, .int .i64 0, .int .i64 0, .bool false, .int .i64 0, .int .i64 0, .bool false, .int .i64 0, .int .i64 0, .bool false, .int .i64 0, .int .i64 0, .bool false, .int .i64 0, .int .i64 0, .bool false, .int .i64 0, .int .i64 0, .bool false, .int .i64 8, .int .i64 8, .bool false] 0 .yes),
  (29, .cells [.slice (some (28, 0)) 9 (some 9), .int .i64 0] 0 .yes),
  (30, .cells [.int .u32 0, .slice none 0 (some 0), .bool false, .int .i64 0, .int .u32 0, .slice none 0 (some 0), .bool false, .int .i64 0, .int .u32 0, .slice none 0 (some 0), .bool false, .int .i64 0, .int .u32 0, .slice none 0 (some 0), .bool false, .int .i64 0, .int .u32 0, .slice none 0 (some 0), .bool false, .int .i64 0, .int .u32 0, .slice none 0 (some 0), .bool false, .int .i64 0, .int .u32 0, .slice none 0 (some 0), .bool false, .int .i64 0, .int .u32 1, .slice (some (896, 0)) 800 none, .bool true, .int .i64 1] 0 .yes),
  (31, .map [(.int .u32 1, .int .i64 7, 0)] 1),
  (32, .cells [.ptr (some (17, 0)), .slice (some (30, 0)) 8 (some 8), .map (some 31), .slice (some (48, 0)) 7 none, .ptr (some (29, 0))] 0 .yes),
  (48, .cells [.int .i64 0, .int .i64 1, .int .i64 2, .int .i64 3, .int .i64 4, .int .i64 5, .int .i64 6, .int .i64 7] 1 .yes),
  (49, .cells [.int .u64 3] 0 .yes),
  (50, .cells [.int .i64 20, .int .i64 2, .slice (some (49, 0)) 1 (some 1)] 0 .yes),
  (51, .cells [.ptr (some (50, 0))] 0 .yes),
  (52, .cells [.int .i64 20, .int .i64 800, .int .i64 8, .int .i64 8, .int .i64 16, .int .i64 16, .int .i64 26, .int .i64 3, .ptr (some (17, 0)), .ptr (some (32, 0)), .ptr (some (51, 0)), .int .u32 1] 0 .yes),
  (896, .cells (by8 [1, 0, 0, 2, 0, 0, 0, 0, 22, 0, 1, 1, 0, 0, 0, 0, 0, 0, 0, 3, 2, 113, 0, 1, 1, 0, 0, 0, 0, 0, 0, 0, 0, 0, 0, 0, 0, 120, 0, 0, 22, 0, 1, 1, 0, 0, 0, 0, 0, 0, 0, 3, 2, 113, 0, 1, 1, 0, 0, 0, 0, 0, 0, 0, 1, 0, 0, 0, 0, 121] ++ (nul 730)) 1 (.of 5)),
  (1279, .cells [.str [1, 0, 0, 0, 0, 0, 0, 0, 3, 2, 113, 0, 1, 1, 0, 0, 0, 0, 0, 0, 0, 1], .str [121], .str [], .str []] 2 .yes)],
 v := .int .i64 0, nout := 1346, ldel := [],
 lset := [(30, .cells [.int .u32 0, .slice none 0 (some 0), .bool false, .int .i64 0, .int .u32 0, .slice none 0 (some 0), .bool false, .int .i64 0, .int .u32 0, .slice none 0 (some 0), .bool false, .int .i64 0, .int .u32 0, .slice none 0 (some 0), .bool false, .int .i64 0, .int .u32 0, .slice none 0 (some 0), .bool false, .int .i64 0, .int .u32 0, .slice none 0 (some 0), .bool false, .int .i64 0, .int .u32 0, .slice none 0 (some 0), .bool false, .int .i64 0, .int .u32 1, .slice (some (1345, 0)) 800 none, .bool true, .int .i64 1] 0 .yes),
  (1345, .cells (by8 [1, 0, 0, 1, 0, 0, 0, 0, 22, 0, 1, 1, 0, 0, 0, 0, 0, 0, 0, 3, 2, 113, 0, 1, 1, 0, 0, 0, 0, 0, 0, 0, 1, 0, 0, 0, 0, 121] ++ (nul 762)) 1 (.of 5))] }

noncomputable def hk16F (args : List AV) (M : AMem) : Option (AV × AMem) := match hk15 131 with
  | some h => h args M
  | none => acall Tryz.prog hk15 1000 131 args M

noncomputable def hk16 : Hook := fun f => match f with
  | 131 => some (cutAt [cut16] hk16F)
  | _ => hk15 f

def cut17 : Cut := {
 args := [.ptr (some (241, 0)), .str [1, 0, 0, 0, 0, 0, 0, 0, 3, 2, 113, 0, 1, 1, 0, 0, 0, 0, 0, 0, 0, 0]], nin := 1145,
 lin := [(3, .ro (by8 [0, 1, 56, 2, 57, 49, 28, 3, 61, 58, 42, 50, 38, 29, 17, 4, 62, 47, 59, 36, 45, 43, 51, 22, 53, 39, 33, 30, 24, 18, 12, 5, 63, 55, 48, 27, 60, 41, 37, 16, 46, 35, 44, 21, 52, 32, 23, 11, 54, 26, 40, 15, 34, 20, 31, 10, 25, 14, 19, 9, 13, 8, 7, 6])),
  (16, .cells (by8 [83, 76, 85, 73, 67, 69, 48, 49, 0, 0, 0, 20, 0, 0, 3, 32, 0, 0, 0, 8, 0, 0, 0, 8, 0, 0, 0, 16, 0, 0, 0, 16, 0, 0, 0, 26, 0, 0, 0, 3, 0, 0, 0, 1, 0, 0, 0, 1, 0, 0, 0, 0, 0, 0, 0, 0, 0, 0, 0, 0, 141, 172, 2, 173] ++ (nul 736 ++ (by8 [1] ++ (nul 15199)))) 0 .yes),
  (17, .cells [.int .i64 800, .slice (some (16, 0)) 16000 (some 16000), .int .u64 0, .int .u64 2] 0 .yes),
  (28, .cells [.int .i64 0, .int .i64 0, .bool false, .int .i64 0, .int .i64 0, .bool false, .int .i64 0, .int .i64 0, .bool false, .int .i64 0, .int .i64 0, .bool false, .int .i64 0, .int .i64 0, .bool false, .int .i64 0, .int .i64 0, .bool false, .int .i64 0, .int .i64 0, .bool false, .int .i64 0, .int .i64 0, .bool false, .int .i64 8, .int .i64 8, .bool false] 0 .yes),
  (29, .cells [.slice (some (28, 0)) 9 (some 9), .int .i64 0] 0 .yes),
  (30, .cells [.int .u32 0, .slice none 0 (some 0), .bool false, .int .i64 0, .int .u32 0, .slice none 0 (some 0), .bool false, .int .i64 0, .int .u32 0, .slice none 0 (some 0), .bool false, .int .i64 0, .int .u32 0, .slice none 0 (some 0), .bool false, .int .i64 0, .int .u32 0, .slice none 0 (some 0), .bool false, .int .i64 0, .int .u32 0, .slice none 0 (some 0), .bool false, .int .i64 0, .int .u32 0, .slice none 0 (some 0), .bool false, .int .i64 0, .int .u32 1, .slice (some (896, 0)) 800 none, .bool true, .int .i64 1] 0 .yes),
  (31, .map [(.int .u32 1, .int .i64 7, 0)] 1),
  (32, .cells [.ptr (some (17, 0)), .slice (some (30, 0)) 8 (some 8), .map (some 31), .slice (some (48, 0)) 7 none, .ptr (some (29, 0))] 0 .yes),
  (48, .cells [.int .i64 0, .int .i64 1, .int .i64 2, .int .i64 3, .int .i64 4, .int .i64 5, .int .i64 6, .int .i64 7] 1 .yes),
  (49, .cells [.int .u64 3] 0 .yes),
  (50, .cells [.int .i64 20, .int .i64 2, .slice (some (49, 0)) 1 (some 1)] 0 .yes),
  (51, .cells [.ptr (some (50, 0))] 0 .yes),
  (52, .cells [.int .i64 20, .int .i64 800, .int .i64 8, .int .i64 8, .int .i64 16, .int .i64 16, .int .i64 26, .int .i64 3, .ptr (some (17, 0)), .ptr (some (32, 0)), .ptr (some (51, 0)), .int .u32 1] 0 .yes),
  (103, .cells [.ptr (some (52, 0)), .int .u32 1, .int .i64 0, .int .i64 2, .int .i64 0, .int .i64 0] 0 .yes),
  (105, .cells [.ptr (some (17, 0)), .ptr (some (103, 0))] 0 .yes),
  (241, .cells [.int .i64 20, .int .i64 800, .int .i64 8, .int .i64 8, .int .i64 16, .int .i64 16, .int .i64 26, .int .i64 3, .ptr (some (105, 0)), .bool true, .int .u64 0, .int .u64 0, .int .u64 0, .int .u64 0] 0 .yes),
  (896, .cells (by8 [1, 0, 0, 2, 0, 0, 0, 0, 22, 0, 1, 1, 0, 0, 0, 0, 0, 0, 0, 3, 2, 113, 0, 1, 1, 0, 0, 0, 0, 0, 0, 0, 0, 0, 0, 0, 0, 120, 0, 0, 22, 0, 1, 1, 0, 0, 0, 0, 0, 0, 0, 3, 2, 113, 0, 1, 1, 0, 0, 0, 0, 0, 0, 0, 1, 0, 0, 0, 0, 121] ++ (nul 730)) 1 (.of 5))],
 v := .int .i64 0, nout := 1354, ldel := [],
 lset := [(30, .cells [.int .u32 0, .slice none 0 (some 0), .bool false, .int .i64 0, .int .u32 0, .slice none 0 (some 0), .bool false, .int .i64 0, .int .u32 0, .slice none 0 (some 0), .bool false, .int .i64 0, .int .u32 0, .slice none 0 (some 0), .bool false, .int .i64 0, .int .u32 0, .slice none 0 (some 0), .bool false, .int .i64 0, .int .u32 0, .slice none 0 (some 0), .bool false, .int .i64 0, .int .u32 0, .slice none 0 (some 0), .bool false, .int .i64 0, .int .u32 1, .slice (some (1345, 0)) 800 none, .bool true, .int .i64 1] 0 .yes),
  (103, .cells [.ptr (some (52, 0)), .int .u32 1, .int .i64 0, .int .i64 3, .int .i64 0, .int .i64 0] 0 .yes),
  (1345, .cells (by8 [1, 0, 0, 1, 0, 0, 0, 0, 22, 0, 1, 1, 0, 0, 0, 0, 0, 0, 0, 3, 2, 113, 0, 1, 1, 0, 0, 0, 0, 0, 0, 0, 1, 0, 0, 0, 0, 121] ++ (nul 762)) 1 (.of 5))] }

noncomputable def hk17F (args : List AV) (M : AMem) : Option (AV × AMem) := match hk16 18 with
  | some h => h args M
  | none => acall Tryz.prog hk16 1000 18 args M

noncomputable def hk17 : Hook := fun f => match f with
  | 18 => some (cutAt [cut17] hk17F)
  | _ => hk16 f

end Go.Proofs.YthhflooehdhkhaaGreatDoor
