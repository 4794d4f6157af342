/-
  51 cuts and their hooks. Printed by wip/tool/mkcuts5.py.
-/
import Derived.Test.YtccmopkjkmpaaaaGreatDoorInsHook
import Derived.Test.YtccmopkjkmpaaaaGreatDoorAbOff
namespace Go.Proofs.YtccmopkjkmpaaaaGreatDoor
open Go Go.Ab Go.Proofs
set_option linter.unusedVariables false
set_option maxRecDepth 100000

def cut1 : Cut := {
 args := [.agg [.int .i64 20, .int .i64 800, .int .i64 8, .int .i64 8, .int .i64 16, .int .i64 16, .int .i64 24, .int .i64 3]], nin := 5,
 lin := [(3, .ro (by8 [0, 1, 56, 2, 57, 49, 28, 3, 61, 58, 42, 50, 38, 29, 17, 4, 62, 47, 59, 36, 45, 43, 51, 22, 53, 39, 33, 30, 24, 18, 12, 5, 63, 55, 48, 27, 60, 41, 37, 16, 46, 35, 44, 21, 52, 32, 23, 11, 54, 26, 40, 15, 34, 20, 31, 10, 25, 14, 19, 9, 13, 8, 7, 6]))],
 v := .ptr (some (250, 0)), nout := 251, ldel := [],
 lset := [(24, .cells (by8 [83, 76, 85, 73, 67, 69, 48, 49, 0, 0, 0, 20, 0, 0, 3, 32, 0, 0, 0, 8, 0, 0, 0, 8, 0, 0, 0, 16, 0, 0, 0, 16, 0, 0, 0, 24, 0, 0, 0, 3, 0, 0, 0, 1, 0, 0, 0, 1, 0, 0, 0, 0, 0, 0, 0, 0, 0, 0, 0, 0, 141, 122, 2, 171] ++ (nul 736 ++ (by8 [1] ++ (nul 15199)))) 0 .yes),
  (25, .cells [.int .i64 800, .slice (some (24, 0)) 16000 (some 16000), .int .u64 0, .int .u64 2] 0 .yes),
  (36, .cells [.int .i64 0, .int .i64 0, .bool false, .int .i64 0, .int .i64 0, .bool false, .int .i64 0, .int .i64 0, .bool false, .int .i64 0, .int .i64 0, .bool false, .int .i64 0, .int .i64 0, .bool false, .int .i64 0, .int .i64 0, .bool false, .int .i64 0, .int .i64 0, .bool false, .int .i64 0, .int .i64 0, .bool false, .int .i64 8, .int .i64 8, .bool false] 0 .yes),
  (37, .cells [.slice (some (36, 0)) 9 (some 9), .int .i64 0] 0 .yes),
  (38, .cells [.int .u32 0, .slice none 0 (some 0), .bool false, .int .i64 0, .int .u32 0, .slice none 0 (some 0), .bool false, .int .i64 0, .int .u32 0, .slice none 0 (some 0), .bool false, .int .i64 0, .int .u32 0, .slice none 0 (some 0), .bool false, .int .i64 0, .int .u32 0, .slice none 0 (some 0), .bool false, .int .i64 0, .int .u32 0, .slice none 0 (some 0), .bool false, .int .i64 0, .int .u32 0, .slice none 0 (some 0), .bool false, .int .i64 0, .int .u32 1, .slice (some (109, 0)) 800 none, .bool false, .int .i64 1] 0 .yes),
  (39, .map [(.int .u32 1, .int .i64 7, 0)] 1),
  (40, .cells [.ptr (some (25, 0)), .slice (some (38, 0)) 8 (some 8), .map (some 39), .slice (some (56, 0)) 7 none, .ptr (some (37, 0))] 0 .yes),
  (56, .cells [.int .i64 0, .int .i64 1, .int .i64 2, .int .i64 3, .int .i64 4, .int .i64 5, .int .i64 6, .int .i64 7] 1 .yes),
  (57, .cells [.int .u64 3] 0 .yes),
  (58, .cells [.int .i64 20, .int .i64 2, .slice (some (57, 0)) 1 (some 1)] 0 .yes),
  (59, .cells [.ptr (some (58, 0))] 0 .yes),
  (60, .cells [.int .i64 20, .int .i64 800, .int .i64 8, .int .i64 8, .int .i64 16, .int .i64 16, .int .i64 24, .int .i64 3, .ptr (some (25, 0)), .ptr (some (40, 0)), .ptr (some (59, 0)), .int .u32 1] 0 .yes),
  (109, .cells (by8 [1] ++ (nul 799)) 1 (.of 5)),
  (111, .cells [.ptr (some (60, 0)), .int .u32 1, .int .i64 0, .int .i64 0, .int .i64 0, .int .i64 0] 0 .yes),
  (113, .cells [.ptr (some (25, 0)), .ptr (some (111, 0))] 0 .yes),
  (249, .cells [.int .i64 20, .int .i64 800, .int .i64 8, .int .i64 8, .int .i64 16, .int .i64 16, .int .i64 24, .int .i64 3, .ptr (some (113, 0)), .bool true, .int .u64 0, .int .u64 0, .int .u64 0, .int .u64 0] 0 .yes),
  (250, .cells [.ptr (some (249, 0))] 0 .yes)] }

noncomputable def hk1F (args : List AV) (M : AMem) : Option (AV × AMem) := match hkI 13 with
  | some h => h args M
  | none => acall Tryz.prog hkI 1000 13 args M

noncomputable def hk1 : Hook := fun f => match f with
  | 13 => some (cutAt [cut1] hk1F)
  | _ => hkI f

def cut2 : Cut := {
 args := [.agg [.int .i64 20, .int .i64 800, .int .i64 8, .int .i64 8, .int .i64 16, .int .i64 16, .int .i64 24, .int .i64 3], .slice (some (355, 0)) 800 none], nin := 356,
 lin := [(3, .ro (by8 [0, 1, 56, 2, 57, 49, 28, 3, 61, 58, 42, 50, 38, 29, 17, 4, 62, 47, 59, 36, 45, 43, 51, 22, 53, 39, 33, 30, 24, 18, 12, 5, 63, 55, 48, 27, 60, 41, 37, 16, 46, 35, 44, 21, 52, 32, 23, 11, 54, 26, 40, 15, 34, 20, 31, 10, 25, 14, 19, 9, 13, 8, 7, 6])),
  (355, .cells (by8 [1] ++ (nul 799)) 1 (.of 5))],
 v := .tup [.agg [.int .i64 0, .slice none 0 (some 0), .slice none 0 (some 0), .slice none 0 (some 0), .slice none 0 (some 0)], .int .i64 0], nout := 421, ldel := [],
 lset := [] }

noncomputable def hk2F (args : List AV) (M : AMem) : Option (AV × AMem) := match hk1 146 with
  | some h => h args M
  | none => acall Tryz.prog hk1 1000 146 args M

noncomputable def hk2 : Hook := fun f => match f with
  | 146 => some (cutAt [cut2] hk2F)
  | _ => hk1 f

def cut3 : Cut := {
 args := [.ptr (some (250, 0)), .str [97]], nin := 317,
 lin := [(3, .ro (by8 [0, 1, 56, 2, 57, 49, 28, 3, 61, 58, 42, 50, 38, 29, 17, 4, 62, 47, 59, 36, 45, 43, 51, 22, 53, 39, 33, 30, 24, 18, 12, 5, 63, 55, 48, 27, 60, 41, 37, 16, 46, 35, 44, 21, 52, 32, 23, 11, 54, 26, 40, 15, 34, 20, 31, 10, 25, 14, 19, 9, 13, 8, 7, 6])),
  (24, .cells (by8 [83, 76, 85, 73, 67, 69, 48, 49, 0, 0, 0, 20, 0, 0, 3, 32, 0, 0, 0, 8, 0, 0, 0, 8, 0, 0, 0, 16, 0, 0, 0, 16, 0, 0, 0, 24, 0, 0, 0, 3, 0, 0, 0, 1, 0, 0, 0, 1, 0, 0, 0, 0, 0, 0, 0, 0, 0, 0, 0, 0, 141, 122, 2, 171] ++ (nul 736 ++ (by8 [1] ++ (nul 15199)))) 0 .yes),
  (25, .cells [.int .i64 800, .slice (some (24, 0)) 16000 (some 16000), .int .u64 0, .int .u64 2] 0 .yes),
  (36, .cells [.int .i64 0, .int .i64 0, .bool false, .int .i64 0, .int .i64 0, .bool false, .int .i64 0, .int .i64 0, .bool false, .int .i64 0, .int .i64 0, .bool false, .int .i64 0, .int .i64 0, .bool false, .int .i64 0, .int .i64 0, .bool false, .int .i64 0, .int .i64 0, .bool false, .int .i64 0, .int .i64 0, .bool false, .int .i64 8, .int .i64 8, .bool false] 0 .yes),
  (37, .cells [.slice (some (36, 0)) 9 (some 9), .int .i64 0] 0 .yes),
  (38, .cells [.int .u32 0, .slice none 0 (some 0), .bool false, .int .i64 0, .int .u32 0, .slice none 0 (some 0), .bool false, .int .i64 0, .int .u32 0, .slice none 0 (some 0), .bool false, .int .i64 0, .int .u32 0, .slice none 0 (some 0), .bool false, .int .i64 0, .int .u32 0, .slice none 0 (some 0), .bool false, .int .i64 0, .int .u32 0, .slice none 0 (some 0), .bool false, .int .i64 0, .int .u32 0, .slice none 0 (some 0), .bool false, .int .i64 0, .int .u32 1, .slice (some (109, 0)) 800 none, .bool false, .int .i64 1] 0 .yes),
  (39, .map [(.int .u32 1, .int .i64 7, 0)] 1),
  (40, .cells [.ptr (some (25, 0)), .slice (some (38, 0)) 8 (some 8), .map (some 39), .slice (some (56, 0)) 7 none, .ptr (some (37, 0))] 0 .yes),
  (56, .cells [.int .i64 0, .int .i64 1, .int .i64 2, .int .i64 3, .int .i64 4, .int .i64 5, .int .i64 6, .int .i64 7] 1 .yes),
  (57, .cells [.int .u64 3] 0 .yes),
  (58, .cells [.int .i64 20, .int .i64 2, .slice (some (57, 0)) 1 (some 1)] 0 .yes),
  (59, .cells [.ptr (some (58, 0))] 0 .yes),
  (60, .cells [.int .i64 20, .int .i64 800, .int .i64 8, .int .i64 8, .int .i64 16, .int .i64 16, .int .i64 24, .int .i64 3, .ptr (some (25, 0)), .ptr (some (40, 0)), .ptr (some (59, 0)), .int .u32 1] 0 .yes),
  (109, .cells (by8 [1] ++ (nul 799)) 1 (.of 5)),
  (111, .cells [.ptr (some (60, 0)), .int .u32 1, .int .i64 0, .int .i64 0, .int .i64 0, .int .i64 0] 0 .yes),
  (113, .cells [.ptr (some (25, 0)), .ptr (some (111, 0))] 0 .yes),
  (249, .cells [.int .i64 20, .int .i64 800, .int .i64 8, .int .i64 8, .int .i64 16, .int .i64 16, .int .i64 24, .int .i64 3, .ptr (some (113, 0)), .bool true, .int .u64 0, .int .u64 0, .int .u64 0, .int .u64 0] 0 .yes),
  (250, .cells [.ptr (some (249, 0))] 0 .yes)],
 v := .tup [.str [], .int .i64 9], nout := 434, ldel := [],
 lset := [] }

noncomputable def hk3F (args : List AV) (M : AMem) : Option (AV × AMem) := match hk2 4 with
  | some h => h args M
  | none => acall Tryz.prog hk2 1000 4 args M

noncomputable def hk3 : Hook := fun f => match f with
  | 4 => some (cutAt [cut3] hk3F)
  | _ => hk2 f

def cut4 : Cut := {
 args := [.agg [.int .i64 20, .int .i64 800, .int .i64 8, .int .i64 8, .int .i64 16, .int .i64 16, .int .i64 24, .int .i64 3], .slice (some (481, 0)) 800 none], nin := 482,
 lin := [(3, .ro (by8 [0, 1, 56, 2, 57, 49, 28, 3, 61, 58, 42, 50, 38, 29, 17, 4, 62, 47, 59, 36, 45, 43, 51, 22, 53, 39, 33, 30, 24, 18, 12, 5, 63, 55, 48, 27, 60, 41, 37, 16, 46, 35, 44, 21, 52, 32, 23, 11, 54, 26, 40, 15, 34, 20, 31, 10, 25, 14, 19, 9, 13, 8, 7, 6])),
  (481, .cells (by8 [1] ++ (nul 799)) 1 (.of 5))],
 v := .tup [.agg [.int .i64 0, .slice none 0 (some 0), .slice none 0 (some 0), .slice none 0 (some 0), .slice none 0 (some 0)], .int .i64 0], nout := 547, ldel := [],
 lset := [] }

noncomputable def hk4F (args : List AV) (M : AMem) : Option (AV × AMem) := match hk3 146 with
  | some h => h args M
  | none => acall Tryz.prog hk3 1000 146 args M

noncomputable def hk4 : Hook := fun f => match f with
  | 146 => some (cutAt [cut4] hk4F)
  | _ => hk3 f

def cut5 : Cut := {
 args := [.ptr (some (60, 0)), .int .u32 1, .agg [.int .i64 0, .slice none 0 (some 0), .slice none 0 (some 0), .slice none 0 (some 0), .slice (some (555, 0)) 1 none]], nin := 556,
 lin := [(3, .ro (by8 [0, 1, 56, 2, 57, 49, 28, 3, 61, 58, 42, 50, 38, 29, 17, 4, 62, 47, 59, 36, 45, 43, 51, 22, 53, 39, 33, 30, 24, 18, 12, 5, 63, 55, 48, 27, 60, 41, 37, 16, 46, 35, 44, 21, 52, 32, 23, 11, 54, 26, 40, 15, 34, 20, 31, 10, 25, 14, 19, 9, 13, 8, 7, 6])),
  (24, .cells (by8 [83, 76, 85, 73, 67, 69, 48, 49, 0, 0, 0, 20, 0, 0, 3, 32, 0, 0, 0, 8, 0, 0, 0, 8, 0, 0, 0, 16, 0, 0, 0, 16, 0, 0, 0, 24, 0, 0, 0, 3, 0, 0, 0, 1, 0, 0, 0, 1, 0, 0, 0, 0, 0, 0, 0, 0, 0, 0, 0, 0, 141, 122, 2, 171] ++ (nul 736 ++ (by8 [1] ++ (nul 15199)))) 0 .yes),
  (25, .cells [.int .i64 800, .slice (some (24, 0)) 16000 (some 16000), .int .u64 0, .int .u64 2] 0 .yes),
  (36, .cells [.int .i64 0, .int .i64 0, .bool false, .int .i64 0, .int .i64 0, .bool false, .int .i64 0, .int .i64 0, .bool false, .int .i64 0, .int .i64 0, .bool false, .int .i64 0, .int .i64 0, .bool false, .int .i64 0, .int .i64 0, .bool false, .int .i64 0, .int .i64 0, .bool false, .int .i64 0, .int .i64 0, .bool false, .int .i64 8, .int .i64 8, .bool false] 0 .yes),
  (37, .cells [.slice (some (36, 0)) 9 (some 9), .int .i64 0] 0 .yes),
  (38, .cells [.int .u32 0, .slice none 0 (some 0), .bool false, .int .i64 0, .int .u32 0, .slice none 0 (some 0), .bool false, .int .i64 0, .int .u32 0, .slice none 0 (some 0), .bool false, .int .i64 0, .int .u32 0, .slice none 0 (some 0), .bool false, .int .i64 0, .int .u32 0, .slice none 0 (some 0), .bool false, .int .i64 0, .int .u32 0, .slice none 0 (some 0), .bool false, .int .i64 0, .int .u32 0, .slice none 0 (some 0), .bool false, .int .i64 0, .int .u32 1, .slice (some (109, 0)) 800 none, .bool false, .int .i64 1] 0 .yes),
  (39, .map [(.int .u32 1, .int .i64 7, 0)] 1),
  (40, .cells [.ptr (some (25, 0)), .slice (some (38, 0)) 8 (some 8), .map (some 39), .slice (some (56, 0)) 7 none, .ptr (some (37, 0))] 0 .yes),
  (56, .cells [.int .i64 0, .int .i64 1, .int .i64 2, .int .i64 3, .int .i64 4, .int .i64 5, .int .i64 6, .int .i64 7] 1 .yes),
  (57, .cells [.int .u64 3] 0 .yes),
  (58, .cells [.int .i64 20, .int .i64 2, .slice (some (57, 0)) 1 (some 1)] 0 .yes),
  (59, .cells [.ptr (some (58, 0))] 0 .yes),
  (60, .cells [.int .i64 20, .int .i64 800, .int .i64 8, .int .i64 8, .int .i64 16, .int .i64 16, .int .i64 24, .int .i64 3, .ptr (some (25, 0)), .ptr (some (40, 0)), .ptr (some (59, 0)), .int .u32 1] 0 .yes),
  (109, .cells (by8 [1] ++ (nul 799)) 1 (.of 5)),
  (555, .cells [.str [1, 0, 0, 0, 0, 0, 0, 0, 2, 2, 120, 0, 1, 2, 97, 0, 1], .str []] 2 .yes)],
 v := .int .i64 0, nout := 617, ldel := [],
 lset := [(38, .cells [.int .u32 0, .slice none 0 (some 0), .bool false, .int .i64 0, .int .u32 0, .slice none 0 (some 0), .bool false, .int .i64 0, .int .u32 0, .slice none 0 (some 0), .bool false, .int .i64 0, .int .u32 0, .slice none 0 (some 0), .bool false, .int .i64 0, .int .u32 0, .slice none 0 (some 0), .bool false, .int .i64 0, .int .u32 0, .slice none 0 (some 0), .bool false, .int .i64 0, .int .u32 0, .slice none 0 (some 0), .bool false, .int .i64 0, .int .u32 1, .slice (some (616, 0)) 800 none, .bool true, .int .i64 1] 0 .yes),
  (616, .cells (by8 [1, 0, 0, 1, 0, 0, 0, 0, 17, 0, 0, 1, 0, 0, 0, 0, 0, 0, 0, 2, 2, 120, 0, 1, 2, 97, 0, 1] ++ (nul 772)) 1 (.of 5))] }

noncomputable def hk5F (args : List AV) (M : AMem) : Option (AV × AMem) := match hk4 148 with
  | some h => h args M
  | none => acall Tryz.prog hk4 1000 148 args M

noncomputable def hk5 : Hook := fun f => match f with
  | 148 => some (cutAt [cut5] hk5F)
  | _ => hk4 f

def cut6 : Cut := {
 args := [.ptr (some (111, 0)), .agg [.str [1, 0, 0, 0, 0, 0, 0, 0, 2, 2, 120, 0, 1, 2, 97, 0, 1], .bool false, .str []]], nin := 473,
 lin := [(3, .ro (by8 [0, 1, 56, 2, 57, 49, 28, 3, 61, 58, 42, 50, 38, 29, 17, 4, 62, 47, 59, 36, 45, 43, 51, 22, 53, 39, 33, 30, 24, 18, 12, 5, 63, 55, 48, 27, 60, 41, 37, 16, 46, 35, 44, 21, 52, 32, 23, 11, 54, 26, 40, 15, 34, 20, 31, 10, 25, 14, 19, 9, 13, 8, 7, 6])),
  (24, .cells (by8 [83, 76, 85, 73, 67, 69, 48, 49, 0, 0, 0, 20, 0, 0, 3, 32, 0, 0, 0, 8, 0, 0, 0, 8, 0, 0, 0, 16, 0, 0, 0, 16, 0, 0, 0, 24, 0, 0, 0, 3, 0, 0, 0, 1, 0, 0, 0, 1, 0, 0, 0, 0, 0, 0, 0, 0, 0, 0, 0, 0, 141, 122, 2, 171] ++ (nul 736 ++ (by8 [1] ++ (nul 15199)))) 0 .yes),
  (25, .cells [.int .i64 800, .slice (some (24, 0)) 16000 (some 16000), .int .u64 0, .int .u64 2] 0 .yes),
  (36, .cells [.int .i64 0, .int .i64 0, .bool false, .int .i64 0, .int .i64 0, .bool false, .int .i64 0, .int .i64 0, .bool false, .int .i64 0, .int .i64 0, .bool false, .int .i64 0, .int .i64 0, .bool false, .int .i64 0, .int .i64 0, .bool false, .int .i64 0, .int .i64 0, .bool false, .int .i64 0, .int .i64 0, .bool false, .int .i64 8, .int .i64 8, .bool false] 0 .yes),
  (37, .cells [.slice (some (36, 0)) 9 (some 9), .int .i64 0] 0 .yes),
  (38, .cells [.int .u32 0, .slice none 0 (some 0), .bool false, .int .i64 0, .int .u32 0, .slice none 0 (some 0), .bool false, .int .i64 0, .int .u32 0, .slice none 0 (some 0), .bool false, .int .i64 0, .int .u32 0, .slice none 0 (some 0), .bool false, .int .i64 0, .int .u32 0, .slice none 0 (some 0), .bool false, .int .i64 0, .int .u32 0, .slice none 0 (some 0), .bool false, .int .i64 0, .int .u32 0, .slice none 0 (some 0), .bool false, .int .i64 0, .int .u32 1, .slice (some (109, 0)) 800 none, .bool false, .int .i64 1] 0 .yes),
  (39, .map [(.int .u32 1, .int .i64 7, 0)] 1),
  (40, .cells [.ptr (some (25, 0)), .slice (some (38, 0)) 8 (some 8), .map (some 39), .slice (some (56, 0)) 7 none, .ptr (some (37, 0))] 0 .yes),
  (56, .cells [.int .i64 0, .int .i64 1, .int .i64 2, .int .i64 3, .int .i64 4, .int .i64 5, .int .i64 6, .int .i64 7] 1 .yes),
  (57, .cells [.int .u64 3] 0 .yes),
  (58, .cells [.int .i64 20, .int .i64 2, .slice (some (57, 0)) 1 (some 1)] 0 .yes),
  (59, .cells [.ptr (some (58, 0))] 0 .yes),
  (60, .cells [.int .i64 20, .int .i64 800, .int .i64 8, .int .i64 8, .int .i64 16, .int .i64 16, .int .i64 24, .int .i64 3, .ptr (some (25, 0)), .ptr (some (40, 0)), .ptr (some (59, 0)), .int .u32 1] 0 .yes),
  (109, .cells (by8 [1] ++ (nul 799)) 1 (.of 5)),
  (111, .cells [.ptr (some (60, 0)), .int .u32 1, .int .i64 0, .int .i64 0, .int .i64 0, .int .i64 0] 0 .yes)],
 v := .int .i64 0, nout := 618, ldel := [],
 lset := [(38, .cells [.int .u32 0, .slice none 0 (some 0), .bool false, .int .i64 0, .int .u32 0, .slice none 0 (some 0), .bool false, .int .i64 0, .int .u32 0, .slice none 0 (some 0), .bool false, .int .i64 0, .int .u32 0, .slice none 0 (some 0), .bool false, .int .i64 0, .int .u32 0, .slice none 0 (some 0), .bool false, .int .i64 0, .int .u32 0, .slice none 0 (some 0), .bool false, .int .i64 0, .int .u32 0, .slice none 0 (some 0), .bool false, .int .i64 0, .int .u32 1, .slice (some (616, 0)) 800 none, .bool true, .int .i64 1] 0 .yes),
  (111, .cells [.ptr (some (60, 0)), .int .u32 1, .int .i64 0, .int .i64 1, .int .i64 0, .int .i64 0] 0 .yes),
  (616, .cells (by8 [1, 0, 0, 1, 0, 0, 0, 0, 17, 0, 0, 1, 0, 0, 0, 0, 0, 0, 0, 2, 2, 120, 0, 1, 2, 97, 0, 1] ++ (nul 772)) 1 (.of 5))] }

noncomputable def hk6F (args : List AV) (M : AMem) : Option (AV × AMem) := match hk5 76 with
  | some h => h args M
  | none => acall Tryz.prog hk5 1000 76 args M

noncomputable def hk6 : Hook := fun f => match f with
  | 76 => some (cutAt [cut6] hk6F)
  | _ => hk5 f

def cut7 : Cut := {
 args := [.ptr (some (249, 0)), .str [1, 0, 0, 0, 0, 0, 0, 0, 2, 2, 120, 0, 1, 2, 97, 0, 1], .str []], nin := 468,
 lin := [(3, .ro (by8 [0, 1, 56, 2, 57, 49, 28, 3, 61, 58, 42, 50, 38, 29, 17, 4, 62, 47, 59, 36, 45, 43, 51, 22, 53, 39, 33, 30, 24, 18, 12, 5, 63, 55, 48, 27, 60, 41, 37, 16, 46, 35, 44, 21, 52, 32, 23, 11, 54, 26, 40, 15, 34, 20, 31, 10, 25, 14, 19, 9, 13, 8, 7, 6])),
  (24, .cells (by8 [83, 76, 85, 73, 67, 69, 48, 49, 0, 0, 0, 20, 0, 0, 3, 32, 0, 0, 0, 8, 0, 0, 0, 8, 0, 0, 0, 16, 0, 0, 0, 16, 0, 0, 0, 24, 0, 0, 0, 3, 0, 0, 0, 1, 0, 0, 0, 1, 0, 0, 0, 0, 0, 0, 0, 0, 0, 0, 0, 0, 141, 122, 2, 171] ++ (nul 736 ++ (by8 [1] ++ (nul 15199)))) 0 .yes),
  (25, .cells [.int .i64 800, .slice (some (24, 0)) 16000 (some 16000), .int .u64 0, .int .u64 2] 0 .yes),
  (36, .cells [.int .i64 0, .int .i64 0, .bool false, .int .i64 0, .int .i64 0, .bool false, .int .i64 0, .int .i64 0, .bool false, .int .i64 0, .int .i64 0, .bool false, .int .i64 0, .int .i64 0, .bool false, .int .i64 0, .int .i64 0, .bool false, .int .i64 0, .int .i64 0, .bool false, .int .i64 0, .int .i64 0, .bool false, .int .i64 8, .int .i64 8, .bool false] 0 .yes),
  (37, .cells [.slice (some (36, 0)) 9 (some 9), .int .i64 0] 0 .yes),
  (38, .cells [.int .u32 0, .slice none 0 (some 0), .bool false, .int .i64 0, .int .u32 0, .slice none 0 (some 0), .bool false, .int .i64 0, .int .u32 0, .slice none 0 (some 0), .bool false, .int .i64 0, .int .u32 0, .slice none 0 (some 0), .bool false, .int .i64 0, .int .u32 0, .slice none 0 (some 0), .bool false, .int .i64 0, .int .u32 0, .slice none 0 (some 0), .bool false, .int .i64 0, .int .u32 0, .slice none 0 (some 0), .bool false, .int .i64 0, .int .u32 1, .slice (some (109, 0)) 800 none, .bool false, .int .i64 1] 0 .yes),
  (39, .map [(.int .u32 1, .int .i64 7, 0)] 1),
  (40, .cells [.ptr (some (25, 0)), .slice (some (38, 0)) 8 (some 8), .map (some 39), .slice (some (56, 0)) 7 none, .ptr (some (37, 0))] 0 .yes),
  (56, .cells [.int .i64 0, .int .i64 1, .int .i64 2, .int .i64 3, .int .i64 4, .int .i64 5, .int .i64 6, .int .i64 7] 1 .yes),
  (57, .cells [.int .u64 3] 0 .yes),
  (58, .cells [.int .i64 20, .int .i64 2, .slice (some (57, 0)) 1 (some 1)] 0 .yes),
  (59, .cells [.ptr (some (58, 0))] 0 .yes),
  (60, .cells [.int .i64 20, .int .i64 800, .int .i64 8, .int .i64 8, .int .i64 16, .int .i64 16, .int .i64 24, .int .i64 3, .ptr (some (25, 0)), .ptr (some (40, 0)), .ptr (some (59, 0)), .int .u32 1] 0 .yes),
  (109, .cells (by8 [1] ++ (nul 799)) 1 (.of 5)),
  (111, .cells [.ptr (some (60, 0)), .int .u32 1, .int .i64 0, .int .i64 0, .int .i64 0, .int .i64 0] 0 .yes),
  (113, .cells [.ptr (some (25, 0)), .ptr (some (111, 0))] 0 .yes),
  (249, .cells [.int .i64 20, .int .i64 800, .int .i64 8, .int .i64 8, .int .i64 16, .int .i64 16, .int .i64 24, .int .i64 3, .ptr (some (113, 0)), .bool true, .int .u64 0, .int .u64 0, .int .u64 0, .int .u64 0] 0 .yes)],
 v := .int .i64 0, nout := 625, ldel := [],
 lset := [(38, .cells [.int .u32 0, .slice none 0 (some 0), .bool false, .int .i64 0, .int .u32 0, .slice none 0 (some 0), .bool false, .int .i64 0, .int .u32 0, .slice none 0 (some 0), .bool false, .int .i64 0, .int .u32 0, .slice none 0 (some 0), .bool false, .int .i64 0, .int .u32 0, .slice none 0 (some 0), .bool false, .int .i64 0, .int .u32 0, .slice none 0 (some 0), .bool false, .int .i64 0, .int .u32 0, .slice none 0 (some 0), .bool false, .int .i64 0, .int .u32 1, .slice (some (616, 0)) 800 none, .bool true, .int .i64 1] 0 .yes),
  (111, .cells [.ptr (some (60, 0)), .int .u32 1, .int .i64 0, .int .i64 1, .int .i64 0, .int .i64 0] 0 .yes),
  (616, .cells (by8 [1, 0, 0, 1, 0, 0, 0, 0, 17, 0, 0, 1, 0, 0, 0, 0, 0, 0, 0, 2, 2, 120, 0, 1, 2, 97, 0, 1] ++ (nul 772)) 1 (.of 5))] }

noncomputable def hk7F (args : List AV) (M : AMem) : Option (AV × AMem) := match hk6 28 with
  | some h => h args M
  | none => acall Tryz.prog hk6 1000 28 args M

noncomputable def hk7 : Hook := fun f => match f with
  | 28 => some (cutAt [cut7] hk7F)
  | _ => hk6 f

def cut8 : Cut := {
 args := [.agg [.int .i64 20, .int .i64 800, .int .i64 8, .int .i64 8, .int .i64 16, .int .i64 16, .int .i64 24, .int .i64 3], .slice (some (666, 0)) 800 none], nin := 667,
 lin := [(3, .ro (by8 [0, 1, 56, 2, 57, 49, 28, 3, 61, 58, 42, 50, 38, 29, 17, 4, 62, 47, 59, 36, 45, 43, 51, 22, 53, 39, 33, 30, 24, 18, 12, 5, 63, 55, 48, 27, 60, 41, 37, 16, 46, 35, 44, 21, 52, 32, 23, 11, 54, 26, 40, 15, 34, 20, 31, 10, 25, 14, 19, 9, 13, 8, 7, 6])),
  (666, .cells (by8 [1, 0, 0, 1, 0, 0, 0, 0, 17, 0, 0, 1, 0, 0, 0, 0, 0, 0, 0, 2, 2, 120, 0, 1, 2, 97, 0, 1] ++ (nul 772)) 1 (.of 5))],
 v := .tup [.agg [.int .i64 0, .slice none 0 (some 0), .slice none 0 (some 0), .slice none 0 (some 0), .slice (some (696, 0)) 1 none], .int .i64 0], nout := 755, ldel := [],
 lset := [(696, .cells [.str [1, 0, 0, 0, 0, 0, 0, 0, 2, 2, 120, 0, 1, 2, 97, 0, 1], .str []] 2 .yes)] }

noncomputable def hk8F (args : List AV) (M : AMem) : Option (AV × AMem) := match hk7 146 with
  | some h => h args M
  | none => acall Tryz.prog hk7 1000 146 args M

noncomputable def hk8 : Hook := fun f => match f with
  | 146 => some (cutAt [cut8] hk8F)
  | _ => hk7 f

def cut9 : Cut := {
 args := [.ptr (some (60, 0)), .int .u32 1, .agg [.int .i64 0, .slice none 0 (some 0), .slice none 0 (some 0), .slice none 0 (some 0), .slice (some (767, 0)) 2 none]], nin := 768,
 lin := [(3, .ro (by8 [0, 1, 56, 2, 57, 49, 28, 3, 61, 58, 42, 50, 38, 29, 17, 4, 62, 47, 59, 36, 45, 43, 51, 22, 53, 39, 33, 30, 24, 18, 12, 5, 63, 55, 48, 27, 60, 41, 37, 16, 46, 35, 44, 21, 52, 32, 23, 11, 54, 26, 40, 15, 34, 20, 31, 10, 25, 14, 19, 9, 13, 8, 7, 6])),
  (24, .cells (by8 [83, 76, 85, 73, 67, 69, 48, 49, 0, 0, 0, 20, 0, 0, 3, 32, 0, 0, 0, 8, 0, 0, 0, 8, 0, 0, 0, 16, 0, 0, 0, 16, 0, 0, 0, 24, 0, 0, 0, 3, 0, 0, 0, 1, 0, 0, 0, 1, 0, 0, 0, 0, 0, 0, 0, 0, 0, 0, 0, 0, 141, 122, 2, 171] ++ (nul 736 ++ (by8 [1] ++ (nul 15199)))) 0 .yes),
  (25, .cells [.int .i64 800, .slice (some (24, 0)) 16000 (some 16000), .int .u64 0, .int .u64 2] 0 .yes),
  (36, .cells [.int .i64 0, .int .i64 0, .bool false, .int .i64 0, .int .i64 0, .bool false, .int .i64 0, .int .i64 0, .bool false, .int .i64 0, .int .i64 0, .bool false, .int .i64 0, .int .i64 0, .bool false, .int .i64 0, .int .i64 0, .bool false, .int .i64 0, .int .i64 0, .bool false, .int .i64 0, .int .i64 0, .bool false, .int .i64 8, .int .i64 8, .bool false] 0 .yes),
  (37, .cells [.slice (some (36, 0)) 9 (some 9), .int .i64 0] 0 .yes),
  (38, .cells [.int .u32 0, .slice none 0 (some 0), .bool false, .int .i64 0, .int .u32 0, .slice none 0 (some 0), .bool false, .int .i64 0, .int .u32 0, .slice none 0 (some 0), .bool false, .int .i64 0, .int .u32 0, .slice none 0 (some 0), .bool false, .int .i64 0, .int .u32 0, .slice none 0 (some 0), .bool false, .int .i64 0, .int .u32 0, .slice none 0 (some 0), .bool false, .int .i64 0, .int .u32 0, .slice none 0 (some 0), .bool false, .int .i64 0, .int .u32 1, .slice (some (616, 0)) 800 none, .bool true, .int .i64 1] 0 .yes),
  (39, .map [(.int .u32 1, .int .i64 7, 0)] 1),
  (40, .cells [.ptr (some (25, 0)), .slice (some (38, 0)) 8 (some 8), .map (some 39), .slice (some (56, 0)) 7 none, .ptr (some (37, 0))] 0 .yes),
  (56, .cells [.int .i64 0, .int .i64 1, .int .i64 2, .int .i64 3, .int .i64 4, .int .i64 5, .int .i64 6, .int .i64 7] 1 .yes),
  (57, .cells [.int .u64 3] 0 .yes),
  (58, .cells [.int .i64 20, .int .i64 2, .slice (some (57, 0)) 1 (some 1)] 0 .yes),
  (59, .cells [.ptr (some (58, 0))] 0 .yes),
  (60, .cells [.int .i64 20, .int .i64 800, .int .i64 8, .int .i64 8, .int .i64 16, .int .i64 16, .int .i64 24, .int .i64 3, .ptr (some (25, 0)), .ptr (some (40, 0)), .ptr (some (59, 0)), .int .u32 1] 0 .yes),
  (616, .cells (by8 [1, 0, 0, 1, 0, 0, 0, 0, 17, 0, 0, 1, 0, 0, 0, 0, 0, 0, 0, 2, 2, 120, 0, 1, 2, 97, 0, 1] ++ (nul 772)) 1 (.of 5)),
  (767, .cells [.str [1, 0, 0, 0, 0, 0, 0, 0, 1, 2, 97, 0, 1], .str [120], .str [1, 0, 0, 0, 0, 0, 0, 0, 2, 2, 120, 0, 1, 2, 97, 0, 1], .str []] 2 .yes)],
 v := .int .i64 0, nout := 846, ldel := [],
 lset := [(38, .cells [.int .u32 0, .slice none 0 (some 0), .bool false, .int .i64 0, .int .u32 0, .slice none 0 (some 0), .bool false, .int .i64 0, .int .u32 0, .slice none 0 (some 0), .bool false, .int .i64 0, .int .u32 0, .slice none 0 (some 0), .bool false, .int .i64 0, .int .u32 0, .slice none 0 (some 0), .bool false, .int .i64 0, .int .u32 0, .slice none 0 (some 0), .bool false, .int .i64 0, .int .u32 0, .slice none 0 (some 0), .bool false, .int .i64 0, .int .u32 1, .slice (some (845, 0)) 800 none, .bool true, .int .i64 1] 0 .yes),
  (845, .cells (by8 [1, 0, 0, 2, 0, 0, 0, 0, 13, 0, 1, 1, 0, 0, 0, 0, 0, 0, 0, 1, 2, 97, 0, 1, 0, 0, 0, 0, 0, 0, 0, 0, 0, 0, 0, 120, 0, 0, 17, 0, 0, 1, 0, 0, 0, 0, 0, 0, 0, 2, 2, 120, 0, 1, 2, 97, 0, 1] ++ (nul 742)) 1 (.of 5))] }

noncomputable def hk9F (args : List AV) (M : AMem) : Option (AV × AMem) := match hk8 148 with
  | some h => h args M
  | none => acall Tryz.prog hk8 1000 148 args M

noncomputable def hk9 : Hook := fun f => match f with
  | 148 => some (cutAt [cut9] hk9F)
  | _ => hk8 f

def cut10 : Cut := {
 args := [.ptr (some (111, 0)), .agg [.str [1, 0, 0, 0, 0, 0, 0, 0, 1, 2, 97, 0, 1], .bool false, .str [120]]], nin := 658,
 lin := [(3, .ro (by8 [0, 1, 56, 2, 57, 49, 28, 3, 61, 58, 42, 50, 38, 29, 17, 4, 62, 47, 59, 36, 45, 43, 51, 22, 53, 39, 33, 30, 24, 18, 12, 5, 63, 55, 48, 27, 60, 41, 37, 16, 46, 35, 44, 21, 52, 32, 23, 11, 54, 26, 40, 15, 34, 20, 31, 10, 25, 14, 19, 9, 13, 8, 7, 6])),
  (24, .cells (by8 [83, 76, 85, 73, 67, 69, 48, 49, 0, 0, 0, 20, 0, 0, 3, 32, 0, 0, 0, 8, 0, 0, 0, 8, 0, 0, 0, 16, 0, 0, 0, 16, 0, 0, 0, 24, 0, 0, 0, 3, 0, 0, 0, 1, 0, 0, 0, 1, 0, 0, 0, 0, 0, 0, 0, 0, 0, 0, 0, 0, 141, 122, 2, 171] ++ (nul 736 ++ (by8 [1] ++ (nul 15199)))) 0 .yes),
  (25, .cells [.int .i64 800, .slice (some (24, 0)) 16000 (some 16000), .int .u64 0, .int .u64 2] 0 .yes),
  (36, .cells [.int .i64 0, .int .i64 0, .bool false, .int .i64 0, .int .i64 0, .bool false, .int .i64 0, .int .i64 0, .bool false, .int .i64 0, .int .i64 0, .bool false, .int .i64 0, .int .i64 0, .bool false, .int .i64 0, .int .i64 0, .bool false, .int .i64 0, .int .i64 0, .bool false, .int .i64 0, .int .i64 0, .bool false, .int .i64 8, .int .i64 8, .bool false] 0 .yes),
  (37, .cells [.slice (some (36, 0)) 9 (some 9), .int .i64 0] 0 .yes),
  (38, .cells [.int .u32 0, .slice none 0 (some 0), .bool false, .int .i64 0, .int .u32 0, .slice none 0 (some 0), .bool false, .int .i64 0, .int .u32 0, .slice none 0 (some 0), .bool false, .int .i64 0, .int .u32 0, .slice none 0 (some 0), .bool false, .int .i64 0, .int .u32 0, .slice none 0 (some 0), .bool false, .int .i64 0, .int .u32 0, .slice none 0 (some 0), .bool false, .int .i64 0, .int .u32 0, .slice none 0 (some 0), .bool false, .int .i64 0, .int .u32 1, .slice (some (616, 0)) 800 none, .bool true, .int .i64 1] 0 .yes),
  (39, .map [(.int .u32 1, .int .i64 7, 0)] 1),
  (40, .cells [.ptr (some (25, 0)), .slice (some (38, 0)) 8 (some 8), .map (some 39), .slice (some (56, 0)) 7 none, .ptr (some (37, 0))] 0 .yes),
  (56, .cells [.int .i64 0, .int .i64 1, .int .i64 2, .int .i64 3, .int .i64 4, .int .i64 5, .int .i64 6, .int .i64 7] 1 .yes),
  (57, .cells [.int .u64 3] 0 .yes),
  (58, .cells [.int .i64 20, .int .i64 2, .slice (some (57, 0)) 1 (some 1)] 0 .yes),
  (59, .cells [.ptr (some (58, 0))] 0 .yes),
  (60, .cells [.int .i64 20, .int .i64 800, .int .i64 8, .int .i64 8, .int .i64 16, .int .i64 16, .int .i64 24, .int .i64 3, .ptr (some (25, 0)), .ptr (some (40, 0)), .ptr (some (59, 0)), .int .u32 1] 0 .yes),
  (111, .cells [.ptr (some (60, 0)), .int .u32 1, .int .i64 0, .int .i64 1, .int .i64 0, .int .i64 0] 0 .yes),
  (616, .cells (by8 [1, 0, 0, 1, 0, 0, 0, 0, 17, 0, 0, 1, 0, 0, 0, 0, 0, 0, 0, 2, 2, 120, 0, 1, 2, 97, 0, 1] ++ (nul 772)) 1 (.of 5))],
 v := .int .i64 0, nout := 847, ldel := [],
 lset := [(38, .cells [.int .u32 0, .slice none 0 (some 0), .bool false, .int .i64 0, .int .u32 0, .slice none 0 (some 0), .bool false, .int .i64 0, .int .u32 0, .slice none 0 (some 0), .bool false, .int .i64 0, .int .u32 0, .slice none 0 (some 0), .bool false, .int .i64 0, .int .u32 0, .slice none 0 (some 0), .bool false, .int .i64 0, .int .u32 0, .slice none 0 (some 0), .bool false, .int .i64 0, .int .u32 0, .slice none 0 (some 0), .bool false, .int .i64 0, .int .u32 1, .slice (some (845, 0)) 800 none, .bool true, .int .i64 1] 0 .yes),
  (111, .cells [.ptr (some (60, 0)), .int .u32 1, .int .i64 0, .int .i64 2, .int .i64 0, .int .i64 0] 0 .yes),
  (845, .cells (by8 [1, 0, 0, 2, 0, 0, 0, 0, 13, 0, 1, 1, 0, 0, 0, 0, 0, 0, 0, 1, 2, 97, 0, 1, 0, 0, 0, 0, 0, 0, 0, 0, 0, 0, 0, 120, 0, 0, 17, 0, 0, 1, 0, 0, 0, 0, 0, 0, 0, 2, 2, 120, 0, 1, 2, 97, 0, 1] ++ (nul 742)) 1 (.of 5))] }

noncomputable def hk10F (args : List AV) (M : AMem) : Option (AV × AMem) := match hk9 76 with
  | some h => h args M
  | none => acall Tryz.prog hk9 1000 76 args M

noncomputable def hk10 : Hook := fun f => match f with
  | 76 => some (cutAt [cut10] hk10F)
  | _ => hk9 f

def cut11 : Cut := {
 args := [.ptr (some (249, 0)), .str [1, 0, 0, 0, 0, 0, 0, 0, 1, 2, 97, 0, 1], .str [120]], nin := 653,
 lin := [(3, .ro (by8 [0, 1, 56, 2, 57, 49, 28, 3, 61, 58, 42, 50, 38, 29, 17, 4, 62, 47, 59, 36, 45, 43, 51, 22, 53, 39, 33, 30, 24, 18, 12, 5, 63, 55, 48, 27, 60, 41, 37, 16, 46, 35, 44, 21, 52, 32, 23, 11, 54, 26, 40, 15, 34, 20, 31, 10, 25, 14, 19, 9, 13, 8, 7, 6])),
  (24, .cells (by8 [83, 76, 85, 73, 67, 69, 48, 49, 0, 0, 0, 20, 0, 0, 3, 32, 0, 0, 0, 8, 0, 0, 0, 8, 0, 0, 0, 16, 0, 0, 0, 16, 0, 0, 0, 24, 0, 0, 0, 3, 0, 0, 0, 1, 0, 0, 0, 1, 0, 0, 0, 0, 0, 0, 0, 0, 0, 0, 0, 0, 141, 122, 2, 171] ++ (nul 736 ++ (by8 [1] ++ (nul 15199)))) 0 .yes),
  (25, .cells [.int .i64 800, .slice (some (24, 0)) 16000 (some 16000), .int .u64 0, .int .u64 2] 0 .yes),
  (36, .cells [.int .i64 0, .int .i64 0, .bool false, .int .i64 0, .int .i64 0, .bool false, .int .i64 0, .int .i64 0, .bool false, .int .i64 0, .int .i64 0, .bool false, .int .i64 0, .int .i64 0, .bool false, .int .i64 0, .int .i64 0, .bool false, .int .i64 0, .int .i64 0, .bool false, .int .i64 0, .int .i64 0, .bool false, .int .i64 8, .int .i64 8, .bool false] 0 .yes),
  (37, .cells [.slice (some (36, 0)) 9 (some 9), .int .i64 0] 0 .yes),
  (38, .cells [.int .u32 0, .slice none 0 (some 0), .bool false, .int .i64 0, .int .u32 0, .slice none 0 (some 0), .bool false, .int .i64 0, .int .u32 0, .slice none 0 (some 0), .bool false, .int .i64 0, .int .u32 0, .slice none 0 (some 0), .bool false, .int .i64 0, .int .u32 0, .slice none 0 (some 0), .bool false, .int .i64 0, .int .u32 0, .slice none 0 (some 0), .bool false, .int .i64 0, .int .u32 0, .slice none 0 (some 0), .bool false, .int .i64 0, .int .u32 1, .slice (some (616, 0)) 800 none, .bool true, .int .i64 1] 0 .yes),
  (39, .map [(.int .u32 1, .int .i64 7, 0)] 1),
  (40, .cells [.ptr (some (25, 0)), .slice (some (38, 0)) 8 (some 8), .map (some 39), .slice (some (56, 0)) 7 none, .ptr (some (37, 0))] 0 .yes),
  (56, .cells [.int .i64 0, .int .i64 1, .int .i64 2, .int .i64 3, .int .i64 4, .int .i64 5, .int .i64 6, .int .i64 7] 1 .yes),
  (57, .cells [.int .u64 3] 0 .yes),
  (58, .cells [.int .i64 20, .int .i64 2, .slice (some (57, 0)) 1 (some 1)] 0 .yes),
  (59, .cells [.ptr (some (58, 0))] 0 .yes),
  (60, .cells [.int .i64 20, .int .i64 800, .int .i64 8, .int .i64 8, .int .i64 16, .int .i64 16, .int .i64 24, .int .i64 3, .ptr (some (25, 0)), .ptr (some (40, 0)), .ptr (some (59, 0)), .int .u32 1] 0 .yes),
  (111, .cells [.ptr (some (60, 0)), .int .u32 1, .int .i64 0, .int .i64 1, .int .i64 0, .int .i64 0] 0 .yes),
  (113, .cells [.ptr (some (25, 0)), .ptr (some (111, 0))] 0 .yes),
  (249, .cells [.int .i64 20, .int .i64 800, .int .i64 8, .int .i64 8, .int .i64 16, .int .i64 16, .int .i64 24, .int .i64 3, .ptr (some (113, 0)), .bool true, .int .u64 0, .int .u64 0, .int .u64 0, .int .u64 0] 0 .yes),
  (616, .cells (by8 [1, 0, 0, 1, 0, 0, 0, 0, 17, 0, 0, 1, 0, 0, 0, 0, 0, 0, 0, 2, 2, 120, 0, 1, 2, 97, 0, 1] ++ (nul 772)) 1 (.of 5))],
 v := .int .i64 0, nout := 854, ldel := [],
 lset := [(38, .cells [.int .u32 0, .slice none 0 (some 0), .bool false, .int .i64 0, .int .u32 0, .slice none 0 (some 0), .bool false, .int .i64 0, .int .u32 0, .slice none 0 (some 0), .bool false, .int .i64 0, .int .u32 0, .slice none 0 (some 0), .bool false, .int .i64 0, .int .u32 0, .slice none 0 (some 0), .bool false, .int .i64 0, .int .u32 0, .slice none 0 (some 0), .bool false, .int .i64 0, .int .u32 0, .slice none 0 (some 0), .bool false, .int .i64 0, .int .u32 1, .slice (some (845, 0)) 800 none, .bool true, .int .i64 1] 0 .yes),
  (111, .cells [.ptr (some (60, 0)), .int .u32 1, .int .i64 0, .int .i64 2, .int .i64 0, .int .i64 0] 0 .yes),
  (845, .cells (by8 [1, 0, 0, 2, 0, 0, 0, 0, 13, 0, 1, 1, 0, 0, 0, 0, 0, 0, 0, 1, 2, 97, 0, 1, 0, 0, 0, 0, 0, 0, 0, 0, 0, 0, 0, 120, 0, 0, 17, 0, 0, 1, 0, 0, 0, 0, 0, 0, 0, 2, 2, 120, 0, 1, 2, 97, 0, 1] ++ (nul 742)) 1 (.of 5))] }

noncomputable def hk11F (args : List AV) (M : AMem) : Option (AV × AMem) := match hk10 28 with
  | some h => h args M
  | none => acall Tryz.prog hk10 1000 28 args M

noncomputable def hk11 : Hook := fun f => match f with
  | 28 => some (cutAt [cut11] hk11F)
  | _ => hk10 f

def cut12 : Cut := {
 args := [.ptr (some (250, 0)), .str [97], .str [120]], nin := 251,
 lin := [(3, .ro (by8 [0, 1, 56, 2, 57, 49, 28, 3, 61, 58, 42, 50, 38, 29, 17, 4, 62, 47, 59, 36, 45, 43, 51, 22, 53, 39, 33, 30, 24, 18, 12, 5, 63, 55, 48, 27, 60, 41, 37, 16, 46, 35, 44, 21, 52, 32, 23, 11, 54, 26, 40, 15, 34, 20, 31, 10, 25, 14, 19, 9, 13, 8, 7, 6])),
  (24, .cells (by8 [83, 76, 85, 73, 67, 69, 48, 49, 0, 0, 0, 20, 0, 0, 3, 32, 0, 0, 0, 8, 0, 0, 0, 8, 0, 0, 0, 16, 0, 0, 0, 16, 0, 0, 0, 24, 0, 0, 0, 3, 0, 0, 0, 1, 0, 0, 0, 1, 0, 0, 0, 0, 0, 0, 0, 0, 0, 0, 0, 0, 141, 122, 2, 171] ++ (nul 736 ++ (by8 [1] ++ (nul 15199)))) 0 .yes),
  (25, .cells [.int .i64 800, .slice (some (24, 0)) 16000 (some 16000), .int .u64 0, .int .u64 2] 0 .yes),
  (36, .cells [.int .i64 0, .int .i64 0, .bool false, .int .i64 0, .int .i64 0, .bool false, .int .i64 0, .int .i64 0, .bool false, .int .i64 0, .int .i64 0, .bool false, .int .i64 0, .int .i64 0, .bool false, .int .i64 0, .int .i64 0, .bool false, .int .i64 0, .int .i64 0, .bool false, .int .i64 0, .int .i64 0, .bool false, .int .i64 8, .int .i64 8, .bool false] 0 .yes),
  (37, .cells [.slice (some (36, 0)) 9 (some 9), .int .i64 0] 0 .yes),
  (38, .cells [.int .u32 0, .slice none 0 (some 0), .bool false, .int .i64 0, .int .u32 0, .slice none 0 (some 0), .bool false, .int .i64 0, .int .u32 0, .slice none 0 (some 0), .bool false, .int .i64 0, .int .u32 0, .slice none 0 (some 0), .bool false, .int .i64 0, .int .u32 0, .slice none 0 (some 0), .bool false, .int .i64 0, .int .u32 0, .slice none 0 (some 0), .bool false, .int .i64 0, .int .u32 0, .slice none 0 (some 0), .bool false, .int .i64 0, .int .u32 1, .slice (some (109, 0)) 800 none, .bool false, .int .i64 1] 0 .yes),
  (39, .map [(.int .u32 1, .int .i64 7, 0)] 1),
  (40, .cells [.ptr (some (25, 0)), .slice (some (38, 0)) 8 (some 8), .map (some 39), .slice (some (56, 0)) 7 none, .ptr (some (37, 0))] 0 .yes),
  (56, .cells [.int .i64 0, .int .i64 1, .int .i64 2, .int .i64 3, .int .i64 4, .int .i64 5, .int .i64 6, .int .i64 7] 1 .yes),
  (57, .cells [.int .u64 3] 0 .yes),
  (58, .cells [.int .i64 20, .int .i64 2, .slice (some (57, 0)) 1 (some 1)] 0 .yes),
  (59, .cells [.ptr (some (58, 0))] 0 .yes),
  (60, .cells [.int .i64 20, .int .i64 800, .int .i64 8, .int .i64 8, .int .i64 16, .int .i64 16, .int .i64 24, .int .i64 3, .ptr (some (25, 0)), .ptr (some (40, 0)), .ptr (some (59, 0)), .int .u32 1] 0 .yes),
  (109, .cells (by8 [1] ++ (nul 799)) 1 (.of 5)),
  (111, .cells [.ptr (some (60, 0)), .int .u32 1, .int .i64 0, .int .i64 0, .int .i64 0, .int .i64 0] 0 .yes),
  (113, .cells [.ptr (some (25, 0)), .ptr (some (111, 0))] 0 .yes),
  (249, .cells [.int .i64 20, .int .i64 800, .int .i64 8, .int .i64 8, .int .i64 16, .int .i64 16, .int .i64 24, .int .i64 3, .ptr (some (113, 0)), .bool true, .int .u64 0, .int .u64 0, .int .u64 0, .int .u64 0] 0 .yes),
  (250, .cells [.ptr (some (249, 0))] 0 .yes)],
 v := .int .i64 0, nout := 854, ldel := [],
 lset := [(38, .cells [.int .u32 0, .slice none 0 (some 0), .bool false, .int .i64 0, .int .u32 0, .slice none 0 (some 0), .bool false, .int .i64 0, .int .u32 0, .slice none 0 (some 0), .bool false, .int .i64 0, .int .u32 0, .slice none 0 (some 0), .bool false, .int .i64 0, .int .u32 0, .slice none 0 (some 0), .bool false, .int .i64 0, .int .u32 0, .slice none 0 (some 0), .bool false, .int .i64 0, .int .u32 0, .slice none 0 (some 0), .bool false, .int .i64 0, .int .u32 1, .slice (some (845, 0)) 800 none, .bool true, .int .i64 1] 0 .yes),
  (111, .cells [.ptr (some (60, 0)), .int .u32 1, .int .i64 0, .int .i64 2, .int .i64 0, .int .i64 0] 0 .yes),
  (845, .cells (by8 [1, 0, 0, 2, 0, 0, 0, 0, 13, 0, 1, 1, 0, 0, 0, 0, 0, 0, 0, 1, 2, 97, 0, 1, 0, 0, 0, 0, 0, 0, 0, 0, 0, 0, 0, 120, 0, 0, 17, 0, 0, 1, 0, 0, 0, 0, 0, 0, 0, 2, 2, 120, 0, 1, 2, 97, 0, 1] ++ (nul 742)) 1 (.of 5))] }

noncomputable def hk12F (args : List AV) (M : AMem) : Option (AV × AMem) := match hk11 9 with
  | some h => h args M
  | none => acall Tryz.prog hk11 1000 9 args M

noncomputable def hk12 : Hook := fun f => match f with
  | 9 => some (cutAt [cut12] hk12F)
  | _ => hk11 f

def cut13 : Cut := {
 args := [.agg [.int .i64 20, .int .i64 800, .int .i64 8, .int .i64 8, .int .i64 16, .int .i64 16, .int .i64 24, .int .i64 3], .slice (some (958, 0)) 800 none], nin := 959,
 lin := [(3, .ro (by8 [0, 1, 56, 2, 57, 49, 28, 3, 61, 58, 42, 50, 38, 29, 17, 4, 62, 47, 59, 36, 45, 43, 51, 22, 53, 39, 33, 30, 24, 18, 12, 5, 63, 55, 48, 27, 60, 41, 37, 16, 46, 35, 44, 21, 52, 32, 23, 11, 54, 26, 40, 15, 34, 20, 31, 10, 25, 14, 19, 9, 13, 8, 7, 6])),
  (958, .cells (by8 [1, 0, 0, 2, 0, 0, 0, 0, 13, 0, 1, 1, 0, 0, 0, 0, 0, 0, 0, 1, 2, 97, 0, 1, 0, 0, 0, 0, 0, 0, 0, 0, 0, 0, 0, 120, 0, 0, 17, 0, 0, 1, 0, 0, 0, 0, 0, 0, 0, 2, 2, 120, 0, 1, 2, 97, 0, 1] ++ (nul 742)) 1 (.of 5))],
 v := .tup [.agg [.int .i64 0, .slice none 0 (some 0), .slice none 0 (some 0), .slice none 0 (some 0), .slice (some (995, 0)) 2 none], .int .i64 0], nout := 1071, ldel := [],
 lset := [(995, .cells [.str [1, 0, 0, 0, 0, 0, 0, 0, 1, 2, 97, 0, 1], .str [120], .str [1, 0, 0, 0, 0, 0, 0, 0, 2, 2, 120, 0, 1, 2, 97, 0, 1], .str []] 2 .yes)] }

noncomputable def hk13F (args : List AV) (M : AMem) : Option (AV × AMem) := match hk12 146 with
  | some h => h args M
  | none => acall Tryz.prog hk12 1000 146 args M

noncomputable def hk13 : Hook := fun f => match f with
  | 146 => some (cutAt [cut13] hk13F)
  | _ => hk12 f

def cut14 : Cut := {
 args := [.ptr (some (250, 0)), .str [98]], nin := 920,
 lin := [(3, .ro (by8 [0, 1, 56, 2, 57, 49, 28, 3, 61, 58, 42, 50, 38, 29, 17, 4, 62, 47, 59, 36, 45, 43, 51, 22, 53, 39, 33, 30, 24, 18, 12, 5, 63, 55, 48, 27, 60, 41, 37, 16, 46, 35, 44, 21, 52, 32, 23, 11, 54, 26, 40, 15, 34, 20, 31, 10, 25, 14, 19, 9, 13, 8, 7, 6])),
  (24, .cells (by8 [83, 76, 85, 73, 67, 69, 48, 49, 0, 0, 0, 20, 0, 0, 3, 32, 0, 0, 0, 8, 0, 0, 0, 8, 0, 0, 0, 16, 0, 0, 0, 16, 0, 0, 0, 24, 0, 0, 0, 3, 0, 0, 0, 1, 0, 0, 0, 1, 0, 0, 0, 0, 0, 0, 0, 0, 0, 0, 0, 0, 141, 122, 2, 171] ++ (nul 736 ++ (by8 [1] ++ (nul 15199)))) 0 .yes),
  (25, .cells [.int .i64 800, .slice (some (24, 0)) 16000 (some 16000), .int .u64 0, .int .u64 2] 0 .yes),
  (36, .cells [.int .i64 0, .int .i64 0, .bool false, .int .i64 0, .int .i64 0, .bool false, .int .i64 0, .int .i64 0, .bool false, .int .i64 0, .int .i64 0, .bool false, .int .i64 0, .int .i64 0, .bool false, .int .i64 0, .int .i64 0, .bool false, .int .i64 0, .int .i64 0, .bool false, .int .i64 0, .int .i64 0, .bool false, .int .i64 8, .int .i64 8, .bool false] 0 .yes),
  (37, .cells [.slice (some (36, 0)) 9 (some 9), .int .i64 0] 0 .yes),
  (38, .cells [.int .u32 0, .slice none 0 (some 0), .bool false, .int .i64 0, .int .u32 0, .slice none 0 (some 0), .bool false, .int .i64 0, .int .u32 0, .slice none 0 (some 0), .bool false, .int .i64 0, .int .u32 0, .slice none 0 (some 0), .bool false, .int .i64 0, .int .u32 0, .slice none 0 (some 0), .bool false, .int .i64 0, .int .u32 0, .slice none 0 (some 0), .bool false, .int .i64 0, .int .u32 0, .slice none 0 (some 0), .bool false, .int .i64 0, .int .u32 1, .slice (some (845, 0)) 800 none, .bool true, .int .i64 1] 0 .yes),
  (39, .map [(.int .u32 1, .int .i64 7, 0)] 1),
  (40, .cells [.ptr (some (25, 0)), .slice (some (38, 0)) 8 (some 8), .map (some 39), .slice (some (56, 0)) 7 none, .ptr (some (37, 0))] 0 .yes),
  (56, .cells [.int .i64 0, .int .i64 1, .int .i64 2, .int .i64 3, .int .i64 4, .int .i64 5, .int .i64 6, .int .i64 7] 1 .yes),
  (57, .cells [.int .u64 3] 0 .yes),
  (58, .cells [.int .i64 20, .int .i64 2, .slice (some (57, 0)) 1 (some 1)] 0 .yes),
  (59, .cells [.ptr (some (58, 0))] 0 .yes),
  (60, .cells [.int .i64 20, .int .i64 800, .int .i64 8, .int .i64 8, .int .i64 16, .int .i64 16, .int .i64 24, .int .i64 3, .ptr (some (25, 0)), .ptr (some (40, 0)), .ptr (some (59, 0)), .int .u32 1] 0 .yes),
  (111, .cells [.ptr (some (60, 0)), .int .u32 1, .int .i64 0, .int .i64 2, .int .i64 0, .int .i64 0] 0 .yes),
  (113, .cells [.ptr (some (25, 0)), .ptr (some (111, 0))] 0 .yes),
  (249, .cells [.int .i64 20, .int .i64 800, .int .i64 8, .int .i64 8, .int .i64 16, .int .i64 16, .int .i64 24, .int .i64 3, .ptr (some (113, 0)), .bool true, .int .u64 0, .int .u64 0, .int .u64 0, .int .u64 0] 0 .yes),
  (250, .cells [.ptr (some (249, 0))] 0 .yes),
  (845, .cells (by8 [1, 0, 0, 2, 0, 0, 0, 0, 13, 0, 1, 1, 0, 0, 0, 0, 0, 0, 0, 1, 2, 97, 0, 1, 0, 0, 0, 0, 0, 0, 0, 0, 0, 0, 0, 120, 0, 0, 17, 0, 0, 1, 0, 0, 0, 0, 0, 0, 0, 2, 2, 120, 0, 1, 2, 97, 0, 1] ++ (nul 742)) 1 (.of 5))],
 v := .tup [.str [], .int .i64 9], nout := 1087, ldel := [],
 lset := [] }

noncomputable def hk14F (args : List AV) (M : AMem) : Option (AV × AMem) := match hk13 4 with
  | some h => h args M
  | none => acall Tryz.prog hk13 1000 4 args M

noncomputable def hk14 : Hook := fun f => match f with
  | 4 => some (cutAt [cut14] hk14F)
  | _ => hk13 f

def cut15 : Cut := {
 args := [.agg [.int .i64 20, .int .i64 800, .int .i64 8, .int .i64 8, .int .i64 16, .int .i64 16, .int .i64 24, .int .i64 3], .slice (some (1134, 0)) 800 none], nin := 1135,
 lin := [(3, .ro (by8 [0, 1, 56, 2, 57, 49, 28, 3, 61, 58, 42, 50, 38, 29, 17, 4, 62, 47, 59, 36, 45, 43, 51, 22, 53, 39, 33, 30, 24, 18, 12, 5, 63, 55, 48, 27, 60, 41, 37, 16, 46, 35, 44, 21, 52, 32, 23, 11, 54, 26, 40, 15, 34, 20, 31, 10, 25, 14, 19, 9, 13, 8, 7, 6])),
  (1134, .cells (by8 [1, 0, 0, 2, 0, 0, 0, 0, 13, 0, 1, 1, 0, 0, 0, 0, 0, 0, 0, 1, 2, 97, 0, 1, 0, 0, 0, 0, 0, 0, 0, 0, 0, 0, 0, 120, 0, 0, 17, 0, 0, 1, 0, 0, 0, 0, 0, 0, 0, 2, 2, 120, 0, 1, 2, 97, 0, 1] ++ (nul 742)) 1 (.of 5))],
 v := .tup [.agg [.int .i64 0, .slice none 0 (some 0), .slice none 0 (some 0), .slice none 0 (some 0), .slice (some (1171, 0)) 2 none], .int .i64 0], nout := 1247, ldel := [],
 lset := [(1171, .cells [.str [1, 0, 0, 0, 0, 0, 0, 0, 1, 2, 97, 0, 1], .str [120], .str [1, 0, 0, 0, 0, 0, 0, 0, 2, 2, 120, 0, 1, 2, 97, 0, 1], .str []] 2 .yes)] }

noncomputable def hk15F (args : List AV) (M : AMem) : Option (AV × AMem) := match hk14 146 with
  | some h => h args M
  | none => acall Tryz.prog hk14 1000 146 args M

noncomputable def hk15 : Hook := fun f => match f with
  | 146 => some (cutAt [cut15] hk15F)
  | _ => hk14 f

def cut16 : Cut := {
 args := [.ptr (some (60, 0)), .int .u32 1, .agg [.int .i64 0, .slice none 0 (some 0), .slice none 0 (some 0), .slice none 0 (some 0), .slice (some (1258, 0)) 3 none]], nin := 1259,
 lin := [(3, .ro (by8 [0, 1, 56, 2, 57, 49, 28, 3, 61, 58, 42, 50, 38, 29, 17, 4, 62, 47, 59, 36, 45, 43, 51, 22, 53, 39, 33, 30, 24, 18, 12, 5, 63, 55, 48, 27, 60, 41, 37, 16, 46, 35, 44, 21, 52, 32, 23, 11, 54, 26, 40, 15, 34, 20, 31, 10, 25, 14, 19, 9, 13, 8, 7, 6])),
  (24, .cells (by8 [83, 76, 85, 73, 67, 69, 48, 49, 0, 0, 0, 20, 0, 0, 3, 32, 0, 0, 0, 8, 0, 0, 0, 8, 0, 0, 0, 16, 0, 0, 0, 16, 0, 0, 0, 24, 0, 0, 0, 3, 0, 0, 0, 1, 0, 0, 0, 1, 0, 0, 0, 0, 0, 0, 0, 0, 0, 0, 0, 0, 141, 122, 2, 171] ++ (nul 736 ++ (by8 [1] ++ (nul 15199)))) 0 .yes),
  (25, .cells [.int .i64 800, .slice (some (24, 0)) 16000 (some 16000), .int .u64 0, .int .u64 2] 0 .yes),
  (36, .cells [.int .i64 0, .int .i64 0, .bool false, .int .i64 0, .int .i64 0, .bool false, .int .i64 0, .int .i64 0, .bool false, .int .i64 0, .int .i64 0, .bool false, .int .i64 0, .int .i64 0, .bool false, .int .i64 0, .int .i64 0, .bool false, .int .i64 0, .int .i64 0, .bool false, .int .i64 0, .int .i64 0, .bool false, .int .i64 8, .int .i64 8, .bool false] 0 .yes),
  (37, .cells [.slice (some (36, 0)) 9 (some 9), .int .i64 0] 0 .yes),
  (38, .cells [.int .u32 0, .slice none 0 (some 0), .bool false, .int .i64 0, .int .u32 0, .slice none 0 (some 0), .bool false, .int .i64 0, .int .u32 0, .slice none 0 (some 0), .bool false, .int .i64 0, .int .u32 0, .slice none 0 (some 0), .bool false, .int .i64 0, .int .u32 0, .slice none 0 (some 0), .bool false, .int .i64 0, .int .u32 0, .slice none 0 (some 0), .bool false, .int .i64 0, .int .u32 0, .slice none 0 (some 0), .bool false, .int .i64 0, .int .u32 1, .slice (some (845, 0)) 800 none, .bool true, .int .i64 1] 0 .yes),
  (39, .map [(.int .u32 1, .int .i64 7, 0)] 1),
  (40, .cells [.ptr (some (25, 0)), .slice (some (38, 0)) 8 (some 8), .map (some 39), .slice (some (56, 0)) 7 none, .ptr (some (37, 0))] 0 .yes),
  (56, .cells [.int .i64 0, .int .i64 1, .int .i64 2, .int .i64 3, .int .i64 4, .int .i64 5, .int .i64 6, .int .i64 7] 1 .yes),
  (57, .cells [.int .u64 3] 0 .yes),
  (58, .cells [.int .i64 20, .int .i64 2, .slice (some (57, 0)) 1 (some 1)] 0 .yes),
  (59, .cells [.ptr (some (58, 0))] 0 .yes),
  (60, .cells [.int .i64 20, .int .i64 800, .int .i64 8, .int .i64 8, .int .i64 16, .int .i64 16, .int .i64 24, .int .i64 3, .ptr (some (25, 0)), .ptr (some (40, 0)), .ptr (some (59, 0)), .int .u32 1] 0 .yes),
  (845, .cells (by8 [1, 0, 0, 2, 0, 0, 0, 0, 13, 0, 1, 1, 0, 0, 0, 0, 0, 0, 0, 1, 2, 97, 0, 1, 0, 0, 0, 0, 0, 0, 0, 0, 0, 0, 0, 120, 0, 0, 17, 0, 0, 1, 0, 0, 0, 0, 0, 0, 0, 2, 2, 120, 0, 1, 2, 97, 0, 1] ++ (nul 742)) 1 (.of 5)),
  (1258, .cells [.str [1, 0, 0, 0, 0, 0, 0, 0, 1, 2, 97, 0, 1], .str [120], .str [1, 0, 0, 0, 0, 0, 0, 0, 2, 2, 120, 0, 1, 2, 97, 0, 1], .str [], .str [1, 0, 0, 0, 0, 0, 0, 0, 2, 2, 120, 0, 1, 2, 98, 0, 1], .str []] 2 .yes)],
 v := .int .i64 0, nout := 1353, ldel := [],
 lset := [(38, .cells [.int .u32 0, .slice none 0 (some 0), .bool false, .int .i64 0, .int .u32 0, .slice none 0 (some 0), .bool false, .int .i64 0, .int .u32 0, .slice none 0 (some 0), .bool false, .int .i64 0, .int .u32 0, .slice none 0 (some 0), .bool false, .int .i64 0, .int .u32 0, .slice none 0 (some 0), .bool false, .int .i64 0, .int .u32 0, .slice none 0 (some 0), .bool false, .int .i64 0, .int .u32 0, .slice none 0 (some 0), .bool false, .int .i64 0, .int .u32 1, .slice (some (1352, 0)) 800 none, .bool true, .int .i64 1] 0 .yes),
  (1352, .cells (by8 [1, 0, 0, 3, 0, 0, 0, 0, 13, 0, 1, 1, 0, 0, 0, 0, 0, 0, 0, 1, 2, 97, 0, 1, 0, 0, 0, 0, 0, 0, 0, 0, 0, 0, 0, 120, 0, 0, 17, 0, 0, 1, 0, 0, 0, 0, 0, 0, 0, 2, 2, 120, 0, 1, 2, 97, 0, 1, 0, 0, 0, 0, 0, 0, 0, 0, 0, 0, 17, 0, 0, 1, 0, 0, 0, 0, 0, 0, 0, 2, 2, 120, 0, 1, 2, 98, 0, 1] ++ (nul 712)) 1 (.of 5))] }

noncomputable def hk16F (args : List AV) (M : AMem) : Option (AV × AMem) := match hk15 148 with
  | some h => h args M
  | none => acall Tryz.prog hk15 1000 148 args M

noncomputable def hk16 : Hook := fun f => match f with
  | 148 => some (cutAt [cut16] hk16F)
  | _ => hk15 f

def cut17 : Cut := {
 args := [.ptr (some (111, 0)), .agg [.str [1, 0, 0, 0, 0, 0, 0, 0, 2, 2, 120, 0, 1, 2, 98, 0, 1], .bool false, .str []]], nin := 1126,
 lin := [(3, .ro (by8 [0, 1, 56, 2, 57, 49, 28, 3, 61, 58, 42, 50, 38, 29, 17, 4, 62, 47, 59, 36, 45, 43, 51, 22, 53, 39, 33, 30, 24, 18, 12, 5, 63, 55, 48, 27, 60, 41, 37, 16, 46, 35, 44, 21, 52, 32, 23, 11, 54, 26, 40, 15, 34, 20, 31, 10, 25, 14, 19, 9, 13, 8, 7, 6])),
  (24, .cells (by8 [83, 76, 85, 73, 67, 69, 48, 49, 0, 0, 0, 20, 0, 0, 3, 32, 0, 0, 0, 8, 0, 0, 0, 8, 0, 0, 0, 16, 0, 0, 0, 16, 0, 0, 0, 24, 0, 0, 0, 3, 0, 0, 0, 1, 0, 0, 0, 1, 0, 0, 0, 0, 0, 0, 0, 0, 0, 0, 0, 0, 141, 122, 2, 171] ++ (nul 736 ++ (by8 [1] ++ (nul 15199)))) 0 .yes),
  (25, .cells [.int .i64 800, .slice (some (24, 0)) 16000 (some 16000), .int .u64 0, .int .u64 2] 0 .yes),
  (36, .cells [.int .i64 0, .int .i64 0, .bool false, .int .i64 0, .int .i64 0, .bool false, .int .i64 0, .int .i64 0, .bool false, .int .i64 0, .int .i64 0, .bool false, .int .i64 0, .int .i64 0, .bool false, .int .i64 0, .int .i64 0, .bool false, .int .i64 0, .int .i64 0, .bool false, .int .i64 0, .int .i64 0, .bool false, .int .i64 8, .int .i64 8, .bool false] 0 .yes),
  (37, .cells [.slice (some (36, 0)) 9 (some 9), .int .i64 0] 0 .yes),
  (38, .cells [.int .u32 0, .slice none 0 (some 0), .bool false, .int .i64 0, .int .u32 0, .slice none 0 (some 0), .bool false, .int .i64 0, .int .u32 0, .slice none 0 (some 0), .bool false, .int .i64 0, .int .u32 0, .slice none 0 (some 0), .bool false, .int .i64 0, .int .u32 0, .slice none 0 (some 0), .bool false, .int .i64 0, .int .u32 0, .slice none 0 (some 0), .bool false, .int .i64 0, .int .u32 0, .slice none 0 (some 0), .bool false, .int .i64 0, .int .u32 1, .slice (some (845, 0)) 800 none, .bool true, .int .i64 1] 0 .yes),
  (39, .map [(.int .u32 1, .int .i64 7, 0)] 1),
  (40, .cells [.ptr (some (25, 0)), .slice (some (38, 0)) 8 (some 8), .map (some 39), .slice (some (56, 0)) 7 none, .ptr (some (37, 0))] 0 .yes),
  (56, .cells [.int .i64 0, .int .i64 1, .int .i64 2, .int .i64 3, .int .i64 4, .int .i64 5, .int .i64 6, .int .i64 7] 1 .yes),
  (57, .cells [.int .u64 3] 0 .yes),
  (58, .cells [.int .i64 20, .int .i64 2, .slice (some (57, 0)) 1 (some 1)] 0 .yes),
  (59, .cells [.ptr (some (58, 0))] 0 .yes),
  (60, .cells [.int .i64 20, .int .i64 800, .int .i64 8, .int .i64 8, .int .i64 16, .int .i64 16, .int .i64 24, .int .i64 3, .ptr (some (25, 0)), .ptr (some (40, 0)), .ptr (some (59, 0)), .int .u32 1] 0 .yes),
  (111, .cells [.ptr (some (60, 0)), .int .u32 1, .int .i64 0, .int .i64 2, .int .i64 0, .int .i64 0] 0 .yes),
  (845, .cells (by8 [1, 0, 0, 2, 0, 0, 0, 0, 13, 0, 1, 1, 0, 0, 0, 0, 0, 0, 0, 1, 2, 97, 0, 1, 0, 0, 0, 0, 0, 0, 0, 0, 0, 0, 0, 120, 0, 0, 17, 0, 0, 1, 0, 0, 0, 0, 0, 0, 0, 2, 2, 120, 0, 1, 2, 97, 0, 1] ++ (nul 742)) 1 (.of 5))],
 v := .int .i64 0, nout := 1354, ldel := [],
 lset := [(38, .cells [.int .u32 0, .slice none 0 (some 0), .bool false, .int .i64 0, .int .u32 0, .slice none 0 (some 0), .bool false, .int .i64 0, .int .u32 0, .slice none 0 (some 0), .bool false, .int .i64 0, .int .u32 0, .slice none 0 (some 0), .bool false, .int .i64 0, .int .u32 0, .slice none 0 (some 0), .bool false, .int .i64 0, .int .u32 0, .slice none 0 (some 0), .bool false, .int .i64 0, .int .u32 0, .slice none 0 (some 0), .bool false, .int .i64 0, .int .u32 1, .slice (some (1352, 0)) 800 none, .bool true, .int .i64 1] 0 .yes),
  (111, .cells [.ptr (some (60, 0)), .int .u32 1, .int .i64 0, .int .i64 3, .int .i64 0, .int .i64 0] 0 .yes),
  (1352, .cells (by8 [1, 0, 0, 3, 0, 0, 0, 0, 13, 0, 1, 1, 0, 0, 0, 0, 0, 0, 0, 1, 2, 97, 0, 1, 0, 0, 0, 0, 0, 0, 0, 0, 0, 0, 0, 120, 0, 0, 17, 0, 0, 1, 0, 0, 0, 0, 0, 0, 0, 2, 2, 120, 0, 1, 2, 97, 0, 1, 0, 0, 0, 0, 0, 0, 0, 0, 0, 0, 17, 0, 0, 1, 0, 0, 0, 0, 0, 0, 0, 2, 2, 120, 0, 1, 2, 98, 0, 1] ++ (nul 712)) 1 (.of 5))] }

noncomputable def hk17F (args : List AV) (M : AMem) : Option (AV × AMem) := match hk16 76 with
  | some h => h args M
  | none => acall Tryz.prog hk16 1000 76 args M

noncomputable def hk17 : Hook := fun f => match f with
  | 76 => some (cutAt [cut17] hk17F)
  | _ => hk16 f

def cut18 : Cut := {
 args := [.ptr (some (249, 0)), .str [1, 0, 0, 0, 0, 0, 0, 0, 2, 2, 120, 0, 1, 2, 98, 0, 1], .str []], nin := 1121,
 lin := [(3, .ro (by8 [0, 1, 56, 2, 57, 49, 28, 3, 61, 58, 42, 50, 38, 29, 17, 4, 62, 47, 59, 36, 45, 43, 51, 22, 53, 39, 33, 30, 24, 18, 12, 5, 63, 55, 48, 27, 60, 41, 37, 16, 46, 35, 44, 21, 52, 32, 23, 11, 54, 26, 40, 15, 34, 20, 31, 10, 25, 14, 19, 9, 13, 8, 7, 6])),
  (24, .cells (by8 [83, 76, 85, 73, 67, 69, 48, 49, 0, 0, 0, 20, 0, 0, 3, 32, 0, 0, 0, 8, 0, 0, 0, 8, 0, 0, 0, 16, 0, 0, 0, 16, 0, 0, 0, 24, 0, 0, 0, 3, 0, 0, 0, 1, 0, 0, 0, 1, 0, 0, 0, 0, 0, 0, 0, 0, 0, 0, 0, 0, 141, 122, 2, 171] ++ (nul 736 ++ (by8 [1] ++ (nul 15199)))) 0 .yes),
  (25, .cells [.int .i64 800, .slice (some (24, 0)) 16000 (some 16000), .int .u64 0, .int .u64 2] 0 .yes),
  (36, .cells [.int .i64 0, .int .i64 0, .bool false, .int .i64 0, .int .i64 0, .bool false, .int .i64 0, .int .i64 0, .bool false, .int .i64 0, .int .i64 0, .bool false, .int .i64 0, .int .i64 0, .bool false, .int .i64 0, .int .i64 0, .bool false, .int .i64 0, .int .i64 0, .bool false, .int .i64 0, .int .i64 0, .bool false, .int .i64 8, .int .i64 8, .bool false] 0 .yes),
  (37, .cells [.slice (some (36, 0)) 9 (some 9), .int .i64 0] 0 .yes),
  (38, .cells [.int .u32 0, .slice none 0 (some 0), .bool false, .int .i64 0, .int .u32 0, .slice none 0 (some 0), .bool false, .int .i64 0, .int .u32 0, .slice none 0 (some 0), .bool false, .int .i64 0, .int .u32 0, .slice none 0 (some 0), .bool false, .int .i64 0, .int .u32 0, .slice none 0 (some 0), .bool false, .int .i64 0, .int .u32 0, .slice none 0 (some 0), .bool false, .int .i64 0, .int .u32 0, .slice none 0 (some 0), .bool false, .int .i64 0, .int .u32 1, .slice (some (845, 0)) 800 none, .bool true, .int .i64 1] 0 .yes),
  (39, .map [(.int .u32 1, .int .i64 7, 0)] 1),
  (40, .cells [.ptr (some (25, 0)), .slice (some (38, 0)) 8 (some 8), .map (some 39), .slice (some (56, 0)) 7 none, .ptr (some (37, 0))] 0 .yes),
  (56, .cells [.int .i64 0, .int .i64 1, .int .i64 2, .int .i64 3, .int .i64 4, .int .i64 5, .int .i64 6, .int .i64 7] 1 .yes),
  (57, .cells [.int .u64 3] 0 .yes),
  (58, .cells [.int .i64 20, .int .i64 2, .slice (some (57, 0)) 1 (some 1)] 0 .yes),
  (59, .cells [.ptr (some (58, 0))] 0 .yes),
  (60, .cells [.int .i64 20, .int .i64 800, .int .i64 8, .int .i64 8, .int .i64 16, .int .i64 16, .int .i64 24, .int .i64 3, .ptr (some (25, 0)), .ptr (some (40, 0)), .ptr (some (59, 0)), .int .u32 1] 0 .yes),
  (111, .cells [.ptr (some (60, 0)), .int .u32 1, .int .i64 0, .int .i64 2, .int .i64 0, .int .i64 0] 0 .yes),
  (113, .cells [.ptr (some (25, 0)), .ptr (some (111, 0))] 0 .yes),
  (249, .cells [.int .i64 20, .int .i64 800, .int .i64 8, .int .i64 8, .int .i64 16, .int .i64 16, .int .i64 24, .int .i64 3, .ptr (some (113, 0)), .bool true, .int .u64 0, .int .u64 0, .int .u64 0, .int .u64 0] 0 .yes),
  (845, .cells (by8 [1, 0, 0, 2, 0, 0, 0, 0, 13, 0, 1, 1, 0, 0, 0, 0, 0, 0, 0, 1, 2, 97, 0, 1, 0, 0, 0, 0, 0, 0, 0, 0, 0, 0, 0, 120, 0, 0, 17, 0, 0, 1, 0, 0, 0, 0, 0, 0, 0, 2, 2, 120, 0, 1, 2, 97, 0, 1] ++ (nul 742)) 1 (.of 5))],
 v := .int .i64 0, nout := 1361, ldel := [],
 lset := [(38, .cells [.int .u32 0, .slice none 0 (some 0), .bool false, .int .i64 0, .int .u32 0, .slice none 0 (some 0), .bool false, .int .i64 0, .int .u32 0, .slice none 0 (some 0), .bool false, .int .i64 0, .int .u32 0, .slice none 0 (some 0), .bool false, .int .i64 0, .int .u32 0, .slice none 0 (some 0), .bool false, .int .i64 0, .int .u32 0, .slice none 0 (some 0), .bool false, .int .i64 0, .int .u32 0, .slice none 0 (some 0), .bool false, .int .i64 0, .int .u32 1, .slice (some (1352, 0)) 800 none, .bool true, .int .i64 1] 0 .yes),
  (111, .cells [.ptr (some (60, 0)), .int .u32 1, .int .i64 0, .int .i64 3, .int .i64 0, .int .i64 0] 0 .yes),
  (1352, .cells (by8 [1, 0, 0, 3, 0, 0, 0, 0, 13, 0, 1, 1, 0, 0, 0, 0, 0, 0, 0, 1, 2, 97, 0, 1, 0, 0, 0, 0, 0, 0, 0, 0, 0, 0, 0, 120, 0, 0, 17, 0, 0, 1, 0, 0, 0, 0, 0, 0, 0, 2, 2, 120, 0, 1, 2, 97, 0, 1, 0, 0, 0, 0, 0, 0, 0, 0, 0, 0, 17, 0, 0, 1, 0, 0, 0, 0, 0, 0, 0, 2, 2, 120, 0, 1, 2, 98, 0, 1] ++ (nul 712)) 1 (.of 5))] }

noncomputable def hk18F (args : List AV) (M : AMem) : Option (AV × AMem) := match hk17 28 with
  | some h => h args M
  | none => acall Tryz.prog hk17 1000 28 args M

noncomputable def hk18 : Hook := fun f => match f with
  | 28 => some (cutAt [cut18] hk18F)
  | _ => hk17 f

def cut19 : Cut := {
 args := [.agg [.int .i64 20, .int .i64 800, .int .i64 8, .int .i64 8, .int .i64 16, .int .i64 16, .int .i64 24, .int .i64 3], .slice (some (1402, 0)) 800 none], nin := 1403,
 lin := [(3, .ro (by8 [0, 1, 56, 2, 57, 49, 28, 3, 61, 58, 42, 50, 38, 29, 17, 4, 62, 47, 59, 36, 45, 43, 51, 22, 53, 39, 33, 30, 24, 18, 12, 5, 63, 55, 48, 27, 60, 41, 37, 16, 46, 35, 44, 21, 52, 32, 23, 11, 54, 26, 40, 15, 34, 20, 31, 10, 25, 14, 19, 9, 13, 8, 7, 6])),
  (1402, .cells (by8 [1, 0, 0, 3, 0, 0, 0, 0, 13, 0, 1, 1, 0, 0, 0, 0, 0, 0, 0, 1, 2, 97, 0, 1, 0, 0, 0, 0, 0, 0, 0, 0, 0, 0, 0, 120, 0, 0, 17, 0, 0, 1, 0, 0, 0, 0, 0, 0, 0, 2, 2, 120, 0, 1, 2, 97, 0, 1, 0, 0, 0, 0, 0, 0, 0, 0, 0, 0, 17, 0, 0, 1, 0, 0, 0, 0, 0, 0, 0, 2, 2, 120, 0, 1, 2, 98, 0, 1] ++ (nul 712)) 1 (.of 5))],
 v := .tup [.agg [.int .i64 0, .slice none 0 (some 0), .slice none 0 (some 0), .slice none 0 (some 0), .slice (some (1446, 0)) 3 none], .int .i64 0], nout := 1538, ldel := [],
 lset := [(1446, .cells [.str [1, 0, 0, 0, 0, 0, 0, 0, 1, 2, 97, 0, 1], .str [120], .str [1, 0, 0, 0, 0, 0, 0, 0, 2, 2, 120, 0, 1, 2, 97, 0, 1], .str [], .str [1, 0, 0, 0, 0, 0, 0, 0, 2, 2, 120, 0, 1, 2, 98, 0, 1], .str []] 2 .yes)] }

noncomputable def hk19F (args : List AV) (M : AMem) : Option (AV × AMem) := match hk18 146 with
  | some h => h args M
  | none => acall Tryz.prog hk18 1000 146 args M

noncomputable def hk19 : Hook := fun f => match f with
  | 146 => some (cutAt [cut19] hk19F)
  | _ => hk18 f

def cut20 : Cut := {
 args := [.ptr (some (60, 0)), .int .u32 1, .agg [.int .i64 0, .slice none 0 (some 0), .slice none 0 (some 0), .slice none 0 (some 0), .slice (some (1551, 0)) 4 none]], nin := 1552,
 lin := [(3, .ro (by8 [0, 1, 56, 2, 57, 49, 28, 3, 61, 58, 42, 50, 38, 29, 17, 4, 62, 47, 59, 36, 45, 43, 51, 22, 53, 39, 33, 30, 24, 18, 12, 5, 63, 55, 48, 27, 60, 41, 37, 16, 46, 35, 44, 21, 52, 32, 23, 11, 54, 26, 40, 15, 34, 20, 31, 10, 25, 14, 19, 9, 13, 8, 7, 6])),
  (24, .cells (by8 [83, 76, 85, 73, 67, 69, 48, 49, 0, 0, 0, 20, 0, 0, 3, 32, 0, 0, 0, 8, 0, 0, 0, 8, 0, 0, 0, 16, 0, 0, 0, 16, 0, 0, 0, 24, 0, 0, 0, 3, 0, 0, 0, 1, 0, 0, 0, 1, 0, 0, 0, 0, 0, 0, 0, 0, 0, 0, 0, 0, 141, 122, 2, 171] ++ (nul 736 ++ (by8 [1] ++ (nul 15199)))) 0 .yes),
  (25, .cells [.int .i64 800, .slice (some (24, 0)) 16000 (some 16000), .int .u64 0, .int .u64 2] 0 .yes),
  (36, .cells [.int .i64 0, .int .i64 0, .bool false, .int .i64 0, .int .i64 0, .bool false, .int .i64 0, .int .i64 0, .bool false, .int .i64 0, .int .i64 0, .bool false, .int .i64 0, .int .i64 0, .bool false, .int .i64 0, .int .i64 0, .bool false, .int .i64 0, .int .i64 0, .bool false, .int .i64 0, .int .i64 0, .bool false, .int .i64 8, .int .i64 8, .bool false] 0 .yes),
  (37, .cells [.slice (some (36, 0)) 9 (some 9), .int .i64 0] 0 .yes),
  (38, .cells [.int .u32 0, .slice none 0 (some 0), .bool false, .int .i64 0, .int .u32 0, .slice none 0 (some 0), .bool false, .int .i64 0, .int .u32 0, .slice none 0 (some 0), .bool false, .int .i64 0, .int .u32 0, .slice none 0 (some 0), .bool false, .int .i64 0, .int .u32 0, .slice none 0 (some 0), .bool false, .int .i64 0, .int .u32 0, .slice none 0 (some 0), .bool false, .int .i64 0, .int .u32 0, .slice none 0 (some 0), .bool false, .int .i64 0, .int .u32 1, .slice (some (1352, 0)) 800 none, .bool true, .int .i64 1] 0 .yes),
  (39, .map [(.int .u32 1, .int .i64 7, 0)] 1),
  (40, .cells [.ptr (some (25, 0)), .slice (some (38, 0)) 8 (some 8), .map (some 39), .slice (some (56, 0)) 7 none, .ptr (some (37, 0))] 0 .yes),
  (56, .cells [.int .i64 0, .int .i64 1, .int .i64 2, .int .i64 3, .int .i64 4, .int .i64 5, .int .i64 6, .int .i64 7] 1 .yes),
  (57, .cells [.int .u64 3] 0 .yes),
  (58, .cells [.int .i64 20, .int .i64 2, .slice (some (57, 0)) 1 (some 1)] 0 .yes),
  (59, .cells [.ptr (some (58, 0))] 0 .yes),
  (60, .cells [.int .i64 20, .int .i64 800, .int .i64 8, .int .i64 8, .int .i64 16, .int .i64 16, .int .i64 24, .int .i64 3, .ptr (some (25, 0)), .ptr (some (40, 0)), .ptr (some (59, 0)), .int .u32 1] 0 .yes),
  (1352, .cells (by8 [1, 0, 0, 3, 0, 0, 0, 0, 13, 0, 1, 1, 0, 0, 0, 0, 0, 0, 0, 1, 2, 97, 0, 1, 0, 0, 0, 0, 0, 0, 0, 0, 0, 0, 0, 120, 0, 0, 17, 0, 0, 1, 0, 0, 0, 0, 0, 0, 0, 2, 2, 120, 0, 1, 2, 97, 0, 1, 0, 0, 0, 0, 0, 0, 0, 0, 0, 0, 17, 0, 0, 1, 0, 0, 0, 0, 0, 0, 0, 2, 2, 120, 0, 1, 2, 98, 0, 1] ++ (nul 712)) 1 (.of 5)),
  (1551, .cells [.str [1, 0, 0, 0, 0, 0, 0, 0, 1, 2, 97, 0, 1], .str [120], .str [1, 0, 0, 0, 0, 0, 0, 0, 1, 2, 98, 0, 1], .str [120], .str [1, 0, 0, 0, 0, 0, 0, 0, 2, 2, 120, 0, 1, 2, 97, 0, 1], .str [], .str [1, 0, 0, 0, 0, 0, 0, 0, 2, 2, 120, 0, 1, 2, 98, 0, 1], .str []] 2 .yes)],
 v := .int .i64 0, nout := 1663, ldel := [],
 lset := [(38, .cells [.int .u32 0, .slice none 0 (some 0), .bool false, .int .i64 0, .int .u32 0, .slice none 0 (some 0), .bool false, .int .i64 0, .int .u32 0, .slice none 0 (some 0), .bool false, .int .i64 0, .int .u32 0, .slice none 0 (some 0), .bool false, .int .i64 0, .int .u32 0, .slice none 0 (some 0), .bool false, .int .i64 0, .int .u32 0, .slice none 0 (some 0), .bool false, .int .i64 0, .int .u32 0, .slice none 0 (some 0), .bool false, .int .i64 0, .int .u32 1, .slice (some (1662, 0)) 800 none, .bool true, .int .i64 1] 0 .yes),
  (1662, .cells (by8 [1, 0, 0, 4, 0, 0, 0, 0, 13, 0, 1, 1, 0, 0, 0, 0, 0, 0, 0, 1, 2, 97, 0, 1, 0, 0, 0, 0, 0, 0, 0, 0, 0, 0, 0, 120, 0, 0, 13, 0, 1, 1, 0, 0, 0, 0, 0, 0, 0, 1, 2, 98, 0, 1, 0, 0, 0, 0, 0, 0, 0, 0, 0, 0, 0, 120, 0, 0, 17, 0, 0, 1, 0, 0, 0, 0, 0, 0, 0, 2, 2, 120, 0, 1, 2, 97, 0, 1, 0, 0, 0, 0, 0, 0, 0, 0, 0, 0, 17, 0, 0, 1, 0, 0, 0, 0, 0, 0, 0, 2, 2, 120, 0, 1, 2, 98, 0, 1] ++ (nul 682)) 1 (.of 5))] }

noncomputable def hk20F (args : List AV) (M : AMem) : Option (AV × AMem) := match hk19 148 with
  | some h => h args M
  | none => acall Tryz.prog hk19 1000 148 args M

noncomputable def hk20 : Hook := fun f => match f with
  | 148 => some (cutAt [cut20] hk20F)
  | _ => hk19 f

def cut21 : Cut := {
 args := [.ptr (some (111, 0)), .agg [.str [1, 0, 0, 0, 0, 0, 0, 0, 1, 2, 98, 0, 1], .bool false, .str [120]]], nin := 1394,
 lin := [(3, .ro (by8 [0, 1, 56, 2, 57, 49, 28, 3, 61, 58, 42, 50, 38, 29, 17, 4, 62, 47, 59, 36, 45, 43, 51, 22, 53, 39, 33, 30, 24, 18, 12, 5, 63, 55, 48, 27, 60, 41, 37, 16, 46, 35, 44, 21, 52, 32, 23, 11, 54, 26, 40, 15, 34, 20, 31, 10, 25, 14, 19, 9, 13, 8, 7, 6])),
  (24, .cells (by8 [83, 76, 85, 73, 67, 69, 48, 49, 0, 0, 0, 20, 0, 0, 3, 32, 0, 0, 0, 8, 0, 0, 0, 8, 0, 0, 0, 16, 0, 0, 0, 16, 0, 0, 0, 24, 0, 0, 0, 3, 0, 0, 0, 1, 0, 0, 0, 1, 0, 0, 0, 0, 0, 0, 0, 0, 0, 0, 0, 0, 141, 122, 2, 171] ++ (nul 736 ++ (by8 [1] ++ (nul 15199)))) 0 .yes),
  (25, .cells [.int .i64 800, .slice (some (24, 0)) 16000 (some 16000), .int .u64 0, .int .u64 2] 0 .yes),
  (36, .cells [.int .i64 0, .int .i64 0, .bool false, .int .i64 0, .int .i64 0, .bool false, .int .i64 0, .int .i64 0, .bool false, .int .i64 0, .int .i64 0, .bool false, .int .i64 0, .int .i64 0, .bool false, .int .i64 0, .int .i64 0, .bool false, .int .i64 0, .int .i64 0, .bool false, .int .i64 0, .int .i64 0, .bool false, .int .i64 8, .int .i64 8, .bool false] 0 .yes),
  (37, .cells [.slice (some (36, 0)) 9 (some 9), .int .i64 0] 0 .yes),
  (38, .cells [.int .u32 0, .slice none 0 (some 0), .bool false, .int .i64 0, .int .u32 0, .slice none 0 (some 0), .bool false, .int .i64 0, .int .u32 0, .slice none 0 (some 0), .bool false, .int .i64 0, .int .u32 0, .slice none 0 (some 0), .bool false, .int .i64 0, .int .u32 0, .slice none 0 (some 0), .bool false, .int .i64 0, .int .u32 0, .slice none 0 (some 0), .bool false, .int .i64 0, .int .u32 0, .slice none 0 (some 0), .bool false, .int .i64 0, .int .u32 1, .slice (some (1352, 0)) 800 none, .bool true, .int .i64 1] 0 .yes),
  (39, .map [(.int .u32 1, .int .i64 7, 0)] 1),
  (40, .cells [.ptr (some (25, 0)), .slice (some (38, 0)) 8 (some 8), .map (some 39), .slice (some (56, 0)) 7 none, .ptr (some (37, 0))] 0 .yes),
  (56, .cells [.int .i64 0, .int .i64 1, .int .i64 2, .int .i64 3, .int .i64 4, .int .i64 5, .int .i64 6, .int .i64 7] 1 .yes),
  (57, .cells [.int .u64 3] 0 .yes),
  (58, .cells [.int .i64 20, .int .i64 2, .slice (some (57, 0)) 1 (some 1)] 0 .yes),
  (59, .cells [.ptr (some (58, 0))] 0 .yes),
  (60, .cells [.int .i64 20, .int .i64 800, .int .i64 8, .int .i64 8, .int .i64 16, .int .i64 16, .int .i64 24, .int .i64 3, .ptr (some (25, 0)), .ptr (some (40, 0)), .ptr (some (59, 0)), .int .u32 1] 0 .yes),
  (111, .cells [.ptr (some (60, 0)), .int .u32 1, .int .i64 0, .int .i64 3, .int .i64 0, .int .i64 0] 0 .yes),
  (1352, .cells (by8 [1, 0, 0, 3, 0, 0, 0, 0, 13, 0, 1, 1, 0, 0, 0, 0, 0, 0, 0, 1, 2, 97, 0, 1, 0, 0, 0, 0, 0, 0, 0, 0, 0, 0, 0, 120, 0, 0, 17, 0, 0, 1, 0, 0, 0, 0, 0, 0, 0, 2, 2, 120, 0, 1, 2, 97, 0, 1, 0, 0, 0, 0, 0, 0, 0, 0, 0, 0, 17, 0, 0, 1, 0, 0, 0, 0, 0, 0, 0, 2, 2, 120, 0, 1, 2, 98, 0, 1] ++ (nul 712)) 1 (.of 5))],
 v := .int .i64 0, nout := 1664, ldel := [],
 lset := [(38, .cells [.int .u32 0, .slice none 0 (some 0), .bool false, .int .i64 0, .int .u32 0, .slice none 0 (some 0), .bool false, .int .i64 0, .int .u32 0, .slice none 0 (some 0), .bool false, .int .i64 0, .int .u32 0, .slice none 0 (some 0), .bool false, .int .i64 0, .int .u32 0, .slice none 0 (some 0), .bool false, .int .i64 0, .int .u32 0, .slice none 0 (some 0), .bool false, .int .i64 0, .int .u32 0, .slice none 0 (some 0), .bool false, .int .i64 0, .int .u32 1, .slice (some (1662, 0)) 800 none, .bool true, .int .i64 1] 0 .yes),
  (111, .cells [.ptr (some (60, 0)), .int .u32 1, .int .i64 0, .int .i64 4, .int .i64 0, .int .i64 0] 0 .yes),
  (1662, .cells (by8 [1, 0, 0, 4, 0, 0, 0, 0, 13, 0, 1, 1, 0, 0, 0, 0, 0, 0, 0, 1, 2, 97, 0, 1, 0, 0, 0, 0, 0, 0, 0, 0, 0, 0, 0, 120, 0, 0, 13, 0, 1, 1, 0, 0, 0, 0, 0, 0, 0, 1, 2, 98, 0, 1, 0, 0, 0, 0, 0, 0, 0, 0, 0, 0, 0, 120, 0, 0, 17, 0, 0, 1, 0, 0, 0, 0, 0, 0, 0, 2, 2, 120, 0, 1, 2, 97, 0, 1, 0, 0, 0, 0, 0, 0, 0, 0, 0, 0, 17, 0, 0, 1, 0, 0, 0, 0, 0, 0, 0, 2, 2, 120, 0, 1, 2, 98, 0, 1] ++ (nul 682)) 1 (.of 5))] }

noncomputable def hk21F (args : List AV) (M : AMem) : Option (AV × AMem) := match hk20 76 with
  | some h => h args M
  | none => acall Tryz.prog hk20 1000 76 args M

noncomputable def hk21 : Hook := fun f => match f with
  | 76 => some (cutAt [cut21] hk21F)
  | _ => hk20 f

def cut22 : Cut := {
 args := [.ptr (some (249, 0)), .str [1, 0, 0, 0, 0, 0, 0, 0, 1, 2, 98, 0, 1], .str [120]], nin := 1389,
 lin := [(3, .ro (by8 [0, 1, 56, 2, 57, 49, 28, 3, 61, 58, 42, 50, 38, 29, 17, 4, 62, 47, 59, 36, 45, 43, 51, 22, 53, 39, 33, 30, 24, 18, 12, 5, 63, 55, 48, 27, 60, 41, 37, 16, 46, 35, 44, 21, 52, 32, 23, 11, 54, 26, 40, 15, 34, 20, 31, 10, 25, 14, 19, 9, 13, 8, 7, 6])),
  (24, .cells (by8 [83, 76, 85, 73, 67, 69, 48, 49, 0, 0, 0, 20, 0, 0, 3, 32, 0, 0, 0, 8, 0, 0, 0, 8, 0, 0, 0, 16, 0, 0, 0, 16, 0, 0, 0, 24, 0, 0, 0, 3, 0, 0, 0, 1, 0, 0, 0, 1, 0, 0, 0, 0, 0, 0, 0, 0, 0, 0, 0, 0, 141, 122, 2, 171] ++ (nul 736 ++ (by8 [1] ++ (nul 15199)))) 0 .yes),
  (25, .cells [.int .i64 800, .slice (some (24, 0)) 16000 (some 16000), .int .u64 0, .int .u64 2] 0 .yes),
  (36, .cells [.int .i64 0, .int .i64 0, .bool false, .int .i64 0, .int .i64 0, .bool false, .int .i64 0, .int .i64 0, .bool false, .int .i64 0, .int .i64 0, .bool false, .int .i64 0, .int .i64 0, .bool false, .int .i64 0, .int .i64 0, .bool false, .int .i64 0, .int .i64 0, .bool false, .int .i64 0, .int .i64 0, .bool false, .int .i64 8, .int .i64 8, .bool false] 0 .yes),
  (37, .cells [.slice (some (36, 0)) 9 (some 9), .int .i64 0] 0 .yes),
  (38, .cells [.int .u32 0, .slice none 0 (some 0), .bool false, .int .i64 0, .int .u32 0, .slice none 0 (some 0), .bool false, .int .i64 0, .int .u32 0, .slice none 0 (some 0), .bool false, .int .i64 0, .int .u32 0, .slice none 0 (some 0), .bool false, .int .i64 0, .int .u32 0, .slice none 0 (some 0), .bool false, .int .i64 0, .int .u32 0, .slice none 0 (some 0), .bool false, .int .i64 0, .int .u32 0, .slice none 0 (some 0), .bool false, .int .i64 0, .int .u32 1, .slice (some (1352, 0)) 800 none, .bool true, .int .i64 1] 0 .yes),
  (39, .map [(.int .u32 1, .int .i64 7, 0)] 1),
  (40, .cells [.ptr (some (25, 0)), .slice (some (38, 0)) 8 (some 8), .map (some 39), .slice (some (56, 0)) 7 none, .ptr (some (37, 0))] 0 .yes),
  (56, .cells [.int .i64 0, .int .i64 1, .int .i64 2, .int .i64 3, .int .i64 4, .int .i64 5, .int .i64 6, .int .i64 7] 1 .yes),
  (57, .cells [.int .u64 3] 0 .yes),
  (58, .cells [.int .i64 20, .int .i64 2, .slice (some (57, 0)) 1 (some 1)] 0 .yes),
  (59, .cells [.ptr (some (58, 0))] 0 .yes),
  (60, .cells [.int .i64 20, .int .i64 800, .int .i64 8, .int .i64 8, .int .i64 16, .int .i64 16, .int .i64 24, .int .i64 3, .ptr (some (25, 0)), .ptr (some (40, 0)), .ptr (some (59, 0)), .int .u32 1] 0 .yes),
  (111, .cells [.ptr (some (60, 0)), .int .u32 1, .int .i64 0, .int .i64 3, .int .i64 0, .int .i64 0] 0 .yes),
  (113, .cells [.ptr (some (25, 0)), .ptr (some (111, 0))] 0 .yes),
  (249, .cells [.int .i64 20, .int .i64 800, .int .i64 8, .int .i64 8, .int .i64 16, .int .i64 16, .int .i64 24, .int .i64 3, .ptr (some (113, 0)), .bool true, .int .u64 0, .int .u64 0, .int .u64 0, .int .u64 0] 0 .yes),
  (1352, .cells (by8 [1, 0, 0, 3, 0, 0, 0, 0, 13, 0, 1, 1, 0, 0, 0, 0, 0, 0, 0, 1, 2, 97, 0, 1, 0, 0, 0, 0, 0, 0, 0, 0, 0, 0, 0, 120, 0, 0, 17, 0, 0, 1, 0, 0, 0, 0, 0, 0, 0, 2, 2, 120, 0, 1, 2, 97, 0, 1, 0, 0, 0, 0, 0, 0, 0, 0, 0, 0, 17, 0, 0, 1, 0, 0, 0, 0, 0, 0, 0, 2, 2, 120, 0, 1, 2, 98, 0, 1] ++ (nul 712)) 1 (.of 5))],
 v := .int .i64 0, nout := 1671, ldel := [],
 lset := [(38, .cells [.int .u32 0, .slice none 0 (some 0), .bool false, .int .i64 0, .int .u32 0, .slice none 0 (some 0), .bool false, .int .i64 0, .int .u32 0, .slice none 0 (some 0), .bool false, .int .i64 0, .int .u32 0, .slice none 0 (some 0), .bool false, .int .i64 0, .int .u32 0, .slice none 0 (some 0), .bool false, .int .i64 0, .int .u32 0, .slice none 0 (some 0), .bool false, .int .i64 0, .int .u32 0, .slice none 0 (some 0), .bool false, .int .i64 0, .int .u32 1, .slice (some (1662, 0)) 800 none, .bool true, .int .i64 1] 0 .yes),
  (111, .cells [.ptr (some (60, 0)), .int .u32 1, .int .i64 0, .int .i64 4, .int .i64 0, .int .i64 0] 0 .yes),
  (1662, .cells (by8 [1, 0, 0, 4, 0, 0, 0, 0, 13, 0, 1, 1, 0, 0, 0, 0, 0, 0, 0, 1, 2, 97, 0, 1, 0, 0, 0, 0, 0, 0, 0, 0, 0, 0, 0, 120, 0, 0, 13, 0, 1, 1, 0, 0, 0, 0, 0, 0, 0, 1, 2, 98, 0, 1, 0, 0, 0, 0, 0, 0, 0, 0, 0, 0, 0, 120, 0, 0, 17, 0, 0, 1, 0, 0, 0, 0, 0, 0, 0, 2, 2, 120, 0, 1, 2, 97, 0, 1, 0, 0, 0, 0, 0, 0, 0, 0, 0, 0, 17, 0, 0, 1, 0, 0, 0, 0, 0, 0, 0, 2, 2, 120, 0, 1, 2, 98, 0, 1] ++ (nul 682)) 1 (.of 5))] }

noncomputable def hk22F (args : List AV) (M : AMem) : Option (AV × AMem) := match hk21 28 with
  | some h => h args M
  | none => acall Tryz.prog hk21 1000 28 args M

noncomputable def hk22 : Hook := fun f => match f with
  | 28 => some (cutAt [cut22] hk22F)
  | _ => hk21 f

def cut23 : Cut := {
 args := [.ptr (some (250, 0)), .str [98], .str [120]], nin := 854,
 lin := [(3, .ro (by8 [0, 1, 56, 2, 57, 49, 28, 3, 61, 58, 42, 50, 38, 29, 17, 4, 62, 47, 59, 36, 45, 43, 51, 22, 53, 39, 33, 30, 24, 18, 12, 5, 63, 55, 48, 27, 60, 41, 37, 16, 46, 35, 44, 21, 52, 32, 23, 11, 54, 26, 40, 15, 34, 20, 31, 10, 25, 14, 19, 9, 13, 8, 7, 6])),
  (24, .cells (by8 [83, 76, 85, 73, 67, 69, 48, 49, 0, 0, 0, 20, 0, 0, 3, 32, 0, 0, 0, 8, 0, 0, 0, 8, 0, 0, 0, 16, 0, 0, 0, 16, 0, 0, 0, 24, 0, 0, 0, 3, 0, 0, 0, 1, 0, 0, 0, 1, 0, 0, 0, 0, 0, 0, 0, 0, 0, 0, 0, 0, 141, 122, 2, 171] ++ (nul 736 ++ (by8 [1] ++ (nul 15199)))) 0 .yes),
  (25, .cells [.int .i64 800, .slice (some (24, 0)) 16000 (some 16000), .int .u64 0, .int .u64 2] 0 .yes),
  (36, .cells [.int .i64 0, .int .i64 0, .bool false, .int .i64 0, .int .i64 0, .bool false, .int .i64 0, .int .i64 0, .bool false, .int .i64 0, .int .i64 0, .bool false, .int .i64 0, .int .i64 0, .bool false, .int .i64 0, .int .i64 0, .bool false, .int .i64 0, .int .i64 0, .bool false, .int .i64 0, .int .i64 0, .bool false, .int .i64 8, .int .i64 8, .bool false] 0 .yes),
  (37, .cells [.slice (some (36, 0)) 9 (some 9), .int .i64 0] 0 .yes),
  (38, .cells [.int .u32 0, .slice none 0 (some 0), .bool false, .int .i64 0, .int .u32 0, .slice none 0 (some 0), .bool false, .int .i64 0, .int .u32 0, .slice none 0 (some 0), .bool false, .int .i64 0, .int .u32 0, .slice none 0 (some 0), .bool false, .int .i64 0, .int .u32 0, .slice none 0 (some 0), .bool false, .int .i64 0, .int .u32 0, .slice none 0 (some 0), .bool false, .int .i64 0, .int .u32 0, .slice none 0 (some 0), .bool false, .int .i64 0, .int .u32 1, .slice (some (845, 0)) 800 none, .bool true, .int .i64 1] 0 .yes),
  (39, .map [(.int .u32 1, .int .i64 7, 0)] 1),
  (40, .cells [.ptr (some (25, 0)), .slice (some (38, 0)) 8 (some 8), .map (some 39), .slice (some (56, 0)) 7 none, .ptr (some (37, 0))] 0 .yes),
  (56, .cells [.int .i64 0, .int .i64 1, .int .i64 2, .int .i64 3, .int .i64 4, .int .i64 5, .int .i64 6, .int .i64 7] 1 .yes),
  (57, .cells [.int .u64 3] 0 .yes),
  (58, .cells [.int .i64 20, .int .i64 2, .slice (some (57, 0)) 1 (some 1)] 0 .yes),
  (59, .cells [.ptr (some (58, 0))] 0 .yes),
  (60, .cells [.int .i64 20, .int .i64 800, .int .i64 8, .int .i64 8, .int .i64 16, .int .i64 16, .int .i64 24, .int .i64 3, .ptr (some (25, 0)), .ptr (some (40, 0)), .ptr (some (59, 0)), .int .u32 1] 0 .yes),
  (111, .cells [.ptr (some (60, 0)), .int .u32 1, .int .i64 0, .int .i64 2, .int .i64 0, .int .i64 0] 0 .yes),
  (113, .cells [.ptr (some (25, 0)), .ptr (some (111, 0))] 0 .yes),
  (249, .cells [.int .i64 20, .int .i64 800, .int .i64 8, .int .i64 8, .int .i64 16, .int .i64 16, .int .i64 24, .int .i64 3, .ptr (some (113, 0)), .bool true, .int .u64 0, .int .u64 0, .int .u64 0, .int .u64 0] 0 .yes),
  (250, .cells [.ptr (some (249, 0))] 0 .yes),
  (845, .cells (by8 [1, 0, 0, 2, 0, 0, 0, 0, 13, 0, 1, 1, 0, 0, 0, 0, 0, 0, 0, 1, 2, 97, 0, 1, 0, 0, 0, 0, 0, 0, 0, 0, 0, 0, 0, 120, 0, 0, 17, 0, 0, 1, 0, 0, 0, 0, 0, 0, 0, 2, 2, 120, 0, 1, 2, 97, 0, 1] ++ (nul 742)) 1 (.of 5))],
 v := .int .i64 0, nout := 1671, ldel := [],
 lset := [(38, .cells [.int .u32 0, .slice none 0 (some 0), .bool false, .int .i64 0, .int .u32 0, .slice none 0 (some 0), .bool false, .int .i64 0, .int .u32 0, .slice none 0 (some 0), .bool false, .int .i64 0, .int .u32 0, .slice none 0 (some 0), .bool false, .int .i64 0, .int .u32 0, .slice none 0 (some 0), .bool false, .int .i64 0, .int .u32 0, .slice none 0 (some 0), .bool false, .int .i64 0, .int .u32 0, .slice none 0 (some 0), .bool false, .int .i64 0, .int .u32 1, .slice (some (1662, 0)) 800 none, .bool true, .int .i64 1] 0 .yes),
  (111, .cells [.ptr (some (60, 0)), .int .u32 1, .int .i64 0, .int .i64 4, .int .i64 0, .int .i64 0] 0 .yes),
  (1662, .cells (by8 [1, 0, 0, 4, 0, 0, 0, 0, 13, 0, 1, 1, 0, 0, 0, 0, 0, 0, 0, 1, 2, 97, 0, 1, 0, 0, 0, 0, 0, 0, 0, 0, 0, 0, 0, 120, 0, 0, 13, 0, 1, 1, 0, 0, 0, 0, 0, 0, 0, 1, 2, 98, 0, 1, 0, 0, 0, 0, 0, 0, 0, 0, 0, 0, 0, 120, 0, 0, 17, 0, 0, 1, 0, 0, 0, 0, 0, 0, 0, 2, 2, 120, 0, 1, 2, 97, 0, 1, 0, 0, 0, 0, 0, 0, 0, 0, 0, 0, 17, 0, 0, 1, 0, 0, 0, 0, 0, 0, 0, 2, 2, 120, 0, 1, 2, 98, 0, 1] ++ (nul 682)) 1 (.of 5))] }

noncomputable def hk23F (args : List AV) (M : AMem) : Option (AV × AMem) := match hk22 9 with
  | some h => h args M
  | none => acall Tryz.prog hk22 1000 9 args M

noncomputable def hk23 : Hook := fun f => match f with
  | 9 => some (cutAt [cut23] hk23F)
  | _ => hk22 f

def cut24 : Cut := {
 args := [.agg [.int .i64 20, .int .i64 800, .int .i64 8, .int .i64 8, .int .i64 16, .int .i64 16, .int .i64 24, .int .i64 3], .slice (some (1775, 0)) 800 none], nin := 1776,
 lin := [(3, .ro (by8 [0, 1, 56, 2, 57, 49, 28, 3, 61, 58, 42, 50, 38, 29, 17, 4, 62, 47, 59, 36, 45, 43, 51, 22, 53, 39, 33, 30, 24, 18, 12, 5, 63, 55, 48, 27, 60, 41, 37, 16, 46, 35, 44, 21, 52, 32, 23, 11, 54, 26, 40, 15, 34, 20, 31, 10, 25, 14, 19, 9, 13, 8, 7, 6])),
  (1775, .cells (by8 [1, 0, 0, 4, 0, 0, 0, 0, 13, 0, 1, 1, 0, 0, 0, 0, 0, 0, 0, 1, 2, 97, 0, 1, 0, 0, 0, 0, 0, 0, 0, 0, 0, 0, 0, 120, 0, 0, 13, 0, 1, 1, 0, 0, 0, 0, 0, 0, 0, 1, 2, 98, 0, 1, 0, 0, 0, 0, 0, 0, 0, 0, 0, 0, 0, 120, 0, 0, 17, 0, 0, 1, 0, 0, 0, 0, 0, 0, 0, 2, 2, 120, 0, 1, 2, 97, 0, 1, 0, 0, 0, 0, 0, 0, 0, 0, 0, 0, 17, 0, 0, 1, 0, 0, 0, 0, 0, 0, 0, 2, 2, 120, 0, 1, 2, 98, 0, 1] ++ (nul 682)) 1 (.of 5))],
 v := .tup [.agg [.int .i64 0, .slice none 0 (some 0), .slice none 0 (some 0), .slice none 0 (some 0), .slice (some (1826, 0)) 4 none], .int .i64 0], nout := 1935, ldel := [],
 lset := [(1826, .cells [.str [1, 0, 0, 0, 0, 0, 0, 0, 1, 2, 97, 0, 1], .str [120], .str [1, 0, 0, 0, 0, 0, 0, 0, 1, 2, 98, 0, 1], .str [120], .str [1, 0, 0, 0, 0, 0, 0, 0, 2, 2, 120, 0, 1, 2, 97, 0, 1], .str [], .str [1, 0, 0, 0, 0, 0, 0, 0, 2, 2, 120, 0, 1, 2, 98, 0, 1], .str []] 2 .yes)] }

noncomputable def hk24F (args : List AV) (M : AMem) : Option (AV × AMem) := match hk23 146 with
  | some h => h args M
  | none => acall Tryz.prog hk23 1000 146 args M

noncomputable def hk24 : Hook := fun f => match f with
  | 146 => some (cutAt [cut24] hk24F)
  | _ => hk23 f

def cut25 : Cut := {
 args := [.ptr (some (250, 0)), .str [97]], nin := 1737,
 lin := [(3, .ro (by8 [0, 1, 56, 2, 57, 49, 28, 3, 61, 58, 42, 50, 38, 29, 17, 4, 62, 47, 59, 36, 45, 43, 51, 22, 53, 39, 33, 30, 24, 18, 12, 5, 63, 55, 48, 27, 60, 41, 37, 16, 46, 35, 44, 21, 52, 32, 23, 11, 54, 26, 40, 15, 34, 20, 31, 10, 25, 14, 19, 9, 13, 8, 7, 6])),
  (24, .cells (by8 [83, 76, 85, 73, 67, 69, 48, 49, 0, 0, 0, 20, 0, 0, 3, 32, 0, 0, 0, 8, 0, 0, 0, 8, 0, 0, 0, 16, 0, 0, 0, 16, 0, 0, 0, 24, 0, 0, 0, 3, 0, 0, 0, 1, 0, 0, 0, 1, 0, 0, 0, 0, 0, 0, 0, 0, 0, 0, 0, 0, 141, 122, 2, 171] ++ (nul 736 ++ (by8 [1] ++ (nul 15199)))) 0 .yes),
  (25, .cells [.int .i64 800, .slice (some (24, 0)) 16000 (some 16000), .int .u64 0, .int .u64 2] 0 .yes),
  (36, .cells [.int .i64 0, .int .i64 0, .bool false, .int .i64 0, .int .i64 0, .bool false, .int .i64 0, .int .i64 0, .bool false, .int .i64 0, .int .i64 0, .bool false, .int .i64 0, .int .i64 0, .bool false, .int .i64 0, .int .i64 0, .bool false, .int .i64 0, .int .i64 0, .bool false, .int .i64 0, .int .i64 0, .bool false, .int .i64 8, .int .i64 8, .bool false] 0 .yes),
  (37, .cells [.slice (some (36, 0)) 9 (some 9), .int .i64 0] 0 .yes),
  (38, .cells [.int .u32 0, .slice none 0 (some 0), .bool false, .int .i64 0, .int .u32 0, .slice none 0 (some 0), .bool false, .int .i64 0, .int .u32 0, .slice none 0 (some 0), .bool false, .int .i64 0, .int .u32 0, .slice none 0 (some 0), .bool false, .int .i64 0, .int .u32 0, .slice none 0 (some 0), .bool false, .int .i64 0, .int .u32 0, .slice none 0 (some 0), .bool false, .int .i64 0, .int .u32 0, .slice none 0 (some 0), .bool false, .int .i64 0, .int .u32 1, .slice (some (1662, 0)) 800 none, .bool true, .int .i64 1] 0 .yes),
  (39, .map [(.int .u32 1, .int .i64 7, 0)] 1),
  (40, .cells [.ptr (some (25, 0)), .slice (some (38, 0)) 8 (some 8), .map (some 39), .slice (some (56, 0)) 7 none, .ptr (some (37, 0))] 0 .yes),
  (56, .cells [.int .i64 0, .int .i64 1, .int .i64 2, .int .i64 3, .int .i64 4, .int .i64 5, .int .i64 6, .int .i64 7] 1 .yes),
  (57, .cells [.int .u64 3] 0 .yes),
  (58, .cells [.int .i64 20, .int .i64 2, .slice (some (57, 0)) 1 (some 1)] 0 .yes),
  (59, .cells [.ptr (some (58, 0))] 0 .yes),
  (60, .cells [.int .i64 20, .int .i64 800, .int .i64 8, .int .i64 8, .int .i64 16, .int .i64 16, .int .i64 24, .int .i64 3, .ptr (some (25, 0)), .ptr (some (40, 0)), .ptr (some (59, 0)), .int .u32 1] 0 .yes),
  (111, .cells [.ptr (some (60, 0)), .int .u32 1, .int .i64 0, .int .i64 4, .int .i64 0, .int .i64 0] 0 .yes),
  (113, .cells [.ptr (some (25, 0)), .ptr (some (111, 0))] 0 .yes),
  (249, .cells [.int .i64 20, .int .i64 800, .int .i64 8, .int .i64 8, .int .i64 16, .int .i64 16, .int .i64 24, .int .i64 3, .ptr (some (113, 0)), .bool true, .int .u64 0, .int .u64 0, .int .u64 0, .int .u64 0] 0 .yes),
  (250, .cells [.ptr (some (249, 0))] 0 .yes),
  (1662, .cells (by8 [1, 0, 0, 4, 0, 0, 0, 0, 13, 0, 1, 1, 0, 0, 0, 0, 0, 0, 0, 1, 2, 97, 0, 1, 0, 0, 0, 0, 0, 0, 0, 0, 0, 0, 0, 120, 0, 0, 13, 0, 1, 1, 0, 0, 0, 0, 0, 0, 0, 1, 2, 98, 0, 1, 0, 0, 0, 0, 0, 0, 0, 0, 0, 0, 0, 120, 0, 0, 17, 0, 0, 1, 0, 0, 0, 0, 0, 0, 0, 2, 2, 120, 0, 1, 2, 97, 0, 1, 0, 0, 0, 0, 0, 0, 0, 0, 0, 0, 17, 0, 0, 1, 0, 0, 0, 0, 0, 0, 0, 2, 2, 120, 0, 1, 2, 98, 0, 1] ++ (nul 682)) 1 (.of 5))],
 v := .tup [.str [120], .int .i64 0], nout := 1952, ldel := [],
 lset := [] }

noncomputable def hk25F (args : List AV) (M : AMem) : Option (AV × AMem) := match hk24 4 with
  | some h => h args M
  | none => acall Tryz.prog hk24 1000 4 args M

noncomputable def hk25 : Hook := fun f => match f with
  | 4 => some (cutAt [cut25] hk25F)
  | _ => hk24 f

def cut26 : Cut := {
 args := [.agg [.int .i64 20, .int .i64 800, .int .i64 8, .int .i64 8, .int .i64 16, .int .i64 16, .int .i64 24, .int .i64 3], .slice (some (1999, 0)) 800 none], nin := 2000,
 lin := [(3, .ro (by8 [0, 1, 56, 2, 57, 49, 28, 3, 61, 58, 42, 50, 38, 29, 17, 4, 62, 47, 59, 36, 45, 43, 51, 22, 53, 39, 33, 30, 24, 18, 12, 5, 63, 55, 48, 27, 60, 41, 37, 16, 46, 35, 44, 21, 52, 32, 23, 11, 54, 26, 40, 15, 34, 20, 31, 10, 25, 14, 19, 9, 13, 8, 7, 6])),
  (1999, .cells (by8 [1, 0, 0, 4, 0, 0, 0, 0, 13, 0, 1, 1, 0, 0, 0, 0, 0, 0, 0, 1, 2, 97, 0, 1, 0, 0, 0, 0, 0, 0, 0, 0, 0, 0, 0, 120, 0, 0, 13, 0, 1, 1, 0, 0, 0, 0, 0, 0, 0, 1, 2, 98, 0, 1, 0, 0, 0, 0, 0, 0, 0, 0, 0, 0, 0, 120, 0, 0, 17, 0, 0, 1, 0, 0, 0, 0, 0, 0, 0, 2, 2, 120, 0, 1, 2, 97, 0, 1, 0, 0, 0, 0, 0, 0, 0, 0, 0, 0, 17, 0, 0, 1, 0, 0, 0, 0, 0, 0, 0, 2, 2, 120, 0, 1, 2, 98, 0, 1] ++ (nul 682)) 1 (.of 5))],
 v := .tup [.agg [.int .i64 0, .slice none 0 (some 0), .slice none 0 (some 0), .slice none 0 (some 0), .slice (some (2050, 0)) 4 none], .int .i64 0], nout := 2159, ldel := [],
 lset := [(2050, .cells [.str [1, 0, 0, 0, 0, 0, 0, 0, 1, 2, 97, 0, 1], .str [120], .str [1, 0, 0, 0, 0, 0, 0, 0, 1, 2, 98, 0, 1], .str [120], .str [1, 0, 0, 0, 0, 0, 0, 0, 2, 2, 120, 0, 1, 2, 97, 0, 1], .str [], .str [1, 0, 0, 0, 0, 0, 0, 0, 2, 2, 120, 0, 1, 2, 98, 0, 1], .str []] 2 .yes)] }

noncomputable def hk26F (args : List AV) (M : AMem) : Option (AV × AMem) := match hk25 146 with
  | some h => h args M
  | none => acall Tryz.prog hk25 1000 146 args M

noncomputable def hk26 : Hook := fun f => match f with
  | 146 => some (cutAt [cut26] hk26F)
  | _ => hk25 f

def cut27 : Cut := {
 args := [.ptr (some (60, 0)), .int .u32 1, .agg [.int .i64 0, .slice none 0 (some 0), .slice none 0 (some 0), .slice none 0 (some 0), .slice (some (2171, 0)) 5 none]], nin := 2172,
 lin := [(3, .ro (by8 [0, 1, 56, 2, 57, 49, 28, 3, 61, 58, 42, 50, 38, 29, 17, 4, 62, 47, 59, 36, 45, 43, 51, 22, 53, 39, 33, 30, 24, 18, 12, 5, 63, 55, 48, 27, 60, 41, 37, 16, 46, 35, 44, 21, 52, 32, 23, 11, 54, 26, 40, 15, 34, 20, 31, 10, 25, 14, 19, 9, 13, 8, 7, 6])),
  (24, .cells (by8 [83, 76, 85, 73, 67, 69, 48, 49, 0, 0, 0, 20, 0, 0, 3, 32, 0, 0, 0, 8, 0, 0, 0, 8, 0, 0, 0, 16, 0, 0, 0, 16, 0, 0, 0, 24, 0, 0, 0, 3, 0, 0, 0, 1, 0, 0, 0, 1, 0, 0, 0, 0, 0, 0, 0, 0, 0, 0, 0, 0, 141, 122, 2, 171] ++ (nul 736 ++ (by8 [1] ++ (nul 15199)))) 0 .yes),
  (25, .cells [.int .i64 800, .slice (some (24, 0)) 16000 (some 16000), .int .u64 0, .int .u64 2] 0 .yes),
  (36, .cells [.int .i64 0, .int .i64 0, .bool false, .int .i64 0, .int .i64 0, .bool false, .int .i64 0, .int .i64 0, .bool false, .int .i64 0, .int .i64 0, .bool false, .int .i64 0, .int .i64 0, .bool false, .int .i64 0, .int .i64 0, .bool false, .int .i64 0, .int .i64 0, .bool false, .int .i64 0, .int .i64 0, .bool false, .int .i64 8, .int .i64 8, .bool false] 0 .yes),
  (37, .cells [.slice (some (36, 0)) 9 (some 9), .int .i64 0] 0 .yes),
  (38, .cells [.int .u32 0, .slice none 0 (some 0), .bool false, .int .i64 0, .int .u32 0, .slice none 0 (some 0), .bool false, .int .i64 0, .int .u32 0, .slice none 0 (some 0), .bool false, .int .i64 0, .int .u32 0, .slice none 0 (some 0), .bool false, .int .i64 0, .int .u32 0, .slice none 0 (some 0), .bool false, .int .i64 0, .int .u32 0, .slice none 0 (some 0), .bool false, .int .i64 0, .int .u32 0, .slice none 0 (some 0), .bool false, .int .i64 0, .int .u32 1, .slice (some (1662, 0)) 800 none, .bool true, .int .i64 1] 0 .yes),
  (39, .map [(.int .u32 1, .int .i64 7, 0)] 1),
  (40, .cells [.ptr (some (25, 0)), .slice (some (38, 0)) 8 (some 8), .map (some 39), .slice (some (56, 0)) 7 none, .ptr (some (37, 0))] 0 .yes),
  (56, .cells [.int .i64 0, .int .i64 1, .int .i64 2, .int .i64 3, .int .i64 4, .int .i64 5, .int .i64 6, .int .i64 7] 1 .yes),
  (57, .cells [.int .u64 3] 0 .yes),
  (58, .cells [.int .i64 20, .int .i64 2, .slice (some (57, 0)) 1 (some 1)] 0 .yes),
  (59, .cells [.ptr (some (58, 0))] 0 .yes),
  (60, .cells [.int .i64 20, .int .i64 800, .int .i64 8, .int .i64 8, .int .i64 16, .int .i64 16, .int .i64 24, .int .i64 3, .ptr (some (25, 0)), .ptr (some (40, 0)), .ptr (some (59, 0)), .int .u32 1] 0 .yes),
  (1662, .cells (by8 [1, 0, 0, 4, 0, 0, 0, 0, 13, 0, 1, 1, 0, 0, 0, 0, 0, 0, 0, 1, 2, 97, 0, 1, 0, 0, 0, 0, 0, 0, 0, 0, 0, 0, 0, 120, 0, 0, 13, 0, 1, 1, 0, 0, 0, 0, 0, 0, 0, 1, 2, 98, 0, 1, 0, 0, 0, 0, 0, 0, 0, 0, 0, 0, 0, 120, 0, 0, 17, 0, 0, 1, 0, 0, 0, 0, 0, 0, 0, 2, 2, 120, 0, 1, 2, 97, 0, 1, 0, 0, 0, 0, 0, 0, 0, 0, 0, 0, 17, 0, 0, 1, 0, 0, 0, 0, 0, 0, 0, 2, 2, 120, 0, 1, 2, 98, 0, 1] ++ (nul 682)) 1 (.of 5)),
  (2171, .cells [.str [1, 0, 0, 0, 0, 0, 0, 0, 1, 2, 97, 0, 1], .str [120], .str [1, 0, 0, 0, 0, 0, 0, 0, 1, 2, 98, 0, 1], .str [120], .str [1, 0, 0, 0, 0, 0, 0, 0, 2, 2, 120, 0, 1, 2, 97, 0, 1], .str [], .str [1, 0, 0, 0, 0, 0, 0, 0, 2, 2, 120, 0, 1, 2, 98, 0, 1], .str [], .str [1, 0, 0, 0, 0, 0, 0, 0, 2, 2, 121, 0, 1, 2, 97, 0, 1], .str []] 2 .yes)],
 v := .int .i64 0, nout := 2299, ldel := [],
 lset := [(38, .cells [.int .u32 0, .slice none 0 (some 0), .bool false, .int .i64 0, .int .u32 0, .slice none 0 (some 0), .bool false, .int .i64 0, .int .u32 0, .slice none 0 (some 0), .bool false, .int .i64 0, .int .u32 0, .slice none 0 (some 0), .bool false, .int .i64 0, .int .u32 0, .slice none 0 (some 0), .bool false, .int .i64 0, .int .u32 0, .slice none 0 (some 0), .bool false, .int .i64 0, .int .u32 0, .slice none 0 (some 0), .bool false, .int .i64 0, .int .u32 1, .slice (some (2298, 0)) 800 none, .bool true, .int .i64 1] 0 .yes),
  (2298, .cells (by8 [1, 0, 0, 5, 0, 0, 0, 0, 13, 0, 1, 1, 0, 0, 0, 0, 0, 0, 0, 1, 2, 97, 0, 1, 0, 0, 0, 0, 0, 0, 0, 0, 0, 0, 0, 120, 0, 0, 13, 0, 1, 1, 0, 0, 0, 0, 0, 0, 0, 1, 2, 98, 0, 1, 0, 0, 0, 0, 0, 0, 0, 0, 0, 0, 0, 120, 0, 0, 17, 0, 0, 1, 0, 0, 0, 0, 0, 0, 0, 2, 2, 120, 0, 1, 2, 97, 0, 1, 0, 0, 0, 0, 0, 0, 0, 0, 0, 0, 17, 0, 0, 1, 0, 0, 0, 0, 0, 0, 0, 2, 2, 120, 0, 1, 2, 98, 0, 1, 0, 0, 0, 0, 0, 0, 0, 0, 0, 0, 17, 0, 0, 1, 0, 0, 0, 0, 0, 0, 0, 2, 2, 121, 0, 1, 2, 97, 0, 1] ++ (nul 652)) 1 (.of 5))] }

noncomputable def hk27F (args : List AV) (M : AMem) : Option (AV × AMem) := match hk26 148 with
  | some h => h args M
  | none => acall Tryz.prog hk26 1000 148 args M

noncomputable def hk27 : Hook := fun f => match f with
  | 148 => some (cutAt [cut27] hk27F)
  | _ => hk26 f

def cut28 : Cut := {
 args := [.ptr (some (111, 0)), .agg [.str [1, 0, 0, 0, 0, 0, 0, 0, 2, 2, 121, 0, 1, 2, 97, 0, 1], .bool false, .str []]], nin := 1991,
 lin := [(3, .ro (by8 [0, 1, 56, 2, 57, 49, 28, 3, 61, 58, 42, 50, 38, 29, 17, 4, 62, 47, 59, 36, 45, 43, 51, 22, 53, 39, 33, 30, 24, 18, 12, 5, 63, 55, 48, 27, 60, 41, 37, 16, 46, 35, 44, 21, 52, 32, 23, 11, 54, 26, 40, 15, 34, 20, 31, 10, 25, 14, 19, 9, 13, 8, 7, 6])),
  (24, .cells (by8 [83, 76, 85, 73, 67, 69, 48, 49, 0, 0, 0, 20, 0, 0, 3, 32, 0, 0, 0, 8, 0, 0, 0, 8, 0, 0, 0, 16, 0, 0, 0, 16, 0, 0, 0, 24, 0, 0, 0, 3, 0, 0, 0, 1, 0, 0, 0, 1, 0, 0, 0, 0, 0, 0, 0, 0, 0, 0, 0, 0, 141, 122, 2, 171] ++ (nul 736 ++ (by8 [1] ++ (nul 15199)))) 0 .yes),
  (25, .cells [.int .i64 800, .slice (some (24, 0)) 16000 (some 16000), .int .u64 0, .int .u64 2] 0 .yes),
  (36, .cells [.int .i64 0, .int .i64 0, .bool false, .int .i64 0, .int .i64 0, .bool false, .int .i64 0, .int .i64 0, .bool false, .int .i64 0, .int .i64 0, .bool false, .int .i64 0, .int .i64 0, .bool false, .int .i64 0, .int .i64 0, .bool false, .int .i64 0, .int .i64 0, .bool false, .int .i64 0, .int .i64 0, .bool false, .int .i64 8, .int .i64 8, .bool false] 0 .yes),
  (37, .cells [.slice (some (36, 0)) 9 (some 9), .int .i64 0] 0 .yes),
  (38, .cells [.int .u32 0, .slice none 0 (some 0), .bool false, .int .i64 0, .int .u32 0, .slice none 0 (some 0), .bool false, .int .i64 0, .int .u32 0, .slice none 0 (some 0), .bool false, .int .i64 0, .int .u32 0, .slice none 0 (some 0), .bool false, .int .i64 0, .int .u32 0, .slice none 0 (some 0), .bool false, .int .i64 0, .int .u32 0, .slice none 0 (some 0), .bool false, .int .i64 0, .int .u32 0, .slice none 0 (some 0), .bool false, .int .i64 0, .int .u32 1, .slice (some (1662, 0)) 800 none, .bool true, .int .i64 1] 0 .yes),
  (39, .map [(.int .u32 1, .int .i64 7, 0)] 1),
  (40, .cells [.ptr (some (25, 0)), .slice (some (38, 0)) 8 (some 8), .map (some 39), .slice (some (56, 0)) 7 none, .ptr (some (37, 0))] 0 .yes),
  (56, .cells [.int .i64 0, .int .i64 1, .int .i64 2, .int .i64 3, .int .i64 4, .int .i64 5, .int .i64 6, .int .i64 7] 1 .yes),
  (57, .cells [.int .u64 3] 0 .yes),
  (58, .cells [.int .i64 20, .int .i64 2, .slice (some (57, 0)) 1 (some 1)] 0 .yes),
  (59, .cells [.ptr (some (58, 0))] 0 .yes),
  (60, .cells [.int .i64 20, .int .i64 800, .int .i64 8, .int .i64 8, .int .i64 16, .int .i64 16, .int .i64 24, .int .i64 3, .ptr (some (25, 0)), .ptr (some (40, 0)), .ptr (some (59, 0)), .int .u32 1] 0 .yes),
  (111, .cells [.ptr (some (60, 0)), .int .u32 1, .int .i64 0, .int .i64 4, .int .i64 0, .int .i64 0] 0 .yes),
  (1662, .cells (by8 [1, 0, 0, 4, 0, 0, 0, 0, 13, 0, 1, 1, 0, 0, 0, 0, 0, 0, 0, 1, 2, 97, 0, 1, 0, 0, 0, 0, 0, 0, 0, 0, 0, 0, 0, 120, 0, 0, 13, 0, 1, 1, 0, 0, 0, 0, 0, 0, 0, 1, 2, 98, 0, 1, 0, 0, 0, 0, 0, 0, 0, 0, 0, 0, 0, 120, 0, 0, 17, 0, 0, 1, 0, 0, 0, 0, 0, 0, 0, 2, 2, 120, 0, 1, 2, 97, 0, 1, 0, 0, 0, 0, 0, 0, 0, 0, 0, 0, 17, 0, 0, 1, 0, 0, 0, 0, 0, 0, 0, 2, 2, 120, 0, 1, 2, 98, 0, 1] ++ (nul 682)) 1 (.of 5))],
 v := .int .i64 0, nout := 2300, ldel := [],
 lset := [(38, .cells [.int .u32 0, .slice none 0 (some 0), .bool false, .int .i64 0, .int .u32 0, .slice none 0 (some 0), .bool false, .int .i64 0, .int .u32 0, .slice none 0 (some 0), .bool false, .int .i64 0, .int .u32 0, .slice none 0 (some 0), .bool false, .int .i64 0, .int .u32 0, .slice none 0 (some 0), .bool false, .int .i64 0, .int .u32 0, .slice none 0 (some 0), .bool false, .int .i64 0, .int .u32 0, .slice none 0 (some 0), .bool false, .int .i64 0, .int .u32 1, .slice (some (2298, 0)) 800 none, .bool true, .int .i64 1] 0 .yes),
  (111, .cells [.ptr (some (60, 0)), .int .u32 1, .int .i64 0, .int .i64 5, .int .i64 0, .int .i64 0] 0 .yes),
  (2298, .cells (by8 [1, 0, 0, 5, 0, 0, 0, 0, 13, 0, 1, 1, 0, 0, 0, 0, 0, 0, 0, 1, 2, 97, 0, 1, 0, 0, 0, 0, 0, 0, 0, 0, 0, 0, 0, 120, 0, 0, 13, 0, 1, 1, 0, 0, 0, 0, 0, 0, 0, 1, 2, 98, 0, 1, 0, 0, 0, 0, 0, 0, 0, 0, 0, 0, 0, 120, 0, 0, 17, 0, 0, 1, 0, 0, 0, 0, 0, 0, 0, 2, 2, 120, 0, 1, 2, 97, 0, 1, 0, 0, 0, 0, 0, 0, 0, 0, 0, 0, 17, 0, 0, 1, 0, 0, 0, 0, 0, 0, 0, 2, 2, 120, 0, 1, 2, 98, 0, 1, 0, 0, 0, 0, 0, 0, 0, 0, 0, 0, 17, 0, 0, 1, 0, 0, 0, 0, 0, 0, 0, 2, 2, 121, 0, 1, 2, 97, 0, 1] ++ (nul 652)) 1 (.of 5))] }

noncomputable def hk28F (args : List AV) (M : AMem) : Option (AV × AMem) := match hk27 76 with
  | some h => h args M
  | none => acall Tryz.prog hk27 1000 76 args M

noncomputable def hk28 : Hook := fun f => match f with
  | 76 => some (cutAt [cut28] hk28F)
  | _ => hk27 f

def cut29 : Cut := {
 args := [.ptr (some (249, 0)), .str [1, 0, 0, 0, 0, 0, 0, 0, 2, 2, 121, 0, 1, 2, 97, 0, 1], .str []], nin := 1986,
 lin := [(3, .ro (by8 [0, 1, 56, 2, 57, 49, 28, 3, 61, 58, 42, 50, 38, 29, 17, 4, 62, 47, 59, 36, 45, 43, 51, 22, 53, 39, 33, 30, 24, 18, 12, 5, 63, 55, 48, 27, 60, 41, 37, 16, 46, 35, 44, 21, 52, 32, 23, 11, 54, 26, 40, 15, 34, 20, 31, 10, 25, 14, 19, 9, 13, 8, 7, 6])),
  (24, .cells (by8 [83, 76, 85, 73, 67, 69, 48, 49, 0, 0, 0, 20, 0, 0, 3, 32, 0, 0, 0, 8, 0, 0, 0, 8, 0, 0, 0, 16, 0, 0, 0, 16, 0, 0, 0, 24, 0, 0, 0, 3, 0, 0, 0, 1, 0, 0, 0, 1, 0, 0, 0, 0, 0, 0, 0, 0, 0, 0, 0, 0, 141, 122, 2, 171] ++ (nul 736 ++ (by8 [1] ++ (nul 15199)))) 0 .yes),
  (25, .cells [.int .i64 800, .slice (some (24, 0)) 16000 (some 16000), .int .u64 0, .int .u64 2] 0 .yes),
  (36, .cells [.int .i64 0, .int .i64 0, .bool false, .int .i64 0, .int .i64 0, .bool false, .int .i64 0, .int .i64 0, .bool false, .int .i64 0, .int .i64 0, .bool false, .int .i64 0, .int .i64 0, .bool false, .int .i64 0, .int .i64 0, .bool false, .int .i64 0, .int .i64 0, .bool false, .int .i64 0, .int .i64 0, .bool false, .int .i64 8, .int .i64 8, .bool false] 0 .yes),
  (37, .cells [.slice (some (36, 0)) 9 (some 9), .int .i64 0] 0 .yes),
  (38, .cells [.int .u32 0, .slice none 0 (some 0), .bool false, .int .i64 0, .int .u32 0, .slice none 0 (some 0), .bool false, .int .i64 0, .int .u32 0, .slice none 0 (some 0), .bool false, .int .i64 0, .int .u32 0, .slice none 0 (some 0), .bool false, .int .i64 0, .int .u32 0, .slice none 0 (some 0), .bool false, .int .i64 0, .int .u32 0, .slice none 0 (some 0), .bool false, .int .i64 0, .int .u32 0, .slice none 0 (some 0), .bool false, .int .i64 0, .int .u32 1, .slice (some (1662, 0)) 800 none, .bool true, .int .i64 1] 0 .yes),
  (39, .map [(.int .u32 1, .int .i64 7, 0)] 1),
  (40, .cells [.ptr (some (25, 0)), .slice (some (38, 0)) 8 (some 8), .map (some 39), .slice (some (56, 0)) 7 none, .ptr (some (37, 0))] 0 .yes),
  (56, .cells [.int .i64 0, .int .i64 1, .int .i64 2, .int .i64 3, .int .i64 4, .int .i64 5, .int .i64 6, .int .i64 7] 1 .yes),
  (57, .cells [.int .u64 3] 0 .yes),
  (58, .cells [.int .i64 20, .int .i64 2, .slice (some (57, 0)) 1 (some 1)] 0 .yes),
  (59, .cells [.ptr (some (58, 0))] 0 .yes),
  (60, .cells [.int .i64 20, .int .i64 800, .int .i64 8, .int .i64 8, .int .i64 16, .int .i64 16, .int .i64 24, .int .i64 3, .ptr (some (25, 0)), .ptr (some (40, 0)), .ptr (some (59, 0)), .int .u32 1] 0 .yes),
  (111, .cells [.ptr (some (60, 0)), .int .u32 1, .int .i64 0, .int .i64 4, .int .i64 0, .int .i64 0] 0 .yes),
  (113, .cells [.ptr (some (25, 0)), .ptr (some (111, 0))] 0 .yes),
  (249, .cells [.int .i64 20, .int .i64 800, .int .i64 8, .int .i64 8, .int .i64 16, .int .i64 16, .int .i64 24, .int .i64 3, .ptr (some (113, 0)), .bool true, .int .u64 0, .int .u64 0, .int .u64 0, .int .u64 0] 0 .yes),
  (1662, .cells (by8 [1, 0, 0, 4, 0, 0, 0, 0, 13, 0, 1, 1, 0, 0, 0, 0, 0, 0, 0, 1, 2, 97, 0, 1, 0, 0, 0, 0, 0, 0, 0, 0, 0, 0, 0, 120, 0, 0, 13, 0, 1, 1, 0, 0, 0, 0, 0, 0, 0, 1, 2, 98, 0, 1, 0, 0, 0, 0, 0, 0, 0, 0, 0, 0, 0, 120, 0, 0, 17, 0, 0, 1, 0, 0, 0, 0, 0, 0, 0, 2, 2, 120, 0, 1, 2, 97, 0, 1, 0, 0, 0, 0, 0, 0, 0, 0, 0, 0, 17, 0, 0, 1, 0, 0, 0, 0, 0, 0, 0, 2, 2, 120, 0, 1, 2, 98, 0, 1] ++ (nul 682)) 1 (.of 5))],
 v := .int .i64 0, nout := 2307, ldel := [],
 lset := [(38, .cells [.int .u32 0, .slice none 0 (some 0), .bool false, .int .i64 0, .int .u32 0, .slice none 0 (some 0), .bool false, .int .i64 0, .int .u32 0, .slice none 0 (some 0), .bool false, .int .i64 0, .int .u32 0, .slice none 0 (some 0), .bool false, .int .i64 0, .int .u32 0, .slice none 0 (some 0), .bool false, .int .i64 0, .int .u32 0, .slice none 0 (some 0), .bool false, .int .i64 0, .int .u32 0, .slice none 0 (some 0), .bool false, .int .i64 0, .int .u32 1, .slice (some (2298, 0)) 800 none, .bool true, .int .i64 1] 0 .yes),
  (111, .cells [.ptr (some (60, 0)), .int .u32 1, .int .i64 0, .int .i64 5, .int .i64 0, .int .i64 0] 0 .yes),
  (2298, .cells (by8 [1, 0, 0, 5, 0, 0, 0, 0, 13, 0, 1, 1, 0, 0, 0, 0, 0, 0, 0, 1, 2, 97, 0, 1, 0, 0, 0, 0, 0, 0, 0, 0, 0, 0, 0, 120, 0, 0, 13, 0, 1, 1, 0, 0, 0, 0, 0, 0, 0, 1, 2, 98, 0, 1, 0, 0, 0, 0, 0, 0, 0, 0, 0, 0, 0, 120, 0, 0, 17, 0, 0, 1, 0, 0, 0, 0, 0, 0, 0, 2, 2, 120, 0, 1, 2, 97, 0, 1, 0, 0, 0, 0, 0, 0, 0, 0, 0, 0, 17, 0, 0, 1, 0, 0, 0, 0, 0, 0, 0, 2, 2, 120, 0, 1, 2, 98, 0, 1, 0, 0, 0, 0, 0, 0, 0, 0, 0, 0, 17, 0, 0, 1, 0, 0, 0, 0, 0, 0, 0, 2, 2, 121, 0, 1, 2, 97, 0, 1] ++ (nul 652)) 1 (.of 5))] }

noncomputable def hk29F (args : List AV) (M : AMem) : Option (AV × AMem) := match hk28 28 with
  | some h => h args M
  | none => acall Tryz.prog hk28 1000 28 args M

noncomputable def hk29 : Hook := fun f => match f with
  | 28 => some (cutAt [cut29] hk29F)
  | _ => hk28 f

def cut30 : Cut := {
 args := [.agg [.int .i64 20, .int .i64 800, .int .i64 8, .int .i64 8, .int .i64 16, .int .i64 16, .int .i64 24, .int .i64 3], .slice (some (2348, 0)) 800 none], nin := 2349,
 lin := [(3, .ro (by8 [0, 1, 56, 2, 57, 49, 28, 3, 61, 58, 42, 50, 38, 29, 17, 4, 62, 47, 59, 36, 45, 43, 51, 22, 53, 39, 33, 30, 24, 18, 12, 5, 63, 55, 48, 27, 60, 41, 37, 16, 46, 35, 44, 21, 52, 32, 23, 11, 54, 26, 40, 15, 34, 20, 31, 10, 25, 14, 19, 9, 13, 8, 7, 6])),
  (2348, .cells (by8 [1, 0, 0, 5, 0, 0, 0, 0, 13, 0, 1, 1, 0, 0, 0, 0, 0, 0, 0, 1, 2, 97, 0, 1, 0, 0, 0, 0, 0, 0, 0, 0, 0, 0, 0, 120, 0, 0, 13, 0, 1, 1, 0, 0, 0, 0, 0, 0, 0, 1, 2, 98, 0, 1, 0, 0, 0, 0, 0, 0, 0, 0, 0, 0, 0, 120, 0, 0, 17, 0, 0, 1, 0, 0, 0, 0, 0, 0, 0, 2, 2, 120, 0, 1, 2, 97, 0, 1, 0, 0, 0, 0, 0, 0, 0, 0, 0, 0, 17, 0, 0, 1, 0, 0, 0, 0, 0, 0, 0, 2, 2, 120, 0, 1, 2, 98, 0, 1, 0, 0, 0, 0, 0, 0, 0, 0, 0, 0, 17, 0, 0, 1, 0, 0, 0, 0, 0, 0, 0, 2, 2, 121, 0, 1, 2, 97, 0, 1] ++ (nul 652)) 1 (.of 5))],
 v := .tup [.agg [.int .i64 0, .slice none 0 (some 0), .slice none 0 (some 0), .slice none 0 (some 0), .slice (some (2406, 0)) 5 none], .int .i64 0], nout := 2531, ldel := [],
 lset := [(2406, .cells [.str [1, 0, 0, 0, 0, 0, 0, 0, 1, 2, 97, 0, 1], .str [120], .str [1, 0, 0, 0, 0, 0, 0, 0, 1, 2, 98, 0, 1], .str [120], .str [1, 0, 0, 0, 0, 0, 0, 0, 2, 2, 120, 0, 1, 2, 97, 0, 1], .str [], .str [1, 0, 0, 0, 0, 0, 0, 0, 2, 2, 120, 0, 1, 2, 98, 0, 1], .str [], .str [1, 0, 0, 0, 0, 0, 0, 0, 2, 2, 121, 0, 1, 2, 97, 0, 1], .str []] 2 .yes)] }

noncomputable def hk30F (args : List AV) (M : AMem) : Option (AV × AMem) := match hk29 146 with
  | some h => h args M
  | none => acall Tryz.prog hk29 1000 146 args M

noncomputable def hk30 : Hook := fun f => match f with
  | 146 => some (cutAt [cut30] hk30F)
  | _ => hk29 f

def cut31 : Cut := {
 args := [.ptr (some (60, 0)), .int .u32 1, .agg [.int .i64 0, .slice none 0 (some 0), .slice none 0 (some 0), .slice none 0 (some 0), .slice (some (2538, 0)) 5 none]], nin := 2544,
 lin := [(3, .ro (by8 [0, 1, 56, 2, 57, 49, 28, 3, 61, 58, 42, 50, 38, 29, 17, 4, 62, 47, 59, 36, 45, 43, 51, 22, 53, 39, 33, 30, 24, 18, 12, 5, 63, 55, 48, 27, 60, 41, 37, 16, 46, 35, 44, 21, 52, 32, 23, 11, 54, 26, 40, 15, 34, 20, 31, 10, 25, 14, 19, 9, 13, 8, 7, 6])),
  (24, .cells (by8 [83, 76, 85, 73, 67, 69, 48, 49, 0, 0, 0, 20, 0, 0, 3, 32, 0, 0, 0, 8, 0, 0, 0, 8, 0, 0, 0, 16, 0, 0, 0, 16, 0, 0, 0, 24, 0, 0, 0, 3, 0, 0, 0, 1, 0, 0, 0, 1, 0, 0, 0, 0, 0, 0, 0, 0, 0, 0, 0, 0, 141, 122, 2, 171] ++ (nul 736 ++ (by8 [1] ++ (nul 15199)))) 0 .yes),
  (25, .cells [.int .i64 800, .slice (some (24, 0)) 16000 (some 16000), .int .u64 0, .int .u64 2] 0 .yes),
  (36, .cells [.int .i64 0, .int .i64 0, .bool false, .int .i64 0, .int .i64 0, .bool false, .int .i64 0, .int .i64 0, .bool false, .int .i64 0, .int .i64 0, .bool false, .int .i64 0, .int .i64 0, .bool false, .int .i64 0, .int .i64 0, .bool false, .int .i64 0, .int .i64 0, .bool false, .int .i64 0, .int .i64 0, .bool false, .int .i64 8, .int .i64 8, .bool false] 0 .yes),
  (37, .cells [.slice (some (36, 0)) 9 (some 9), .int .i64 0] 0 .yes),
  (38, .cells [.int .u32 0, .slice none 0 (some 0), .bool false, .int .i64 0, .int .u32 0, .slice none 0 (some 0), .bool false, .int .i64 0, .int .u32 0, .slice none 0 (some 0), .bool false, .int .i64 0, .int .u32 0, .slice none 0 (some 0), .bool false, .int .i64 0, .int .u32 0, .slice none 0 (some 0), .bool false, .int .i64 0, .int .u32 0, .slice none 0 (some 0), .bool false, .int .i64 0, .int .u32 0, .slice none 0 (some 0), .bool false, .int .i64 0, .int .u32 1, .slice (some (2298, 0)) 800 none, .bool true, .int .i64 1] 0 .yes),
  (39, .map [(.int .u32 1, .int .i64 7, 0)] 1),
  (40, .cells [.ptr (some (25, 0)), .slice (some (38, 0)) 8 (some 8), .map (some 39), .slice (some (56, 0)) 7 none, .ptr (some (37, 0))] 0 .yes),
  (56, .cells [.int .i64 0, .int .i64 1, .int .i64 2, .int .i64 3, .int .i64 4, .int .i64 5, .int .i64 6, .int .i64 7] 1 .yes),
  (57, .cells [.int .u64 3] 0 .yes),
  (58, .cells [.int .i64 20, .int .i64 2, .slice (some (57, 0)) 1 (some 1)] 0 .yes),
  (59, .cells [.ptr (some (58, 0))] 0 .yes),
  (60, .cells [.int .i64 20, .int .i64 800, .int .i64 8, .int .i64 8, .int .i64 16, .int .i64 16, .int .i64 24, .int .i64 3, .ptr (some (25, 0)), .ptr (some (40, 0)), .ptr (some (59, 0)), .int .u32 1] 0 .yes),
  (2298, .cells (by8 [1, 0, 0, 5, 0, 0, 0, 0, 13, 0, 1, 1, 0, 0, 0, 0, 0, 0, 0, 1, 2, 97, 0, 1, 0, 0, 0, 0, 0, 0, 0, 0, 0, 0, 0, 120, 0, 0, 13, 0, 1, 1, 0, 0, 0, 0, 0, 0, 0, 1, 2, 98, 0, 1, 0, 0, 0, 0, 0, 0, 0, 0, 0, 0, 0, 120, 0, 0, 17, 0, 0, 1, 0, 0, 0, 0, 0, 0, 0, 2, 2, 120, 0, 1, 2, 97, 0, 1, 0, 0, 0, 0, 0, 0, 0, 0, 0, 0, 17, 0, 0, 1, 0, 0, 0, 0, 0, 0, 0, 2, 2, 120, 0, 1, 2, 98, 0, 1, 0, 0, 0, 0, 0, 0, 0, 0, 0, 0, 17, 0, 0, 1, 0, 0, 0, 0, 0, 0, 0, 2, 2, 121, 0, 1, 2, 97, 0, 1] ++ (nul 652)) 1 (.of 5)),
  (2538, .cells [.str [1, 0, 0, 0, 0, 0, 0, 0, 1, 2, 97, 0, 1], .str [121], .str [1, 0, 0, 0, 0, 0, 0, 0, 1, 2, 98, 0, 1], .str [120], .str [1, 0, 0, 0, 0, 0, 0, 0, 2, 2, 120, 0, 1, 2, 97, 0, 1], .str [], .str [1, 0, 0, 0, 0, 0, 0, 0, 2, 2, 120, 0, 1, 2, 98, 0, 1], .str [], .str [1, 0, 0, 0, 0, 0, 0, 0, 2, 2, 121, 0, 1, 2, 97, 0, 1], .str []] 2 .yes)],
 v := .int .i64 0, nout := 2671, ldel := [],
 lset := [(38, .cells [.int .u32 0, .slice none 0 (some 0), .bool false, .int .i64 0, .int .u32 0, .slice none 0 (some 0), .bool false, .int .i64 0, .int .u32 0, .slice none 0 (some 0), .bool false, .int .i64 0, .int .u32 0, .slice none 0 (some 0), .bool false, .int .i64 0, .int .u32 0, .slice none 0 (some 0), .bool false, .int .i64 0, .int .u32 0, .slice none 0 (some 0), .bool false, .int .i64 0, .int .u32 0, .slice none 0 (some 0), .bool false, .int .i64 0, .int .u32 1, .slice (some (2670, 0)) 800 none, .bool true, .int .i64 1] 0 .yes),
  (2670, .cells (by8 [1, 0, 0, 5, 0, 0, 0, 0, 13, 0, 1, 1, 0, 0, 0, 0, 0, 0, 0, 1, 2, 97, 0, 1, 0, 0, 0, 0, 0, 0, 0, 0, 0, 0, 0, 121, 0, 0, 13, 0, 1, 1, 0, 0, 0, 0, 0, 0, 0, 1, 2, 98, 0, 1, 0, 0, 0, 0, 0, 0, 0, 0, 0, 0, 0, 120, 0, 0, 17, 0, 0, 1, 0, 0, 0, 0, 0, 0, 0, 2, 2, 120, 0, 1, 2, 97, 0, 1, 0, 0, 0, 0, 0, 0, 0, 0, 0, 0, 17, 0, 0, 1, 0, 0, 0, 0, 0, 0, 0, 2, 2, 120, 0, 1, 2, 98, 0, 1, 0, 0, 0, 0, 0, 0, 0, 0, 0, 0, 17, 0, 0, 1, 0, 0, 0, 0, 0, 0, 0, 2, 2, 121, 0, 1, 2, 97, 0, 1] ++ (nul 652)) 1 (.of 5))] }

noncomputable def hk31F (args : List AV) (M : AMem) : Option (AV × AMem) := match hk30 148 with
  | some h => h args M
  | none => acall Tryz.prog hk30 1000 148 args M

noncomputable def hk31 : Hook := fun f => match f with
  | 148 => some (cutAt [cut31] hk31F)
  | _ => hk30 f

def cut32 : Cut := {
 args := [.ptr (some (111, 0)), .agg [.str [1, 0, 0, 0, 0, 0, 0, 0, 1, 2, 97, 0, 1], .bool false, .str [121]]], nin := 2340,
 lin := [(3, .ro (by8 [0, 1, 56, 2, 57, 49, 28, 3, 61, 58, 42, 50, 38, 29, 17, 4, 62, 47, 59, 36, 45, 43, 51, 22, 53, 39, 33, 30, 24, 18, 12, 5, 63, 55, 48, 27, 60, 41, 37, 16, 46, 35, 44, 21, 52, 32, 23, 11, 54, 26, 40, 15, 34, 20, 31, 10, 25, 14, 19, 9, 13, 8, 7, 6])),
  (24, .cells (by8 [83, 76, 85, 73, 67, 69, 48, 49, 0, 0, 0, 20, 0, 0, 3, 32, 0, 0, 0, 8, 0, 0, 0, 8, 0, 0, 0, 16, 0, 0, 0, 16, 0, 0, 0, 24, 0, 0, 0, 3, 0, 0, 0, 1, 0, 0, 0, 1, 0, 0, 0, 0, 0, 0, 0, 0, 0, 0, 0, 0, 141, 122, 2, 171] ++ (nul 736 ++ (by8 [1] ++ (nul 15199)))) 0 .yes),
  (25, .cells [.int .i64 800, .slice (some (24, 0)) 16000 (some 16000), .int .u64 0, .int .u64 2] 0 .yes),
  (36, .cells [.int .i64 0, .int .i64 0, .bool false, .int .i64 0, .int .i64 0, .bool false, .int .i64 0, .int .i64 0, .bool false, .int .i64 0, .int .i64 0, .bool false, .int .i64 0, .int .i64 0, .bool false, .int .i64 0, .int .i64 0, .bool false, .int .i64 0, .int .i64 0, .bool false, .int .i64 0, .int .i64 0, .bool false, .int .i64 8, .int .i64 8, .bool false] 0 .yes),
  (37, .cells [.slice (some (36, 0)) 9 (some 9), .int .i64 0] 0 .yes),
  (38, .cells [.int .u32 0, .slice none 0 (some 0), .bool false, .int .i64 0, .int .u32 0, .slice none 0 (some 0), .bool false, .int .i64 0, .int .u32 0, .slice none 0 (some 0), .bool false, .int .i64 0, .int .u32 0, .slice none 0 (some 0), .bool false, .int .i64 0, .int .u32 0, .slice none 0 (some 0), .bool false, .int .i64 0, .int .u32 0, .slice none 0 (some 0), .bool false, .int .i64 0, .int .u32 0, .slice none 0 (some 0), .bool false, .int .i64 0, .int .u32 1, .slice (some (2298, 0)) 800 none, .bool true, .int .i64 1] 0 .yes),
  (39, .map [(.int .u32 1, .int .i64 7, 0)] 1),
  (40, .cells [.ptr (some (25, 0)), .slice (some (38, 0)) 8 (some 8), .map (some 39), .slice (some (56, 0)) 7 none, .ptr (some (37, 0))] 0 .yes),
  (56, .cells [.int .i64 0, .int .i64 1, .int .i64 2, .int .i64 3, .int .i64 4, .int .i64 5, .int .i64 6, .int .i64 7] 1 .yes),
  (57, .cells [.int .u64 3] 0 .yes),
  (58, .cells [.int .i64 20, .int .i64 2, .slice (some (57, 0)) 1 (some 1)] 0 .yes),
  (59, .cells [.ptr (some (58, 0))] 0 .yes),
  (60, .cells [.int .i64 20, .int .i64 800, .int .i64 8, .int .i64 8, .int .i64 16, .int .i64 16, .int .i64 24, .int .i64 3, .ptr (some (25, 0)), .ptr (some (40, 0)), .ptr (some (59, 0)), .int .u32 1] 0 .yes),
  (111, .cells [.ptr (some (60, 0)), .int .u32 1, .int .i64 0, .int .i64 5, .int .i64 0, .int .i64 0] 0 .yes),
  (2298, .cells (by8 [1, 0, 0, 5, 0, 0, 0, 0, 13, 0, 1, 1, 0, 0, 0, 0, 0, 0, 0, 1, 2, 97, 0, 1, 0, 0, 0, 0, 0, 0, 0, 0, 0, 0, 0, 120, 0, 0, 13, 0, 1, 1, 0, 0, 0, 0, 0, 0, 0, 1, 2, 98, 0, 1, 0, 0, 0, 0, 0, 0, 0, 0, 0, 0, 0, 120, 0, 0, 17, 0, 0, 1, 0, 0, 0, 0, 0, 0, 0, 2, 2, 120, 0, 1, 2, 97, 0, 1, 0, 0, 0, 0, 0, 0, 0, 0, 0, 0, 17, 0, 0, 1, 0, 0, 0, 0, 0, 0, 0, 2, 2, 120, 0, 1, 2, 98, 0, 1, 0, 0, 0, 0, 0, 0, 0, 0, 0, 0, 17, 0, 0, 1, 0, 0, 0, 0, 0, 0, 0, 2, 2, 121, 0, 1, 2, 97, 0, 1] ++ (nul 652)) 1 (.of 5))],
 v := .int .i64 0, nout := 2672, ldel := [],
 lset := [(38, .cells [.int .u32 0, .slice none 0 (some 0), .bool false, .int .i64 0, .int .u32 0, .slice none 0 (some 0), .bool false, .int .i64 0, .int .u32 0, .slice none 0 (some 0), .bool false, .int .i64 0, .int .u32 0, .slice none 0 (some 0), .bool false, .int .i64 0, .int .u32 0, .slice none 0 (some 0), .bool false, .int .i64 0, .int .u32 0, .slice none 0 (some 0), .bool false, .int .i64 0, .int .u32 0, .slice none 0 (some 0), .bool false, .int .i64 0, .int .u32 1, .slice (some (2670, 0)) 800 none, .bool true, .int .i64 1] 0 .yes),
  (111, .cells [.ptr (some (60, 0)), .int .u32 1, .int .i64 0, .int .i64 6, .int .i64 0, .int .i64 0] 0 .yes),
  (2670, .cells (by8 [1, 0, 0, 5, 0, 0, 0, 0, 13, 0, 1, 1, 0, 0, 0, 0, 0, 0, 0, 1, 2, 97, 0, 1, 0, 0, 0, 0, 0, 0, 0, 0, 0, 0, 0, 121, 0, 0, 13, 0, 1, 1, 0, 0, 0, 0, 0, 0, 0, 1, 2, 98, 0, 1, 0, 0, 0, 0, 0, 0, 0, 0, 0, 0, 0, 120, 0, 0, 17, 0, 0, 1, 0, 0, 0, 0, 0, 0, 0, 2, 2, 120, 0, 1, 2, 97, 0, 1, 0, 0, 0, 0, 0, 0, 0, 0, 0, 0, 17, 0, 0, 1, 0, 0, 0, 0, 0, 0, 0, 2, 2, 120, 0, 1, 2, 98, 0, 1, 0, 0, 0, 0, 0, 0, 0, 0, 0, 0, 17, 0, 0, 1, 0, 0, 0, 0, 0, 0, 0, 2, 2, 121, 0, 1, 2, 97, 0, 1] ++ (nul 652)) 1 (.of 5))] }

noncomputable def hk32F (args : List AV) (M : AMem) : Option (AV × AMem) := match hk31 76 with
  | some h => h args M
  | none => acall Tryz.prog hk31 1000 76 args M

noncomputable def hk32 : Hook := fun f => match f with
  | 76 => some (cutAt [cut32] hk32F)
  | _ => hk31 f

def cut33 : Cut := {
 args := [.ptr (some (249, 0)), .str [1, 0, 0, 0, 0, 0, 0, 0, 1, 2, 97, 0, 1], .str [121]], nin := 2335,
 lin := [(3, .ro (by8 [0, 1, 56, 2, 57, 49, 28, 3, 61, 58, 42, 50, 38, 29, 17, 4, 62, 47, 59, 36, 45, 43, 51, 22, 53, 39, 33, 30, 24, 18, 12, 5, 63, 55, 48, 27, 60, 41, 37, 16, 46, 35, 44, 21, 52, 32, 23, 11, 54, 26, 40, 15, 34, 20, 31, 10, 25, 14, 19, 9, 13, 8, 7, 6])),
  (24, .cells (by8 [83, 76, 85, 73, 67, 69, 48, 49, 0, 0, 0, 20, 0, 0, 3, 32, 0, 0, 0, 8, 0, 0, 0, 8, 0, 0, 0, 16, 0, 0, 0, 16, 0, 0, 0, 24, 0, 0, 0, 3, 0, 0, 0, 1, 0, 0, 0, 1, 0, 0, 0, 0, 0, 0, 0, 0, 0, 0, 0, 0, 141, 122, 2, 171] ++ (nul 736 ++ (by8 [1] ++ (nul 15199)))) 0 .yes),
  (25, .cells [.int .i64 800, .slice (some (24, 0)) 16000 (some 16000), .int .u64 0, .int .u64 2] 0 .yes),
  (36, .cells [.int .i64 0, .int .i64 0, .bool false, .int .i64 0, .int .i64 0, .bool false, .int .i64 0, .int .i64 0, .bool false, .int .i64 0, .int .i64 0, .bool false, .int .i64 0, .int .i64 0, .bool false, .int .i64 0, .int .i64 0, .bool false, .int .i64 0, .int .i64 0, .bool false, .int .i64 0, .int .i64 0, .bool false, .int .i64 8, .int .i64 8, .bool false] 0 .yes),
  (37, .cells [.slice (some (36, 0)) 9 (some 9), .int .i64 0] 0 .yes),
  (38, .cells [.int .u32 0, .slice none 0 (some 0), .bool false, .int .i64 0, .int .u32 0, .slice none 0 (some 0), .bool false, .int .i64 0, .int .u32 0, .slice none 0 (some 0), .bool false, .int .i64 0, .int .u32 0, .slice none 0 (some 0), .bool false, .int .i64 0, .int .u32 0, .slice none 0 (some 0), .bool false, .int .i64 0, .int .u32 0, .slice none 0 (some 0), .bool false, .int .i64 0, .int .u32 0, .slice none 0 (some 0), .bool false, .int .i64 0, .int .u32 1, .slice (some (2298, 0)) 800 none, .bool true, .int .i64 1] 0 .yes),
  (39, .map [(.int .u32 1, .int .i64 7, 0)] 1),
  (40, .cells [.ptr (some (25, 0)), .slice (some (38, 0)) 8 (some 8), .map (some 39), .slice (some (56, 0)) 7 none, .ptr (some (37, 0))] 0 .yes),
  (56, .cells [.int .i64 0, .int .i64 1, .int .i64 2, .int .i64 3, .int .i64 4, .int .i64 5, .int .i64 6, .int .i64 7] 1 .yes),
  (57, .cells [.int .u64 3] 0 .yes),
  (58, .cells [.int .i64 20, .int .i64 2, .slice (some (57, 0)) 1 (some 1)] 0 .yes),
  (59, .cells [.ptr (some (58, 0))] 0 .yes),
  (60, .cells [.int .i64 20, .int .i64 800, .int .i64 8, .int .i64 8, .int .i64 16, .int .i64 16, .int .i64 24, .int .i64 3, .ptr (some (25, 0)), .ptr (some (40, 0)), .ptr (some (59, 0)), .int .u32 1] 0 .yes),
  (111, .cells [.ptr (some (60, 0)), .int .u32 1, .int .i64 0, .int .i64 5, .int .i64 0, .int .i64 0] 0 .yes),
  (113, .cells [.ptr (some (25, 0)), .ptr (some (111, 0))] 0 .yes),
  (249, .cells [.int .i64 20, .int .i64 800, .int .i64 8, .int .i64 8, .int .i64 16, .int .i64 16, .int .i64 24, .int .i64 3, .ptr (some (113, 0)), .bool true, .int .u64 0, .int .u64 0, .int .u64 0, .int .u64 0] 0 .yes),
  (2298, .cells (by8 [1, 0, 0, 5, 0, 0, 0, 0, 13, 0, 1, 1, 0, 0, 0, 0, 0, 0, 0, 1, 2, 97, 0, 1, 0, 0, 0, 0, 0, 0, 0, 0, 0, 0, 0, 120, 0, 0, 13, 0, 1, 1, 0, 0, 0, 0, 0, 0, 0, 1, 2, 98, 0, 1, 0, 0, 0, 0, 0, 0, 0, 0, 0, 0, 0, 120, 0, 0, 17, 0, 0, 1, 0, 0, 0, 0, 0, 0, 0, 2, 2, 120, 0, 1, 2, 97, 0, 1, 0, 0, 0, 0, 0, 0, 0, 0, 0, 0, 17, 0, 0, 1, 0, 0, 0, 0, 0, 0, 0, 2, 2, 120, 0, 1, 2, 98, 0, 1, 0, 0, 0, 0, 0, 0, 0, 0, 0, 0, 17, 0, 0, 1, 0, 0, 0, 0, 0, 0, 0, 2, 2, 121, 0, 1, 2, 97, 0, 1] ++ (nul 652)) 1 (.of 5))],
 v := .int .i64 0, nout := 2679, ldel := [],
 lset := [(38, .cells [.int .u32 0, .slice none 0 (some 0), .bool false, .int .i64 0, .int .u32 0, .slice none 0 (some 0), .bool false, .int .i64 0, .int .u32 0, .slice none 0 (some 0), .bool false, .int .i64 0, .int .u32 0, .slice none 0 (some 0), .bool false, .int .i64 0, .int .u32 0, .slice none 0 (some 0), .bool false, .int .i64 0, .int .u32 0, .slice none 0 (some 0), .bool false, .int .i64 0, .int .u32 0, .slice none 0 (some 0), .bool false, .int .i64 0, .int .u32 1, .slice (some (2670, 0)) 800 none, .bool true, .int .i64 1] 0 .yes),
  (111, .cells [.ptr (some (60, 0)), .int .u32 1, .int .i64 0, .int .i64 6, .int .i64 0, .int .i64 0] 0 .yes),
  (2670, .cells (by8 [1, 0, 0, 5, 0, 0, 0, 0, 13, 0, 1, 1, 0, 0, 0, 0, 0, 0, 0, 1, 2, 97, 0, 1, 0, 0, 0, 0, 0, 0, 0, 0, 0, 0, 0, 121, 0, 0, 13, 0, 1, 1, 0, 0, 0, 0, 0, 0, 0, 1, 2, 98, 0, 1, 0, 0, 0, 0, 0, 0, 0, 0, 0, 0, 0, 120, 0, 0, 17, 0, 0, 1, 0, 0, 0, 0, 0, 0, 0, 2, 2, 120, 0, 1, 2, 97, 0, 1, 0, 0, 0, 0, 0, 0, 0, 0, 0, 0, 17, 0, 0, 1, 0, 0, 0, 0, 0, 0, 0, 2, 2, 120, 0, 1, 2, 98, 0, 1, 0, 0, 0, 0, 0, 0, 0, 0, 0, 0, 17, 0, 0, 1, 0, 0, 0, 0, 0, 0, 0, 2, 2, 121, 0, 1, 2, 97, 0, 1] ++ (nul 652)) 1 (.of 5))] }

noncomputable def hk33F (args : List AV) (M : AMem) : Option (AV × AMem) := match hk32 28 with
  | some h => h args M
  | none => acall Tryz.prog hk32 1000 28 args M

noncomputable def hk33 : Hook := fun f => match f with
  | 28 => some (cutAt [cut33] hk33F)
  | _ => hk32 f

def cut34 : Cut := {
 args := [.agg [.int .i64 20, .int .i64 800, .int .i64 8, .int .i64 8, .int .i64 16, .int .i64 16, .int .i64 24, .int .i64 3], .slice (some (2726, 0)) 800 none], nin := 2727,
 lin := [(3, .ro (by8 [0, 1, 56, 2, 57, 49, 28, 3, 61, 58, 42, 50, 38, 29, 17, 4, 62, 47, 59, 36, 45, 43, 51, 22, 53, 39, 33, 30, 24, 18, 12, 5, 63, 55, 48, 27, 60, 41, 37, 16, 46, 35, 44, 21, 52, 32, 23, 11, 54, 26, 40, 15, 34, 20, 31, 10, 25, 14, 19, 9, 13, 8, 7, 6])),
  (2726, .cells (by8 [1, 0, 0, 5, 0, 0, 0, 0, 13, 0, 1, 1, 0, 0, 0, 0, 0, 0, 0, 1, 2, 97, 0, 1, 0, 0, 0, 0, 0, 0, 0, 0, 0, 0, 0, 121, 0, 0, 13, 0, 1, 1, 0, 0, 0, 0, 0, 0, 0, 1, 2, 98, 0, 1, 0, 0, 0, 0, 0, 0, 0, 0, 0, 0, 0, 120, 0, 0, 17, 0, 0, 1, 0, 0, 0, 0, 0, 0, 0, 2, 2, 120, 0, 1, 2, 97, 0, 1, 0, 0, 0, 0, 0, 0, 0, 0, 0, 0, 17, 0, 0, 1, 0, 0, 0, 0, 0, 0, 0, 2, 2, 120, 0, 1, 2, 98, 0, 1, 0, 0, 0, 0, 0, 0, 0, 0, 0, 0, 17, 0, 0, 1, 0, 0, 0, 0, 0, 0, 0, 2, 2, 121, 0, 1, 2, 97, 0, 1] ++ (nul 652)) 1 (.of 5))],
 v := .tup [.agg [.int .i64 0, .slice none 0 (some 0), .slice none 0 (some 0), .slice none 0 (some 0), .slice (some (2784, 0)) 5 none], .int .i64 0], nout := 2909, ldel := [],
 lset := [(2784, .cells [.str [1, 0, 0, 0, 0, 0, 0, 0, 1, 2, 97, 0, 1], .str [121], .str [1, 0, 0, 0, 0, 0, 0, 0, 1, 2, 98, 0, 1], .str [120], .str [1, 0, 0, 0, 0, 0, 0, 0, 2, 2, 120, 0, 1, 2, 97, 0, 1], .str [], .str [1, 0, 0, 0, 0, 0, 0, 0, 2, 2, 120, 0, 1, 2, 98, 0, 1], .str [], .str [1, 0, 0, 0, 0, 0, 0, 0, 2, 2, 121, 0, 1, 2, 97, 0, 1], .str []] 2 .yes)] }

noncomputable def hk34F (args : List AV) (M : AMem) : Option (AV × AMem) := match hk33 146 with
  | some h => h args M
  | none => acall Tryz.prog hk33 1000 146 args M

noncomputable def hk34 : Hook := fun f => match f with
  | 146 => some (cutAt [cut34] hk34F)
  | _ => hk33 f

def cut35 : Cut := {
 args := [.ptr (some (60, 0)), .int .u32 1, .agg [.int .i64 0, .slice none 0 (some 0), .slice none 0 (some 0), .slice none 0 (some 0), .slice (some (2916, 0)) 4 none]], nin := 2921,
 lin := [(3, .ro (by8 [0, 1, 56, 2, 57, 49, 28, 3, 61, 58, 42, 50, 38, 29, 17, 4, 62, 47, 59, 36, 45, 43, 51, 22, 53, 39, 33, 30, 24, 18, 12, 5, 63, 55, 48, 27, 60, 41, 37, 16, 46, 35, 44, 21, 52, 32, 23, 11, 54, 26, 40, 15, 34, 20, 31, 10, 25, 14, 19, 9, 13, 8, 7, 6])),
  (24, .cells (by8 [83, 76, 85, 73, 67, 69, 48, 49, 0, 0, 0, 20, 0, 0, 3, 32, 0, 0, 0, 8, 0, 0, 0, 8, 0, 0, 0, 16, 0, 0, 0, 16, 0, 0, 0, 24, 0, 0, 0, 3, 0, 0, 0, 1, 0, 0, 0, 1, 0, 0, 0, 0, 0, 0, 0, 0, 0, 0, 0, 0, 141, 122, 2, 171] ++ (nul 736 ++ (by8 [1] ++ (nul 15199)))) 0 .yes),
  (25, .cells [.int .i64 800, .slice (some (24, 0)) 16000 (some 16000), .int .u64 0, .int .u64 2] 0 .yes),
  (36, .cells [.int .i64 0, .int .i64 0, .bool false, .int .i64 0, .int .i64 0, .bool false, .int .i64 0, .int .i64 0, .bool false, .int .i64 0, .int .i64 0, .bool false, .int .i64 0, .int .i64 0, .bool false, .int .i64 0, .int .i64 0, .bool false, .int .i64 0, .int .i64 0, .bool false, .int .i64 0, .int .i64 0, .bool false, .int .i64 8, .int .i64 8, .bool false] 0 .yes),
  (37, .cells [.slice (some (36, 0)) 9 (some 9), .int .i64 0] 0 .yes),
  (38, .cells [.int .u32 0, .slice none 0 (some 0), .bool false, .int .i64 0, .int .u32 0, .slice none 0 (some 0), .bool false, .int .i64 0, .int .u32 0, .slice none 0 (some 0), .bool false, .int .i64 0, .int .u32 0, .slice none 0 (some 0), .bool false, .int .i64 0, .int .u32 0, .slice none 0 (some 0), .bool false, .int .i64 0, .int .u32 0, .slice none 0 (some 0), .bool false, .int .i64 0, .int .u32 0, .slice none 0 (some 0), .bool false, .int .i64 0, .int .u32 1, .slice (some (2670, 0)) 800 none, .bool true, .int .i64 1] 0 .yes),
  (39, .map [(.int .u32 1, .int .i64 7, 0)] 1),
  (40, .cells [.ptr (some (25, 0)), .slice (some (38, 0)) 8 (some 8), .map (some 39), .slice (some (56, 0)) 7 none, .ptr (some (37, 0))] 0 .yes),
  (56, .cells [.int .i64 0, .int .i64 1, .int .i64 2, .int .i64 3, .int .i64 4, .int .i64 5, .int .i64 6, .int .i64 7] 1 .yes),
  (57, .cells [.int .u64 3] 0 .yes),
  (58, .cells [.int .i64 20, .int .i64 2, .slice (some (57, 0)) 1 (some 1)] 0 .yes),
  (59, .cells [.ptr (some (58, 0))] 0 .yes),
  (60, .cells [.int .i64 20, .int .i64 800, .int .i64 8, .int .i64 8, .int .i64 16, .int .i64 16, .int .i64 24, .int .i64 3, .ptr (some (25, 0)), .ptr (some (40, 0)), .ptr (some (59, 0)), .int .u32 1] 0 .yes),
  (2670, .cells (by8 [1, 0, 0, 5, 0, 0, 0, 0, 13, 0, 1, 1, 0, 0, 0, 0, 0, 0, 0, 1, 2, 97, 0, 1, 0, 0, 0, 0, 0, 0, 0, 0, 0, 0, 0, 121, 0, 0, 13, 0, 1, 1, 0, 0, 0, 0, 0, 0, 0, 1, 2, 98, 0, 1, 0, 0, 0, 0, 0, 0, 0, 0, 0, 0, 0, 120, 0, 0, 17, 0, 0, 1, 0, 0, 0, 0, 0, 0, 0, 2, 2, 120, 0, 1, 2, 97, 0, 1, 0, 0, 0, 0, 0, 0, 0, 0, 0, 0, 17, 0, 0, 1, 0, 0, 0, 0, 0, 0, 0, 2, 2, 120, 0, 1, 2, 98, 0, 1, 0, 0, 0, 0, 0, 0, 0, 0, 0, 0, 17, 0, 0, 1, 0, 0, 0, 0, 0, 0, 0, 2, 2, 121, 0, 1, 2, 97, 0, 1] ++ (nul 652)) 1 (.of 5)),
  (2916, .cells [.str [1, 0, 0, 0, 0, 0, 0, 0, 1, 2, 97, 0, 1], .str [121], .str [1, 0, 0, 0, 0, 0, 0, 0, 1, 2, 98, 0, 1], .str [120], .str [1, 0, 0, 0, 0, 0, 0, 0, 2, 2, 120, 0, 1, 2, 98, 0, 1], .str [], .str [1, 0, 0, 0, 0, 0, 0, 0, 2, 2, 121, 0, 1, 2, 97, 0, 1], .str [], .str [], .str []] 2 .yes)],
 v := .int .i64 0, nout := 3032, ldel := [],
 lset := [(38, .cells [.int .u32 0, .slice none 0 (some 0), .bool false, .int .i64 0, .int .u32 0, .slice none 0 (some 0), .bool false, .int .i64 0, .int .u32 0, .slice none 0 (some 0), .bool false, .int .i64 0, .int .u32 0, .slice none 0 (some 0), .bool false, .int .i64 0, .int .u32 0, .slice none 0 (some 0), .bool false, .int .i64 0, .int .u32 0, .slice none 0 (some 0), .bool false, .int .i64 0, .int .u32 0, .slice none 0 (some 0), .bool false, .int .i64 0, .int .u32 1, .slice (some (3031, 0)) 800 none, .bool true, .int .i64 1] 0 .yes),
  (3031, .cells (by8 [1, 0, 0, 4, 0, 0, 0, 0, 13, 0, 1, 1, 0, 0, 0, 0, 0, 0, 0, 1, 2, 97, 0, 1, 0, 0, 0, 0, 0, 0, 0, 0, 0, 0, 0, 121, 0, 0, 13, 0, 1, 1, 0, 0, 0, 0, 0, 0, 0, 1, 2, 98, 0, 1, 0, 0, 0, 0, 0, 0, 0, 0, 0, 0, 0, 120, 0, 0, 17, 0, 0, 1, 0, 0, 0, 0, 0, 0, 0, 2, 2, 120, 0, 1, 2, 98, 0, 1, 0, 0, 0, 0, 0, 0, 0, 0, 0, 0, 17, 0, 0, 1, 0, 0, 0, 0, 0, 0, 0, 2, 2, 121, 0, 1, 2, 97, 0, 1] ++ (nul 682)) 1 (.of 5))] }

noncomputable def hk35F (args : List AV) (M : AMem) : Option (AV × AMem) := match hk34 148 with
  | some h => h args M
  | none => acall Tryz.prog hk34 1000 148 args M

noncomputable def hk35 : Hook := fun f => match f with
  | 148 => some (cutAt [cut35] hk35F)
  | _ => hk34 f

def cut36 : Cut := {
 args := [.ptr (some (111, 0)), .agg [.str [1, 0, 0, 0, 0, 0, 0, 0, 2, 2, 120, 0, 1, 2, 97, 0, 1], .bool true, .str []]], nin := 2718,
 lin := [(3, .ro (by8 [0, 1, 56, 2, 57, 49, 28, 3, 61, 58, 42, 50, 38, 29, 17, 4, 62, 47, 59, 36, 45, 43, 51, 22, 53, 39, 33, 30, 24, 18, 12, 5, 63, 55, 48, 27, 60, 41, 37, 16, 46, 35, 44, 21, 52, 32, 23, 11, 54, 26, 40, 15, 34, 20, 31, 10, 25, 14, 19, 9, 13, 8, 7, 6])),
  (24, .cells (by8 [83, 76, 85, 73, 67, 69, 48, 49, 0, 0, 0, 20, 0, 0, 3, 32, 0, 0, 0, 8, 0, 0, 0, 8, 0, 0, 0, 16, 0, 0, 0, 16, 0, 0, 0, 24, 0, 0, 0, 3, 0, 0, 0, 1, 0, 0, 0, 1, 0, 0, 0, 0, 0, 0, 0, 0, 0, 0, 0, 0, 141, 122, 2, 171] ++ (nul 736 ++ (by8 [1] ++ (nul 15199)))) 0 .yes),
  (25, .cells [.int .i64 800, .slice (some (24, 0)) 16000 (some 16000), .int .u64 0, .int .u64 2] 0 .yes),
  (36, .cells [.int .i64 0, .int .i64 0, .bool false, .int .i64 0, .int .i64 0, .bool false, .int .i64 0, .int .i64 0, .bool false, .int .i64 0, .int .i64 0, .bool false, .int .i64 0, .int .i64 0, .bool false, .int .i64 0, .int .i64 0, .bool false, .int .i64 0, .int .i64 0, .bool false, .int .i64 0, .int .i64 0, .bool false, .int .i64 8, .int .i64 8, .bool false] 0 .yes),
  (37, .cells [.slice (some (36, 0)) 9 (some 9), .int .i64 0] 0 .yes),
  (38, .cells [.int .u32 0, .slice none 0 (some 0), .bool false, .int .i64 0, .int .u32 0, .slice none 0 (some 0), .bool false, .int .i64 0, .int .u32 0, .slice none 0 (some 0), .bool false, .int .i64 0, .int .u32 0, .slice none 0 (some 0), .bool false, .int .i64 0, .int .u32 0, .slice none 0 (some 0), .bool false, .int .i64 0, .int .u32 0, .slice none 0 (some 0), .bool false, .int .i64 0, .int .u32 0, .slice none 0 (some 0), .bool false, .int .i64 0, .int .u32 1, .slice (some (2670, 0)) 800 none, .bool true, .int .i64 1] 0 .yes),
  (39, .map [(.int .u32 1, .int .i64 7, 0)] 1),
  (40, .cells [.ptr (some (25, 0)), .slice (some (38, 0)) 8 (some 8), .map (some 39), .slice (some (56, 0)) 7 none, .ptr (some (37, 0))] 0 .yes),
  (56, .cells [.int .i64 0, .int .i64 1, .int .i64 2, .int .i64 3, .int .i64 4, .int .i64 5, .int .i64 6, .int .i64 7] 1 .yes),
  (57, .cells [.int .u64 3] 0 .yes),
  (58, .cells [.int .i64 20, .int .i64 2, .slice (some (57, 0)) 1 (some 1)] 0 .yes),
  (59, .cells [.ptr (some (58, 0))] 0 .yes),
  (60, .cells [.int .i64 20, .int .i64 800, .int .i64 8, .int .i64 8, .int .i64 16, .int .i64 16, .int .i64 24, .int .i64 3, .ptr (some (25, 0)), .ptr (some (40, 0)), .ptr (some (59, 0)), .int .u32 1] 0 .yes),
  (111, .cells [.ptr (some (60, 0)), .int .u32 1, .int .i64 0, .int .i64 6, .int .i64 0, .int .i64 0] 0 .yes),
  (2670, .cells (by8 [1, 0, 0, 5, 0, 0, 0, 0, 13, 0, 1, 1, 0, 0, 0, 0, 0, 0, 0, 1, 2, 97, 0, 1, 0, 0, 0, 0, 0, 0, 0, 0, 0, 0, 0, 121, 0, 0, 13, 0, 1, 1, 0, 0, 0, 0, 0, 0, 0, 1, 2, 98, 0, 1, 0, 0, 0, 0, 0, 0, 0, 0, 0, 0, 0, 120, 0, 0, 17, 0, 0, 1, 0, 0, 0, 0, 0, 0, 0, 2, 2, 120, 0, 1, 2, 97, 0, 1, 0, 0, 0, 0, 0, 0, 0, 0, 0, 0, 17, 0, 0, 1, 0, 0, 0, 0, 0, 0, 0, 2, 2, 120, 0, 1, 2, 98, 0, 1, 0, 0, 0, 0, 0, 0, 0, 0, 0, 0, 17, 0, 0, 1, 0, 0, 0, 0, 0, 0, 0, 2, 2, 121, 0, 1, 2, 97, 0, 1] ++ (nul 652)) 1 (.of 5))],
 v := .int .i64 0, nout := 3033, ldel := [],
 lset := [(38, .cells [.int .u32 0, .slice none 0 (some 0), .bool false, .int .i64 0, .int .u32 0, .slice none 0 (some 0), .bool false, .int .i64 0, .int .u32 0, .slice none 0 (some 0), .bool false, .int .i64 0, .int .u32 0, .slice none 0 (some 0), .bool false, .int .i64 0, .int .u32 0, .slice none 0 (some 0), .bool false, .int .i64 0, .int .u32 0, .slice none 0 (some 0), .bool false, .int .i64 0, .int .u32 0, .slice none 0 (some 0), .bool false, .int .i64 0, .int .u32 1, .slice (some (3031, 0)) 800 none, .bool true, .int .i64 1] 0 .yes),
  (111, .cells [.ptr (some (60, 0)), .int .u32 1, .int .i64 0, .int .i64 7, .int .i64 0, .int .i64 0] 0 .yes),
  (3031, .cells (by8 [1, 0, 0, 4, 0, 0, 0, 0, 13, 0, 1, 1, 0, 0, 0, 0, 0, 0, 0, 1, 2, 97, 0, 1, 0, 0, 0, 0, 0, 0, 0, 0, 0, 0, 0, 121, 0, 0, 13, 0, 1, 1, 0, 0, 0, 0, 0, 0, 0, 1, 2, 98, 0, 1, 0, 0, 0, 0, 0, 0, 0, 0, 0, 0, 0, 120, 0, 0, 17, 0, 0, 1, 0, 0, 0, 0, 0, 0, 0, 2, 2, 120, 0, 1, 2, 98, 0, 1, 0, 0, 0, 0, 0, 0, 0, 0, 0, 0, 17, 0, 0, 1, 0, 0, 0, 0, 0, 0, 0, 2, 2, 121, 0, 1, 2, 97, 0, 1] ++ (nul 682)) 1 (.of 5))] }

noncomputable def hk36F (args : List AV) (M : AMem) : Option (AV × AMem) := match hk35 76 with
  | some h => h args M
  | none => acall Tryz.prog hk35 1000 76 args M

noncomputable def hk36 : Hook := fun f => match f with
  | 76 => some (cutAt [cut36] hk36F)
  | _ => hk35 f

def cut37 : Cut := {
 args := [.ptr (some (249, 0)), .str [1, 0, 0, 0, 0, 0, 0, 0, 2, 2, 120, 0, 1, 2, 97, 0, 1]], nin := 2713,
 lin := [(3, .ro (by8 [0, 1, 56, 2, 57, 49, 28, 3, 61, 58, 42, 50, 38, 29, 17, 4, 62, 47, 59, 36, 45, 43, 51, 22, 53, 39, 33, 30, 24, 18, 12, 5, 63, 55, 48, 27, 60, 41, 37, 16, 46, 35, 44, 21, 52, 32, 23, 11, 54, 26, 40, 15, 34, 20, 31, 10, 25, 14, 19, 9, 13, 8, 7, 6])),
  (24, .cells (by8 [83, 76, 85, 73, 67, 69, 48, 49, 0, 0, 0, 20, 0, 0, 3, 32, 0, 0, 0, 8, 0, 0, 0, 8, 0, 0, 0, 16, 0, 0, 0, 16, 0, 0, 0, 24, 0, 0, 0, 3, 0, 0, 0, 1, 0, 0, 0, 1, 0, 0, 0, 0, 0, 0, 0, 0, 0, 0, 0, 0, 141, 122, 2, 171] ++ (nul 736 ++ (by8 [1] ++ (nul 15199)))) 0 .yes),
  (25, .cells [.int .i64 800, .slice (some (24, 0)) 16000 (some 16000), .int .u64 0, .int .u64 2] 0 .yes),
  (36, .cells [.int .i64 0, .int .i64 0, .bool false, .int .i64 0, .int .i64 0, .bool false, .int .i64 0, .int .i64 0, .bool false, .int .i64 0, .int .i64 0, .bool false, .int .i64 0, .int .i64 0, .bool false, .int .i64 0, .int .i64 0, .bool false, .int .i64 0, .int .i64 0, .bool false, .int .i64 0, .int .i64 0, .bool false, .int .i64 8, .int .i64 8, .bool false] 0 .yes),
  (37, .cells [.slice (some (36, 0)) 9 (some 9), .int .i64 0] 0 .yes),
  (38, .cells [.int .u32 0, .slice none 0 (some 0), .bool false, .int .i64 0, .int .u32 0, .slice none 0 (some 0), .bool false, .int .i64 0, .int .u32 0, .slice none 0 (some 0), .bool false, .int .i64 0, .int .u32 0, .slice none 0 (some 0), .bool false, .int .i64 0, .int .u32 0, .slice none 0 (some 0), .bool false, .int .i64 0, .int .u32 0, .slice none 0 (some 0), .bool false, .int .i64 0, .int .u32 0, .slice none 0 (some 0), .bool false, .int .i64 0, .int .u32 1, .slice (some (2670, 0)) 800 none, .bool true, .int .i64 1] 0 .yes),
  (39, .map [(.int .u32 1, .int .i64 7, 0)] 1),
  (40, .cells [.ptr (some (25, 0)), .slice (some (38, 0)) 8 (some 8), .map (some 39), .slice (some (56, 0)) 7 none, .ptr (some (37, 0))] 0 .yes),
  (56, .cells [.int .i64 0, .int .i64 1, .int .i64 2, .int .i64 3, .int .i64 4, .int .i64 5, .int .i64 6, .int .i64 7] 1 .yes),
  (57, .cells [.int .u64 3] 0 .yes),
  (58, .cells [.int .i64 20, .int .i64 2, .slice (some (57, 0)) 1 (some 1)] 0 .yes),
  (59, .cells [.ptr (some (58, 0))] 0 .yes),
  (60, .cells [.int .i64 20, .int .i64 800, .int .i64 8, .int .i64 8, .int .i64 16, .int .i64 16, .int .i64 24, .int .i64 3, .ptr (some (25, 0)), .ptr (some (40, 0)), .ptr (some (59, 0)), .int .u32 1] 0 .yes),
  (111, .cells [.ptr (some (60, 0)), .int .u32 1, .int .i64 0, .int .i64 6, .int .i64 0, .int .i64 0] 0 .yes),
  (113, .cells [.ptr (some (25, 0)), .ptr (some (111, 0))] 0 .yes),
  (249, .cells [.int .i64 20, .int .i64 800, .int .i64 8, .int .i64 8, .int .i64 16, .int .i64 16, .int .i64 24, .int .i64 3, .ptr (some (113, 0)), .bool true, .int .u64 0, .int .u64 0, .int .u64 0, .int .u64 0] 0 .yes),
  (2670, .cells (by8 [1, 0, 0, 5, 0, 0, 0, 0, 13, 0, 1, 1, 0, 0, 0, 0, 0, 0, 0, 1, 2, 97, 0, 1, 0, 0, 0, 0, 0, 0, 0, 0, 0, 0, 0, 121, 0, 0, 13, 0, 1, 1, 0, 0, 0, 0, 0, 0, 0, 1, 2, 98, 0, 1, 0, 0, 0, 0, 0, 0, 0, 0, 0, 0, 0, 120, 0, 0, 17, 0, 0, 1, 0, 0, 0, 0, 0, 0, 0, 2, 2, 120, 0, 1, 2, 97, 0, 1, 0, 0, 0, 0, 0, 0, 0, 0, 0, 0, 17, 0, 0, 1, 0, 0, 0, 0, 0, 0, 0, 2, 2, 120, 0, 1, 2, 98, 0, 1, 0, 0, 0, 0, 0, 0, 0, 0, 0, 0, 17, 0, 0, 1, 0, 0, 0, 0, 0, 0, 0, 2, 2, 121, 0, 1, 2, 97, 0, 1] ++ (nul 652)) 1 (.of 5))],
 v := .int .i64 0, nout := 3040, ldel := [],
 lset := [(38, .cells [.int .u32 0, .slice none 0 (some 0), .bool false, .int .i64 0, .int .u32 0, .slice none 0 (some 0), .bool false, .int .i64 0, .int .u32 0, .slice none 0 (some 0), .bool false, .int .i64 0, .int .u32 0, .slice none 0 (some 0), .bool false, .int .i64 0, .int .u32 0, .slice none 0 (some 0), .bool false, .int .i64 0, .int .u32 0, .slice none 0 (some 0), .bool false, .int .i64 0, .int .u32 0, .slice none 0 (some 0), .bool false, .int .i64 0, .int .u32 1, .slice (some (3031, 0)) 800 none, .bool true, .int .i64 1] 0 .yes),
  (111, .cells [.ptr (some (60, 0)), .int .u32 1, .int .i64 0, .int .i64 7, .int .i64 0, .int .i64 0] 0 .yes),
  (3031, .cells (by8 [1, 0, 0, 4, 0, 0, 0, 0, 13, 0, 1, 1, 0, 0, 0, 0, 0, 0, 0, 1, 2, 97, 0, 1, 0, 0, 0, 0, 0, 0, 0, 0, 0, 0, 0, 121, 0, 0, 13, 0, 1, 1, 0, 0, 0, 0, 0, 0, 0, 1, 2, 98, 0, 1, 0, 0, 0, 0, 0, 0, 0, 0, 0, 0, 0, 120, 0, 0, 17, 0, 0, 1, 0, 0, 0, 0, 0, 0, 0, 2, 2, 120, 0, 1, 2, 98, 0, 1, 0, 0, 0, 0, 0, 0, 0, 0, 0, 0, 17, 0, 0, 1, 0, 0, 0, 0, 0, 0, 0, 2, 2, 121, 0, 1, 2, 97, 0, 1] ++ (nul 682)) 1 (.of 5))] }

noncomputable def hk37F (args : List AV) (M : AMem) : Option (AV × AMem) := match hk36 25 with
  | some h => h args M
  | none => acall Tryz.prog hk36 1000 25 args M

noncomputable def hk37 : Hook := fun f => match f with
  | 25 => some (cutAt [cut37] hk37F)
  | _ => hk36 f

def cut38 : Cut := {
 args := [.ptr (some (250, 0)), .str [97], .str [121]], nin := 1671,
 lin := [(3, .ro (by8 [0, 1, 56, 2, 57, 49, 28, 3, 61, 58, 42, 50, 38, 29, 17, 4, 62, 47, 59, 36, 45, 43, 51, 22, 53, 39, 33, 30, 24, 18, 12, 5, 63, 55, 48, 27, 60, 41, 37, 16, 46, 35, 44, 21, 52, 32, 23, 11, 54, 26, 40, 15, 34, 20, 31, 10, 25, 14, 19, 9, 13, 8, 7, 6])),
  (24, .cells (by8 [83, 76, 85, 73, 67, 69, 48, 49, 0, 0, 0, 20, 0, 0, 3, 32, 0, 0, 0, 8, 0, 0, 0, 8, 0, 0, 0, 16, 0, 0, 0, 16, 0, 0, 0, 24, 0, 0, 0, 3, 0, 0, 0, 1, 0, 0, 0, 1, 0, 0, 0, 0, 0, 0, 0, 0, 0, 0, 0, 0, 141, 122, 2, 171] ++ (nul 736 ++ (by8 [1] ++ (nul 15199)))) 0 .yes),
  (25, .cells [.int .i64 800, .slice (some (24, 0)) 16000 (some 16000), .int .u64 0, .int .u64 2] 0 .yes),
  (36, .cells [.int .i64 0, .int .i64 0, .bool false, .int .i64 0, .int .i64 0, .bool false, .int .i64 0, .int .i64 0, .bool false, .int .i64 0, .int .i64 0, .bool false, .int .i64 0, .int .i64 0, .bool false, .int .i64 0, .int .i64 0, .bool false, .int .i64 0, .int .i64 0, .bool false, .int .i64 0, .int .i64 0, .bool false, .int .i64 8, .int .i64 8, .bool false] 0 .yes),
  (37, .cells [.slice (some (36, 0)) 9 (some 9), .int .i64 0] 0 .yes),
  (38, .cells [.int .u32 0, .slice none 0 (some 0), .bool false, .int .i64 0, .int .u32 0, .slice none 0 (some 0), .bool false, .int .i64 0, .int .u32 0, .slice none 0 (some 0), .bool false, .int .i64 0, .int .u32 0, .slice none 0 (some 0), .bool false, .int .i64 0, .int .u32 0, .slice none 0 (some 0), .bool false, .int .i64 0, .int .u32 0, .slice none 0 (some 0), .bool false, .int .i64 0, .int .u32 0, .slice none 0 (some 0), .bool false, .int .i64 0, .int .u32 1, .slice (some (1662, 0)) 800 none, .bool true, .int .i64 1] 0 .yes),
  (39, .map [(.int .u32 1, .int .i64 7, 0)] 1),
  (40, .cells [.ptr (some (25, 0)), .slice (some (38, 0)) 8 (some 8), .map (some 39), .slice (some (56, 0)) 7 none, .ptr (some (37, 0))] 0 .yes),
  (56, .cells [.int .i64 0, .int .i64 1, .int .i64 2, .int .i64 3, .int .i64 4, .int .i64 5, .int .i64 6, .int .i64 7] 1 .yes),
  (57, .cells [.int .u64 3] 0 .yes),
  (58, .cells [.int .i64 20, .int .i64 2, .slice (some (57, 0)) 1 (some 1)] 0 .yes),
  (59, .cells [.ptr (some (58, 0))] 0 .yes),
  (60, .cells [.int .i64 20, .int .i64 800, .int .i64 8, .int .i64 8, .int .i64 16, .int .i64 16, .int .i64 24, .int .i64 3, .ptr (some (25, 0)), .ptr (some (40, 0)), .ptr (some (59, 0)), .int .u32 1] 0 .yes),
  (111, .cells [.ptr (some (60, 0)), .int .u32 1, .int .i64 0, .int .i64 4, .int .i64 0, .int .i64 0] 0 .yes),
  (113, .cells [.ptr (some (25, 0)), .ptr (some (111, 0))] 0 .yes),
  (249, .cells [.int .i64 20, .int .i64 800, .int .i64 8, .int .i64 8, .int .i64 16, .int .i64 16, .int .i64 24, .int .i64 3, .ptr (some (113, 0)), .bool true, .int .u64 0, .int .u64 0, .int .u64 0, .int .u64 0] 0 .yes),
  (250, .cells [.ptr (some (249, 0))] 0 .yes),
  (1662, .cells (by8 [1, 0, 0, 4, 0, 0, 0, 0, 13, 0, 1, 1, 0, 0, 0, 0, 0, 0, 0, 1, 2, 97, 0, 1, 0, 0, 0, 0, 0, 0, 0, 0, 0, 0, 0, 120, 0, 0, 13, 0, 1, 1, 0, 0, 0, 0, 0, 0, 0, 1, 2, 98, 0, 1, 0, 0, 0, 0, 0, 0, 0, 0, 0, 0, 0, 120, 0, 0, 17, 0, 0, 1, 0, 0, 0, 0, 0, 0, 0, 2, 2, 120, 0, 1, 2, 97, 0, 1, 0, 0, 0, 0, 0, 0, 0, 0, 0, 0, 17, 0, 0, 1, 0, 0, 0, 0, 0, 0, 0, 2, 2, 120, 0, 1, 2, 98, 0, 1] ++ (nul 682)) 1 (.of 5))],
 v := .int .i64 0, nout := 3040, ldel := [],
 lset := [(38, .cells [.int .u32 0, .slice none 0 (some 0), .bool false, .int .i64 0, .int .u32 0, .slice none 0 (some 0), .bool false, .int .i64 0, .int .u32 0, .slice none 0 (some 0), .bool false, .int .i64 0, .int .u32 0, .slice none 0 (some 0), .bool false, .int .i64 0, .int .u32 0, .slice none 0 (some 0), .bool false, .int .i64 0, .int .u32 0, .slice none 0 (some 0), .bool false, .int .i64 0, .int .u32 0, .slice none 0 (some 0), .bool false, .int .i64 0, .int .u32 1, .slice (some (3031, 0)) 800 none, .bool true, .int .i64 1] 0 .yes),
  (111, .cells [.ptr (some (60, 0)), .int .u32 1, .int .i64 0, .int .i64 7, .int .i64 0, .int .i64 0] 0 .yes),
  (3031, .cells (by8 [1, 0, 0, 4, 0, 0, 0, 0, 13, 0, 1, 1, 0, 0, 0, 0, 0, 0, 0, 1, 2, 97, 0, 1, 0, 0, 0, 0, 0, 0, 0, 0, 0, 0, 0, 121, 0, 0, 13, 0, 1, 1, 0, 0, 0, 0, 0, 0, 0, 1, 2, 98, 0, 1, 0, 0, 0, 0, 0, 0, 0, 0, 0, 0, 0, 120, 0, 0, 17, 0, 0, 1, 0, 0, 0, 0, 0, 0, 0, 2, 2, 120, 0, 1, 2, 98, 0, 1, 0, 0, 0, 0, 0, 0, 0, 0, 0, 0, 17, 0, 0, 1, 0, 0, 0, 0, 0, 0, 0, 2, 2, 121, 0, 1, 2, 97, 0, 1] ++ (nul 682)) 1 (.of 5))] }

noncomputable def hk38F (args : List AV) (M : AMem) : Option (AV × AMem) := match hk37 9 with
  | some h => h args M
  | none => acall Tryz.prog hk37 1000 9 args M

noncomputable def hk38 : Hook := fun f => match f with
  | 9 => some (cutAt [cut38] hk38F)
  | _ => hk37 f

def cut39 : Cut := {
 args := [.agg [.int .i64 20, .int .i64 800, .int .i64 8, .int .i64 8, .int .i64 16, .int .i64 16, .int .i64 24, .int .i64 3], .slice (some (3083, 0)) 800 none], nin := 3084,
 lin := [(3, .ro (by8 [0, 1, 56, 2, 57, 49, 28, 3, 61, 58, 42, 50, 38, 29, 17, 4, 62, 47, 59, 36, 45, 43, 51, 22, 53, 39, 33, 30, 24, 18, 12, 5, 63, 55, 48, 27, 60, 41, 37, 16, 46, 35, 44, 21, 52, 32, 23, 11, 54, 26, 40, 15, 34, 20, 31, 10, 25, 14, 19, 9, 13, 8, 7, 6])),
  (3083, .cells (by8 [1, 0, 0, 4, 0, 0, 0, 0, 13, 0, 1, 1, 0, 0, 0, 0, 0, 0, 0, 1, 2, 97, 0, 1, 0, 0, 0, 0, 0, 0, 0, 0, 0, 0, 0, 121, 0, 0, 13, 0, 1, 1, 0, 0, 0, 0, 0, 0, 0, 1, 2, 98, 0, 1, 0, 0, 0, 0, 0, 0, 0, 0, 0, 0, 0, 120, 0, 0, 17, 0, 0, 1, 0, 0, 0, 0, 0, 0, 0, 2, 2, 120, 0, 1, 2, 98, 0, 1, 0, 0, 0, 0, 0, 0, 0, 0, 0, 0, 17, 0, 0, 1, 0, 0, 0, 0, 0, 0, 0, 2, 2, 121, 0, 1, 2, 97, 0, 1] ++ (nul 682)) 1 (.of 5))],
 v := .tup [.agg [.int .i64 0, .slice none 0 (some 0), .slice none 0 (some 0), .slice none 0 (some 0), .slice (some (3134, 0)) 4 none], .int .i64 0], nout := 3243, ldel := [],
 lset := [(3134, .cells [.str [1, 0, 0, 0, 0, 0, 0, 0, 1, 2, 97, 0, 1], .str [121], .str [1, 0, 0, 0, 0, 0, 0, 0, 1, 2, 98, 0, 1], .str [120], .str [1, 0, 0, 0, 0, 0, 0, 0, 2, 2, 120, 0, 1, 2, 98, 0, 1], .str [], .str [1, 0, 0, 0, 0, 0, 0, 0, 2, 2, 121, 0, 1, 2, 97, 0, 1], .str []] 2 .yes)] }

noncomputable def hk39F (args : List AV) (M : AMem) : Option (AV × AMem) := match hk38 146 with
  | some h => h args M
  | none => acall Tryz.prog hk38 1000 146 args M

noncomputable def hk39 : Hook := fun f => match f with
  | 146 => some (cutAt [cut39] hk39F)
  | _ => hk38 f

def cut40 : Cut := {
 args := [.agg [.int .i64 20, .int .i64 800, .int .i64 8, .int .i64 8, .int .i64 16, .int .i64 16, .int .i64 24, .int .i64 3], .slice (some (3324, 0)) 800 none], nin := 3325,
 lin := [(3, .ro (by8 [0, 1, 56, 2, 57, 49, 28, 3, 61, 58, 42, 50, 38, 29, 17, 4, 62, 47, 59, 36, 45, 43, 51, 22, 53, 39, 33, 30, 24, 18, 12, 5, 63, 55, 48, 27, 60, 41, 37, 16, 46, 35, 44, 21, 52, 32, 23, 11, 54, 26, 40, 15, 34, 20, 31, 10, 25, 14, 19, 9, 13, 8, 7, 6])),
  (3324, .cells (by8 [1, 0, 0, 4, 0, 0, 0, 0, 13, 0, 1, 1, 0, 0, 0, 0, 0, 0, 0, 1, 2, 97, 0, 1, 0, 0, 0, 0, 0, 0, 0, 0, 0, 0, 0, 121, 0, 0, 13, 0, 1, 1, 0, 0, 0, 0, 0, 0, 0, 1, 2, 98, 0, 1, 0, 0, 0, 0, 0, 0, 0, 0, 0, 0, 0, 120, 0, 0, 17, 0, 0, 1, 0, 0, 0, 0, 0, 0, 0, 2, 2, 120, 0, 1, 2, 98, 0, 1, 0, 0, 0, 0, 0, 0, 0, 0, 0, 0, 17, 0, 0, 1, 0, 0, 0, 0, 0, 0, 0, 2, 2, 121, 0, 1, 2, 97, 0, 1] ++ (nul 682)) 1 (.of 5))],
 v := .tup [.agg [.int .i64 0, .slice none 0 (some 0), .slice none 0 (some 0), .slice none 0 (some 0), .slice (some (3375, 0)) 4 none], .int .i64 0], nout := 3484, ldel := [],
 lset := [(3375, .cells [.str [1, 0, 0, 0, 0, 0, 0, 0, 1, 2, 97, 0, 1], .str [121], .str [1, 0, 0, 0, 0, 0, 0, 0, 1, 2, 98, 0, 1], .str [120], .str [1, 0, 0, 0, 0, 0, 0, 0, 2, 2, 120, 0, 1, 2, 98, 0, 1], .str [], .str [1, 0, 0, 0, 0, 0, 0, 0, 2, 2, 121, 0, 1, 2, 97, 0, 1], .str []] 2 .yes)] }

noncomputable def hk40F (args : List AV) (M : AMem) : Option (AV × AMem) := match hk39 146 with
  | some h => h args M
  | none => acall Tryz.prog hk39 1000 146 args M

noncomputable def hk40 : Hook := fun f => match f with
  | 146 => some (cutAt [cut40] hk40F)
  | _ => hk39 f

def cut41 : Cut := {
 args := [.ptr (some (250, 0)), .str [98]], nin := 3286,
 lin := [(3, .ro (by8 [0, 1, 56, 2, 57, 49, 28, 3, 61, 58, 42, 50, 38, 29, 17, 4, 62, 47, 59, 36, 45, 43, 51, 22, 53, 39, 33, 30, 24, 18, 12, 5, 63, 55, 48, 27, 60, 41, 37, 16, 46, 35, 44, 21, 52, 32, 23, 11, 54, 26, 40, 15, 34, 20, 31, 10, 25, 14, 19, 9, 13, 8, 7, 6])),
  (24, .cells (by8 [83, 76, 85, 73, 67, 69, 48, 49, 0, 0, 0, 20, 0, 0, 3, 32, 0, 0, 0, 8, 0, 0, 0, 8, 0, 0, 0, 16, 0, 0, 0, 16, 0, 0, 0, 24, 0, 0, 0, 3, 0, 0, 0, 1, 0, 0, 0, 1, 0, 0, 0, 0, 0, 0, 0, 0, 0, 0, 0, 0, 141, 122, 2, 171] ++ (nul 736 ++ (by8 [1] ++ (nul 15199)))) 0 .yes),
  (25, .cells [.int .i64 800, .slice (some (24, 0)) 16000 (some 16000), .int .u64 0, .int .u64 2] 0 .yes),
  (36, .cells [.int .i64 0, .int .i64 0, .bool false, .int .i64 0, .int .i64 0, .bool false, .int .i64 0, .int .i64 0, .bool false, .int .i64 0, .int .i64 0, .bool false, .int .i64 0, .int .i64 0, .bool false, .int .i64 0, .int .i64 0, .bool false, .int .i64 0, .int .i64 0, .bool false, .int .i64 0, .int .i64 0, .bool false, .int .i64 8, .int .i64 8, .bool false] 0 .yes),
  (37, .cells [.slice (some (36, 0)) 9 (some 9), .int .i64 0] 0 .yes),
  (38, .cells [.int .u32 0, .slice none 0 (some 0), .bool false, .int .i64 0, .int .u32 0, .slice none 0 (some 0), .bool false, .int .i64 0, .int .u32 0, .slice none 0 (some 0), .bool false, .int .i64 0, .int .u32 0, .slice none 0 (some 0), .bool false, .int .i64 0, .int .u32 0, .slice none 0 (some 0), .bool false, .int .i64 0, .int .u32 0, .slice none 0 (some 0), .bool false, .int .i64 0, .int .u32 0, .slice none 0 (some 0), .bool false, .int .i64 0, .int .u32 1, .slice (some (3031, 0)) 800 none, .bool true, .int .i64 1] 0 .yes),
  (39, .map [(.int .u32 1, .int .i64 7, 0)] 1),
  (40, .cells [.ptr (some (25, 0)), .slice (some (38, 0)) 8 (some 8), .map (some 39), .slice (some (56, 0)) 7 none, .ptr (some (37, 0))] 0 .yes),
  (56, .cells [.int .i64 0, .int .i64 1, .int .i64 2, .int .i64 3, .int .i64 4, .int .i64 5, .int .i64 6, .int .i64 7] 1 .yes),
  (57, .cells [.int .u64 3] 0 .yes),
  (58, .cells [.int .i64 20, .int .i64 2, .slice (some (57, 0)) 1 (some 1)] 0 .yes),
  (59, .cells [.ptr (some (58, 0))] 0 .yes),
  (60, .cells [.int .i64 20, .int .i64 800, .int .i64 8, .int .i64 8, .int .i64 16, .int .i64 16, .int .i64 24, .int .i64 3, .ptr (some (25, 0)), .ptr (some (40, 0)), .ptr (some (59, 0)), .int .u32 1] 0 .yes),
  (111, .cells [.ptr (some (60, 0)), .int .u32 1, .int .i64 0, .int .i64 7, .int .i64 0, .int .i64 0] 0 .yes),
  (113, .cells [.ptr (some (25, 0)), .ptr (some (111, 0))] 0 .yes),
  (249, .cells [.int .i64 20, .int .i64 800, .int .i64 8, .int .i64 8, .int .i64 16, .int .i64 16, .int .i64 24, .int .i64 3, .ptr (some (113, 0)), .bool true, .int .u64 0, .int .u64 0, .int .u64 0, .int .u64 0] 0 .yes),
  (250, .cells [.ptr (some (249, 0))] 0 .yes),
  (3031, .cells (by8 [1, 0, 0, 4, 0, 0, 0, 0, 13, 0, 1, 1, 0, 0, 0, 0, 0, 0, 0, 1, 2, 97, 0, 1, 0, 0, 0, 0, 0, 0, 0, 0, 0, 0, 0, 121, 0, 0, 13, 0, 1, 1, 0, 0, 0, 0, 0, 0, 0, 1, 2, 98, 0, 1, 0, 0, 0, 0, 0, 0, 0, 0, 0, 0, 0, 120, 0, 0, 17, 0, 0, 1, 0, 0, 0, 0, 0, 0, 0, 2, 2, 120, 0, 1, 2, 98, 0, 1, 0, 0, 0, 0, 0, 0, 0, 0, 0, 0, 17, 0, 0, 1, 0, 0, 0, 0, 0, 0, 0, 2, 2, 121, 0, 1, 2, 97, 0, 1] ++ (nul 682)) 1 (.of 5))],
 v := .tup [.str [120], .int .i64 0], nout := 3501, ldel := [],
 lset := [] }

noncomputable def hk41F (args : List AV) (M : AMem) : Option (AV × AMem) := match hk40 4 with
  | some h => h args M
  | none => acall Tryz.prog hk40 1000 4 args M

noncomputable def hk41 : Hook := fun f => match f with
  | 4 => some (cutAt [cut41] hk41F)
  | _ => hk40 f

def cut42 : Cut := {
 args := [.ptr (some (250, 0)), .slice (some (3042, 0)) 2 (some 2)], nin := 3043,
 lin := [(3, .ro (by8 [0, 1, 56, 2, 57, 49, 28, 3, 61, 58, 42, 50, 38, 29, 17, 4, 62, 47, 59, 36, 45, 43, 51, 22, 53, 39, 33, 30, 24, 18, 12, 5, 63, 55, 48, 27, 60, 41, 37, 16, 46, 35, 44, 21, 52, 32, 23, 11, 54, 26, 40, 15, 34, 20, 31, 10, 25, 14, 19, 9, 13, 8, 7, 6])),
  (24, .cells (by8 [83, 76, 85, 73, 67, 69, 48, 49, 0, 0, 0, 20, 0, 0, 3, 32, 0, 0, 0, 8, 0, 0, 0, 8, 0, 0, 0, 16, 0, 0, 0, 16, 0, 0, 0, 24, 0, 0, 0, 3, 0, 0, 0, 1, 0, 0, 0, 1, 0, 0, 0, 0, 0, 0, 0, 0, 0, 0, 0, 0, 141, 122, 2, 171] ++ (nul 736 ++ (by8 [1] ++ (nul 15199)))) 0 .yes),
  (25, .cells [.int .i64 800, .slice (some (24, 0)) 16000 (some 16000), .int .u64 0, .int .u64 2] 0 .yes),
  (36, .cells [.int .i64 0, .int .i64 0, .bool false, .int .i64 0, .int .i64 0, .bool false, .int .i64 0, .int .i64 0, .bool false, .int .i64 0, .int .i64 0, .bool false, .int .i64 0, .int .i64 0, .bool false, .int .i64 0, .int .i64 0, .bool false, .int .i64 0, .int .i64 0, .bool false, .int .i64 0, .int .i64 0, .bool false, .int .i64 8, .int .i64 8, .bool false] 0 .yes),
  (37, .cells [.slice (some (36, 0)) 9 (some 9), .int .i64 0] 0 .yes),
  (38, .cells [.int .u32 0, .slice none 0 (some 0), .bool false, .int .i64 0, .int .u32 0, .slice none 0 (some 0), .bool false, .int .i64 0, .int .u32 0, .slice none 0 (some 0), .bool false, .int .i64 0, .int .u32 0, .slice none 0 (some 0), .bool false, .int .i64 0, .int .u32 0, .slice none 0 (some 0), .bool false, .int .i64 0, .int .u32 0, .slice none 0 (some 0), .bool false, .int .i64 0, .int .u32 0, .slice none 0 (some 0), .bool false, .int .i64 0, .int .u32 1, .slice (some (3031, 0)) 800 none, .bool true, .int .i64 1] 0 .yes),
  (39, .map [(.int .u32 1, .int .i64 7, 0)] 1),
  (40, .cells [.ptr (some (25, 0)), .slice (some (38, 0)) 8 (some 8), .map (some 39), .slice (some (56, 0)) 7 none, .ptr (some (37, 0))] 0 .yes),
  (56, .cells [.int .i64 0, .int .i64 1, .int .i64 2, .int .i64 3, .int .i64 4, .int .i64 5, .int .i64 6, .int .i64 7] 1 .yes),
  (57, .cells [.int .u64 3] 0 .yes),
  (58, .cells [.int .i64 20, .int .i64 2, .slice (some (57, 0)) 1 (some 1)] 0 .yes),
  (59, .cells [.ptr (some (58, 0))] 0 .yes),
  (60, .cells [.int .i64 20, .int .i64 800, .int .i64 8, .int .i64 8, .int .i64 16, .int .i64 16, .int .i64 24, .int .i64 3, .ptr (some (25, 0)), .ptr (some (40, 0)), .ptr (some (59, 0)), .int .u32 1] 0 .yes),
  (111, .cells [.ptr (some (60, 0)), .int .u32 1, .int .i64 0, .int .i64 7, .int .i64 0, .int .i64 0] 0 .yes),
  (113, .cells [.ptr (some (25, 0)), .ptr (some (111, 0))] 0 .yes),
  (249, .cells [.int .i64 20, .int .i64 800, .int .i64 8, .int .i64 8, .int .i64 16, .int .i64 16, .int .i64 24, .int .i64 3, .ptr (some (113, 0)), .bool true, .int .u64 0, .int .u64 0, .int .u64 0, .int .u64 0] 0 .yes),
  (250, .cells [.ptr (some (249, 0))] 0 .yes),
  (3031, .cells (by8 [1, 0, 0, 4, 0, 0, 0, 0, 13, 0, 1, 1, 0, 0, 0, 0, 0, 0, 0, 1, 2, 97, 0, 1, 0, 0, 0, 0, 0, 0, 0, 0, 0, 0, 0, 121, 0, 0, 13, 0, 1, 1, 0, 0, 0, 0, 0, 0, 0, 1, 2, 98, 0, 1, 0, 0, 0, 0, 0, 0, 0, 0, 0, 0, 0, 120, 0, 0, 17, 0, 0, 1, 0, 0, 0, 0, 0, 0, 0, 2, 2, 120, 0, 1, 2, 98, 0, 1, 0, 0, 0, 0, 0, 0, 0, 0, 0, 0, 17, 0, 0, 1, 0, 0, 0, 0, 0, 0, 0, 2, 2, 121, 0, 1, 2, 97, 0, 1] ++ (nul 682)) 1 (.of 5)),
  (3042, .cells [.bool true, .int .u64 2, .str [], .bool false, .int .u64 0, .str [120]] 0 .yes)],
 v := .tup [.slice (some (3502, 0)) 1 none, .int .i64 0], nout := 3503, ldel := [],
 lset := [(3502, .cells [.str [120], .str [98], .bool true] 3 .yes)] }

noncomputable def hk42F (args : List AV) (M : AMem) : Option (AV × AMem) := match hk41 20 with
  | some h => h args M
  | none => acall Tryz.prog hk41 1000 20 args M

noncomputable def hk42 : Hook := fun f => match f with
  | 20 => some (cutAt [cut42] hk42F)
  | _ => hk41 f

def cut43 : Cut := {
 args := [.ptr (some (250, 0)), .str [120]], nin := 3040,
 lin := [(3, .ro (by8 [0, 1, 56, 2, 57, 49, 28, 3, 61, 58, 42, 50, 38, 29, 17, 4, 62, 47, 59, 36, 45, 43, 51, 22, 53, 39, 33, 30, 24, 18, 12, 5, 63, 55, 48, 27, 60, 41, 37, 16, 46, 35, 44, 21, 52, 32, 23, 11, 54, 26, 40, 15, 34, 20, 31, 10, 25, 14, 19, 9, 13, 8, 7, 6])),
  (24, .cells (by8 [83, 76, 85, 73, 67, 69, 48, 49, 0, 0, 0, 20, 0, 0, 3, 32, 0, 0, 0, 8, 0, 0, 0, 8, 0, 0, 0, 16, 0, 0, 0, 16, 0, 0, 0, 24, 0, 0, 0, 3, 0, 0, 0, 1, 0, 0, 0, 1, 0, 0, 0, 0, 0, 0, 0, 0, 0, 0, 0, 0, 141, 122, 2, 171] ++ (nul 736 ++ (by8 [1] ++ (nul 15199)))) 0 .yes),
  (25, .cells [.int .i64 800, .slice (some (24, 0)) 16000 (some 16000), .int .u64 0, .int .u64 2] 0 .yes),
  (36, .cells [.int .i64 0, .int .i64 0, .bool false, .int .i64 0, .int .i64 0, .bool false, .int .i64 0, .int .i64 0, .bool false, .int .i64 0, .int .i64 0, .bool false, .int .i64 0, .int .i64 0, .bool false, .int .i64 0, .int .i64 0, .bool false, .int .i64 0, .int .i64 0, .bool false, .int .i64 0, .int .i64 0, .bool false, .int .i64 8, .int .i64 8, .bool false] 0 .yes),
  (37, .cells [.slice (some (36, 0)) 9 (some 9), .int .i64 0] 0 .yes),
  (38, .cells [.int .u32 0, .slice none 0 (some 0), .bool false, .int .i64 0, .int .u32 0, .slice none 0 (some 0), .bool false, .int .i64 0, .int .u32 0, .slice none 0 (some 0), .bool false, .int .i64 0, .int .u32 0, .slice none 0 (some 0), .bool false, .int .i64 0, .int .u32 0, .slice none 0 (some 0), .bool false, .int .i64 0, .int .u32 0, .slice none 0 (some 0), .bool false, .int .i64 0, .int .u32 0, .slice none 0 (some 0), .bool false, .int .i64 0, .int .u32 1, .slice (some (3031, 0)) 800 none, .bool true, .int .i64 1] 0 .yes),
  (39, .map [(.int .u32 1, .int .i64 7, 0)] 1),
  (40, .cells [.ptr (some (25, 0)), .slice (some (38, 0)) 8 (some 8), .map (some 39), .slice (some (56, 0)) 7 none, .ptr (some (37, 0))] 0 .yes),
  (56, .cells [.int .i64 0, .int .i64 1, .int .i64 2, .int .i64 3, .int .i64 4, .int .i64 5, .int .i64 6, .int .i64 7] 1 .yes),
  (57, .cells [.int .u64 3] 0 .yes),
  (58, .cells [.int .i64 20, .int .i64 2, .slice (some (57, 0)) 1 (some 1)] 0 .yes),
  (59, .cells [.ptr (some (58, 0))] 0 .yes),
  (60, .cells [.int .i64 20, .int .i64 800, .int .i64 8, .int .i64 8, .int .i64 16, .int .i64 16, .int .i64 24, .int .i64 3, .ptr (some (25, 0)), .ptr (some (40, 0)), .ptr (some (59, 0)), .int .u32 1] 0 .yes),
  (111, .cells [.ptr (some (60, 0)), .int .u32 1, .int .i64 0, .int .i64 7, .int .i64 0, .int .i64 0] 0 .yes),
  (113, .cells [.ptr (some (25, 0)), .ptr (some (111, 0))] 0 .yes),
  (249, .cells [.int .i64 20, .int .i64 800, .int .i64 8, .int .i64 8, .int .i64 16, .int .i64 16, .int .i64 24, .int .i64 3, .ptr (some (113, 0)), .bool true, .int .u64 0, .int .u64 0, .int .u64 0, .int .u64 0] 0 .yes),
  (250, .cells [.ptr (some (249, 0))] 0 .yes),
  (3031, .cells (by8 [1, 0, 0, 4, 0, 0, 0, 0, 13, 0, 1, 1, 0, 0, 0, 0, 0, 0, 0, 1, 2, 97, 0, 1, 0, 0, 0, 0, 0, 0, 0, 0, 0, 0, 0, 121, 0, 0, 13, 0, 1, 1, 0, 0, 0, 0, 0, 0, 0, 1, 2, 98, 0, 1, 0, 0, 0, 0, 0, 0, 0, 0, 0, 0, 0, 120, 0, 0, 17, 0, 0, 1, 0, 0, 0, 0, 0, 0, 0, 2, 2, 120, 0, 1, 2, 98, 0, 1, 0, 0, 0, 0, 0, 0, 0, 0, 0, 0, 17, 0, 0, 1, 0, 0, 0, 0, 0, 0, 0, 2, 2, 121, 0, 1, 2, 97, 0, 1] ++ (nul 682)) 1 (.of 5))],
 v := .tup [.slice (some (3505, 0)) 1 none, .int .i64 0], nout := 3506, ldel := [],
 lset := [(3505, .cells [.str [98]] 1 .yes)] }

noncomputable def hk43F (args : List AV) (M : AMem) : Option (AV × AMem) := match hk42 5 with
  | some h => h args M
  | none => acall Tryz.prog hk42 1000 5 args M

noncomputable def hk43 : Hook := fun f => match f with
  | 5 => some (cutAt [cut43] hk43F)
  | _ => hk42 f

def cut44 : Cut := {
 args := [.agg [.int .i64 20, .int .i64 800, .int .i64 8, .int .i64 8, .int .i64 16, .int .i64 16, .int .i64 24, .int .i64 3], .slice (some (3543, 0)) 800 none], nin := 3544,
 lin := [(3, .ro (by8 [0, 1, 56, 2, 57, 49, 28, 3, 61, 58, 42, 50, 38, 29, 17, 4, 62, 47, 59, 36, 45, 43, 51, 22, 53, 39, 33, 30, 24, 18, 12, 5, 63, 55, 48, 27, 60, 41, 37, 16, 46, 35, 44, 21, 52, 32, 23, 11, 54, 26, 40, 15, 34, 20, 31, 10, 25, 14, 19, 9, 13, 8, 7, 6])),
  (3543, .cells (by8 [1, 0, 0, 4, 0, 0, 0, 0, 13, 0, 1, 1, 0, 0, 0, 0, 0, 0, 0, 1, 2, 97, 0, 1, 0, 0, 0, 0, 0, 0, 0, 0, 0, 0, 0, 121, 0, 0, 13, 0, 1, 1, 0, 0, 0, 0, 0, 0, 0, 1, 2, 98, 0, 1, 0, 0, 0, 0, 0, 0, 0, 0, 0, 0, 0, 120, 0, 0, 17, 0, 0, 1, 0, 0, 0, 0, 0, 0, 0, 2, 2, 120, 0, 1, 2, 98, 0, 1, 0, 0, 0, 0, 0, 0, 0, 0, 0, 0, 17, 0, 0, 1, 0, 0, 0, 0, 0, 0, 0, 2, 2, 121, 0, 1, 2, 97, 0, 1] ++ (nul 682)) 1 (.of 5))],
 v := .tup [.agg [.int .i64 0, .slice none 0 (some 0), .slice none 0 (some 0), .slice none 0 (some 0), .slice (some (3594, 0)) 4 none], .int .i64 0], nout := 3703, ldel := [],
 lset := [(3594, .cells [.str [1, 0, 0, 0, 0, 0, 0, 0, 1, 2, 97, 0, 1], .str [121], .str [1, 0, 0, 0, 0, 0, 0, 0, 1, 2, 98, 0, 1], .str [120], .str [1, 0, 0, 0, 0, 0, 0, 0, 2, 2, 120, 0, 1, 2, 98, 0, 1], .str [], .str [1, 0, 0, 0, 0, 0, 0, 0, 2, 2, 121, 0, 1, 2, 97, 0, 1], .str []] 2 .yes)] }

noncomputable def hk44F (args : List AV) (M : AMem) : Option (AV × AMem) := match hk43 146 with
  | some h => h args M
  | none => acall Tryz.prog hk43 1000 146 args M

noncomputable def hk44 : Hook := fun f => match f with
  | 146 => some (cutAt [cut44] hk44F)
  | _ => hk43 f

def cut45 : Cut := {
 args := [.agg [.int .i64 20, .int .i64 800, .int .i64 8, .int .i64 8, .int .i64 16, .int .i64 16, .int .i64 24, .int .i64 3], .slice (some (3804, 0)) 800 none], nin := 3805,
 lin := [(3, .ro (by8 [0, 1, 56, 2, 57, 49, 28, 3, 61, 58, 42, 50, 38, 29, 17, 4, 62, 47, 59, 36, 45, 43, 51, 22, 53, 39, 33, 30, 24, 18, 12, 5, 63, 55, 48, 27, 60, 41, 37, 16, 46, 35, 44, 21, 52, 32, 23, 11, 54, 26, 40, 15, 34, 20, 31, 10, 25, 14, 19, 9, 13, 8, 7, 6])),
  (3804, .cells (by8 [1, 0, 0, 4, 0, 0, 0, 0, 13, 0, 1, 1, 0, 0, 0, 0, 0, 0, 0, 1, 2, 97, 0, 1, 0, 0, 0, 0, 0, 0, 0, 0, 0, 0, 0, 121, 0, 0, 13, 0, 1, 1, 0, 0, 0, 0, 0, 0, 0, 1, 2, 98, 0, 1, 0, 0, 0, 0, 0, 0, 0, 0, 0, 0, 0, 120, 0, 0, 17, 0, 0, 1, 0, 0, 0, 0, 0, 0, 0, 2, 2, 120, 0, 1, 2, 98, 0, 1, 0, 0, 0, 0, 0, 0, 0, 0, 0, 0, 17, 0, 0, 1, 0, 0, 0, 0, 0, 0, 0, 2, 2, 121, 0, 1, 2, 97, 0, 1] ++ (nul 682)) 1 (.of 5))],
 v := .tup [.agg [.int .i64 0, .slice none 0 (some 0), .slice none 0 (some 0), .slice none 0 (some 0), .slice (some (3855, 0)) 4 none], .int .i64 0], nout := 3964, ldel := [],
 lset := [(3855, .cells [.str [1, 0, 0, 0, 0, 0, 0, 0, 1, 2, 97, 0, 1], .str [121], .str [1, 0, 0, 0, 0, 0, 0, 0, 1, 2, 98, 0, 1], .str [120], .str [1, 0, 0, 0, 0, 0, 0, 0, 2, 2, 120, 0, 1, 2, 98, 0, 1], .str [], .str [1, 0, 0, 0, 0, 0, 0, 0, 2, 2, 121, 0, 1, 2, 97, 0, 1], .str []] 2 .yes)] }

noncomputable def hk45F (args : List AV) (M : AMem) : Option (AV × AMem) := match hk44 146 with
  | some h => h args M
  | none => acall Tryz.prog hk44 1000 146 args M

noncomputable def hk45 : Hook := fun f => match f with
  | 146 => some (cutAt [cut45] hk45F)
  | _ => hk44 f

def cut46 : Cut := {
 args := [.ptr (some (250, 0)), .str [97]], nin := 3766,
 lin := [(3, .ro (by8 [0, 1, 56, 2, 57, 49, 28, 3, 61, 58, 42, 50, 38, 29, 17, 4, 62, 47, 59, 36, 45, 43, 51, 22, 53, 39, 33, 30, 24, 18, 12, 5, 63, 55, 48, 27, 60, 41, 37, 16, 46, 35, 44, 21, 52, 32, 23, 11, 54, 26, 40, 15, 34, 20, 31, 10, 25, 14, 19, 9, 13, 8, 7, 6])),
  (24, .cells (by8 [83, 76, 85, 73, 67, 69, 48, 49, 0, 0, 0, 20, 0, 0, 3, 32, 0, 0, 0, 8, 0, 0, 0, 8, 0, 0, 0, 16, 0, 0, 0, 16, 0, 0, 0, 24, 0, 0, 0, 3, 0, 0, 0, 1, 0, 0, 0, 1, 0, 0, 0, 0, 0, 0, 0, 0, 0, 0, 0, 0, 141, 122, 2, 171] ++ (nul 736 ++ (by8 [1] ++ (nul 15199)))) 0 .yes),
  (25, .cells [.int .i64 800, .slice (some (24, 0)) 16000 (some 16000), .int .u64 0, .int .u64 2] 0 .yes),
  (36, .cells [.int .i64 0, .int .i64 0, .bool false, .int .i64 0, .int .i64 0, .bool false, .int .i64 0, .int .i64 0, .bool false, .int .i64 0, .int .i64 0, .bool false, .int .i64 0, .int .i64 0, .bool false, .int .i64 0, .int .i64 0, .bool false, .int .i64 0, .int .i64 0, .bool false, .int .i64 0, .int .i64 0, .bool false, .int .i64 8, .int .i64 8, .bool false] 0 .yes),
  (37, .cells [.slice (some (36, 0)) 9 (some 9), .int .i64 0] 0 .yes),
  (38, .cells [.int .u32 0, .slice none 0 (some 0), .bool false, .int .i64 0, .int .u32 0, .slice none 0 (some 0), .bool false, .int .i64 0, .int .u32 0, .slice none 0 (some 0), .bool false, .int .i64 0, .int .u32 0, .slice none 0 (some 0), .bool false, .int .i64 0, .int .u32 0, .slice none 0 (some 0), .bool false, .int .i64 0, .int .u32 0, .slice none 0 (some 0), .bool false, .int .i64 0, .int .u32 0, .slice none 0 (some 0), .bool false, .int .i64 0, .int .u32 1, .slice (some (3031, 0)) 800 none, .bool true, .int .i64 1] 0 .yes),
  (39, .map [(.int .u32 1, .int .i64 7, 0)] 1),
  (40, .cells [.ptr (some (25, 0)), .slice (some (38, 0)) 8 (some 8), .map (some 39), .slice (some (56, 0)) 7 none, .ptr (some (37, 0))] 0 .yes),
  (56, .cells [.int .i64 0, .int .i64 1, .int .i64 2, .int .i64 3, .int .i64 4, .int .i64 5, .int .i64 6, .int .i64 7] 1 .yes),
  (57, .cells [.int .u64 3] 0 .yes),
  (58, .cells [.int .i64 20, .int .i64 2, .slice (some (57, 0)) 1 (some 1)] 0 .yes),
  (59, .cells [.ptr (some (58, 0))] 0 .yes),
  (60, .cells [.int .i64 20, .int .i64 800, .int .i64 8, .int .i64 8, .int .i64 16, .int .i64 16, .int .i64 24, .int .i64 3, .ptr (some (25, 0)), .ptr (some (40, 0)), .ptr (some (59, 0)), .int .u32 1] 0 .yes),
  (111, .cells [.ptr (some (60, 0)), .int .u32 1, .int .i64 0, .int .i64 7, .int .i64 0, .int .i64 0] 0 .yes),
  (113, .cells [.ptr (some (25, 0)), .ptr (some (111, 0))] 0 .yes),
  (249, .cells [.int .i64 20, .int .i64 800, .int .i64 8, .int .i64 8, .int .i64 16, .int .i64 16, .int .i64 24, .int .i64 3, .ptr (some (113, 0)), .bool true, .int .u64 0, .int .u64 0, .int .u64 0, .int .u64 0] 0 .yes),
  (250, .cells [.ptr (some (249, 0))] 0 .yes),
  (3031, .cells (by8 [1, 0, 0, 4, 0, 0, 0, 0, 13, 0, 1, 1, 0, 0, 0, 0, 0, 0, 0, 1, 2, 97, 0, 1, 0, 0, 0, 0, 0, 0, 0, 0, 0, 0, 0, 121, 0, 0, 13, 0, 1, 1, 0, 0, 0, 0, 0, 0, 0, 1, 2, 98, 0, 1, 0, 0, 0, 0, 0, 0, 0, 0, 0, 0, 0, 120, 0, 0, 17, 0, 0, 1, 0, 0, 0, 0, 0, 0, 0, 2, 2, 120, 0, 1, 2, 98, 0, 1, 0, 0, 0, 0, 0, 0, 0, 0, 0, 0, 17, 0, 0, 1, 0, 0, 0, 0, 0, 0, 0, 2, 2, 121, 0, 1, 2, 97, 0, 1] ++ (nul 682)) 1 (.of 5))],
 v := .tup [.str [121], .int .i64 0], nout := 3981, ldel := [],
 lset := [] }

noncomputable def hk46F (args : List AV) (M : AMem) : Option (AV × AMem) := match hk45 4 with
  | some h => h args M
  | none => acall Tryz.prog hk45 1000 4 args M

noncomputable def hk46 : Hook := fun f => match f with
  | 4 => some (cutAt [cut46] hk46F)
  | _ => hk45 f

def cut47 : Cut := {
 args := [.agg [.int .i64 20, .int .i64 800, .int .i64 8, .int .i64 8, .int .i64 16, .int .i64 16, .int .i64 24, .int .i64 3], .slice (some (3783, 0)) 800 none], nin := 3784,
 lin := [(3, .ro (by8 [0, 1, 56, 2, 57, 49, 28, 3, 61, 58, 42, 50, 38, 29, 17, 4, 62, 47, 59, 36, 45, 43, 51, 22, 53, 39, 33, 30, 24, 18, 12, 5, 63, 55, 48, 27, 60, 41, 37, 16, 46, 35, 44, 21, 52, 32, 23, 11, 54, 26, 40, 15, 34, 20, 31, 10, 25, 14, 19, 9, 13, 8, 7, 6])),
  (3783, .cells (by8 [1, 0, 0, 4, 0, 0, 0, 0, 13, 0, 1, 1, 0, 0, 0, 0, 0, 0, 0, 1, 2, 97, 0, 1, 0, 0, 0, 0, 0, 0, 0, 0, 0, 0, 0, 121, 0, 0, 13, 0, 1, 1, 0, 0, 0, 0, 0, 0, 0, 1, 2, 98, 0, 1, 0, 0, 0, 0, 0, 0, 0, 0, 0, 0, 0, 120, 0, 0, 17, 0, 0, 1, 0, 0, 0, 0, 0, 0, 0, 2, 2, 120, 0, 1, 2, 98, 0, 1, 0, 0, 0, 0, 0, 0, 0, 0, 0, 0, 17, 0, 0, 1, 0, 0, 0, 0, 0, 0, 0, 2, 2, 121, 0, 1, 2, 97, 0, 1] ++ (nul 682)) 1 (.of 5))],
 v := .tup [.agg [.int .i64 0, .slice none 0 (some 0), .slice none 0 (some 0), .slice none 0 (some 0), .slice (some (3834, 0)) 4 none], .int .i64 0], nout := 3943, ldel := [],
 lset := [(3834, .cells [.str [1, 0, 0, 0, 0, 0, 0, 0, 1, 2, 97, 0, 1], .str [121], .str [1, 0, 0, 0, 0, 0, 0, 0, 1, 2, 98, 0, 1], .str [120], .str [1, 0, 0, 0, 0, 0, 0, 0, 2, 2, 120, 0, 1, 2, 98, 0, 1], .str [], .str [1, 0, 0, 0, 0, 0, 0, 0, 2, 2, 121, 0, 1, 2, 97, 0, 1], .str []] 2 .yes)] }

noncomputable def hk47F (args : List AV) (M : AMem) : Option (AV × AMem) := match hk46 146 with
  | some h => h args M
  | none => acall Tryz.prog hk46 1000 146 args M

noncomputable def hk47 : Hook := fun f => match f with
  | 146 => some (cutAt [cut47] hk47F)
  | _ => hk46 f

def cut48 : Cut := {
 args := [.ptr (some (250, 0)), .str [98]], nin := 3745,
 lin := [(3, .ro (by8 [0, 1, 56, 2, 57, 49, 28, 3, 61, 58, 42, 50, 38, 29, 17, 4, 62, 47, 59, 36, 45, 43, 51, 22, 53, 39, 33, 30, 24, 18, 12, 5, 63, 55, 48, 27, 60, 41, 37, 16, 46, 35, 44, 21, 52, 32, 23, 11, 54, 26, 40, 15, 34, 20, 31, 10, 25, 14, 19, 9, 13, 8, 7, 6])),
  (24, .cells (by8 [83, 76, 85, 73, 67, 69, 48, 49, 0, 0, 0, 20, 0, 0, 3, 32, 0, 0, 0, 8, 0, 0, 0, 8, 0, 0, 0, 16, 0, 0, 0, 16, 0, 0, 0, 24, 0, 0, 0, 3, 0, 0, 0, 1, 0, 0, 0, 1, 0, 0, 0, 0, 0, 0, 0, 0, 0, 0, 0, 0, 141, 122, 2, 171] ++ (nul 736 ++ (by8 [1] ++ (nul 15199)))) 0 .yes),
  (25, .cells [.int .i64 800, .slice (some (24, 0)) 16000 (some 16000), .int .u64 0, .int .u64 2] 0 .yes),
  (36, .cells [.int .i64 0, .int .i64 0, .bool false, .int .i64 0, .int .i64 0, .bool false, .int .i64 0, .int .i64 0, .bool false, .int .i64 0, .int .i64 0, .bool false, .int .i64 0, .int .i64 0, .bool false, .int .i64 0, .int .i64 0, .bool false, .int .i64 0, .int .i64 0, .bool false, .int .i64 0, .int .i64 0, .bool false, .int .i64 8, .int .i64 8, .bool false] 0 .yes),
  (37, .cells [.slice (some (36, 0)) 9 (some 9), .int .i64 0] 0 .yes),
  (38, .cells [.int .u32 0, .slice none 0 (some 0), .bool false, .int .i64 0, .int .u32 0, .slice none 0 (some 0), .bool false, .int .i64 0, .int .u32 0, .slice none 0 (some 0), .bool false, .int .i64 0, .int .u32 0, .slice none 0 (some 0), .bool false, .int .i64 0, .int .u32 0, .slice none 0 (some 0), .bool false, .int .i64 0, .int .u32 0, .slice none 0 (some 0), .bool false, .int .i64 0, .int .u32 0, .slice none 0 (some 0), .bool false, .int .i64 0, .int .u32 1, .slice (some (3031, 0)) 800 none, .bool true, .int .i64 1] 0 .yes),
  (39, .map [(.int .u32 1, .int .i64 7, 0)] 1),
  (40, .cells [.ptr (some (25, 0)), .slice (some (38, 0)) 8 (some 8), .map (some 39), .slice (some (56, 0)) 7 none, .ptr (some (37, 0))] 0 .yes),
  (56, .cells [.int .i64 0, .int .i64 1, .int .i64 2, .int .i64 3, .int .i64 4, .int .i64 5, .int .i64 6, .int .i64 7] 1 .yes),
  (57, .cells [.int .u64 3] 0 .yes),
  (58, .cells [.int .i64 20, .int .i64 2, .slice (some (57, 0)) 1 (some 1)] 0 .yes),
  (59, .cells [.ptr (some (58, 0))] 0 .yes),
  (60, .cells [.int .i64 20, .int .i64 800, .int .i64 8, .int .i64 8, .int .i64 16, .int .i64 16, .int .i64 24, .int .i64 3, .ptr (some (25, 0)), .ptr (some (40, 0)), .ptr (some (59, 0)), .int .u32 1] 0 .yes),
  (111, .cells [.ptr (some (60, 0)), .int .u32 1, .int .i64 0, .int .i64 7, .int .i64 0, .int .i64 0] 0 .yes),
  (113, .cells [.ptr (some (25, 0)), .ptr (some (111, 0))] 0 .yes),
  (249, .cells [.int .i64 20, .int .i64 800, .int .i64 8, .int .i64 8, .int .i64 16, .int .i64 16, .int .i64 24, .int .i64 3, .ptr (some (113, 0)), .bool true, .int .u64 0, .int .u64 0, .int .u64 0, .int .u64 0] 0 .yes),
  (250, .cells [.ptr (some (249, 0))] 0 .yes),
  (3031, .cells (by8 [1, 0, 0, 4, 0, 0, 0, 0, 13, 0, 1, 1, 0, 0, 0, 0, 0, 0, 0, 1, 2, 97, 0, 1, 0, 0, 0, 0, 0, 0, 0, 0, 0, 0, 0, 121, 0, 0, 13, 0, 1, 1, 0, 0, 0, 0, 0, 0, 0, 1, 2, 98, 0, 1, 0, 0, 0, 0, 0, 0, 0, 0, 0, 0, 0, 120, 0, 0, 17, 0, 0, 1, 0, 0, 0, 0, 0, 0, 0, 2, 2, 120, 0, 1, 2, 98, 0, 1, 0, 0, 0, 0, 0, 0, 0, 0, 0, 0, 17, 0, 0, 1, 0, 0, 0, 0, 0, 0, 0, 2, 2, 121, 0, 1, 2, 97, 0, 1] ++ (nul 682)) 1 (.of 5))],
 v := .tup [.str [120], .int .i64 0], nout := 3960, ldel := [],
 lset := [] }

noncomputable def hk48F (args : List AV) (M : AMem) : Option (AV × AMem) := match hk47 4 with
  | some h => h args M
  | none => acall Tryz.prog hk47 1000 4 args M

noncomputable def hk48 : Hook := fun f => match f with
  | 4 => some (cutAt [cut48] hk48F)
  | _ => hk47 f

def cut49 : Cut := {
 args := [.agg [.int .i64 20, .int .i64 800, .int .i64 8, .int .i64 8, .int .i64 16, .int .i64 16, .int .i64 24, .int .i64 3], .slice (some (4022, 0)) 800 none], nin := 4023,
 lin := [(3, .ro (by8 [0, 1, 56, 2, 57, 49, 28, 3, 61, 58, 42, 50, 38, 29, 17, 4, 62, 47, 59, 36, 45, 43, 51, 22, 53, 39, 33, 30, 24, 18, 12, 5, 63, 55, 48, 27, 60, 41, 37, 16, 46, 35, 44, 21, 52, 32, 23, 11, 54, 26, 40, 15, 34, 20, 31, 10, 25, 14, 19, 9, 13, 8, 7, 6])),
  (4022, .cells (by8 [1, 0, 0, 4, 0, 0, 0, 0, 13, 0, 1, 1, 0, 0, 0, 0, 0, 0, 0, 1, 2, 97, 0, 1, 0, 0, 0, 0, 0, 0, 0, 0, 0, 0, 0, 121, 0, 0, 13, 0, 1, 1, 0, 0, 0, 0, 0, 0, 0, 1, 2, 98, 0, 1, 0, 0, 0, 0, 0, 0, 0, 0, 0, 0, 0, 120, 0, 0, 17, 0, 0, 1, 0, 0, 0, 0, 0, 0, 0, 2, 2, 120, 0, 1, 2, 98, 0, 1, 0, 0, 0, 0, 0, 0, 0, 0, 0, 0, 17, 0, 0, 1, 0, 0, 0, 0, 0, 0, 0, 2, 2, 121, 0, 1, 2, 97, 0, 1] ++ (nul 682)) 1 (.of 5))],
 v := .tup [.agg [.int .i64 0, .slice none 0 (some 0), .slice none 0 (some 0), .slice none 0 (some 0), .slice (some (4073, 0)) 4 none], .int .i64 0], nout := 4182, ldel := [],
 lset := [(4073, .cells [.str [1, 0, 0, 0, 0, 0, 0, 0, 1, 2, 97, 0, 1], .str [121], .str [1, 0, 0, 0, 0, 0, 0, 0, 1, 2, 98, 0, 1], .str [120], .str [1, 0, 0, 0, 0, 0, 0, 0, 2, 2, 120, 0, 1, 2, 98, 0, 1], .str [], .str [1, 0, 0, 0, 0, 0, 0, 0, 2, 2, 121, 0, 1, 2, 97, 0, 1], .str []] 2 .yes)] }

noncomputable def hk49F (args : List AV) (M : AMem) : Option (AV × AMem) := match hk48 146 with
  | some h => h args M
  | none => acall Tryz.prog hk48 1000 146 args M

noncomputable def hk49 : Hook := fun f => match f with
  | 146 => some (cutAt [cut49] hk49F)
  | _ => hk48 f

def cut50 : Cut := {
 args := [.ptr (some (250, 0)), .str [97]], nin := 3984,
 lin := [(3, .ro (by8 [0, 1, 56, 2, 57, 49, 28, 3, 61, 58, 42, 50, 38, 29, 17, 4, 62, 47, 59, 36, 45, 43, 51, 22, 53, 39, 33, 30, 24, 18, 12, 5, 63, 55, 48, 27, 60, 41, 37, 16, 46, 35, 44, 21, 52, 32, 23, 11, 54, 26, 40, 15, 34, 20, 31, 10, 25, 14, 19, 9, 13, 8, 7, 6])),
  (24, .cells (by8 [83, 76, 85, 73, 67, 69, 48, 49, 0, 0, 0, 20, 0, 0, 3, 32, 0, 0, 0, 8, 0, 0, 0, 8, 0, 0, 0, 16, 0, 0, 0, 16, 0, 0, 0, 24, 0, 0, 0, 3, 0, 0, 0, 1, 0, 0, 0, 1, 0, 0, 0, 0, 0, 0, 0, 0, 0, 0, 0, 0, 141, 122, 2, 171] ++ (nul 736 ++ (by8 [1] ++ (nul 15199)))) 0 .yes),
  (25, .cells [.int .i64 800, .slice (some (24, 0)) 16000 (some 16000), .int .u64 0, .int .u64 2] 0 .yes),
  (36, .cells [.int .i64 0, .int .i64 0, .bool false, .int .i64 0, .int .i64 0, .bool false, .int .i64 0, .int .i64 0, .bool false, .int .i64 0, .int .i64 0, .bool false, .int .i64 0, .int .i64 0, .bool false, .int .i64 0, .int .i64 0, .bool false, .int .i64 0, .int .i64 0, .bool false, .int .i64 0, .int .i64 0, .bool false, .int .i64 8, .int .i64 8, .bool false] 0 .yes),
  (37, .cells [.slice (some (36, 0)) 9 (some 9), .int .i64 0] 0 .yes),
  (38, .cells [.int .u32 0, .slice none 0 (some 0), .bool false, .int .i64 0, .int .u32 0, .slice none 0 (some 0), .bool false, .int .i64 0, .int .u32 0, .slice none 0 (some 0), .bool false, .int .i64 0, .int .u32 0, .slice none 0 (some 0), .bool false, .int .i64 0, .int .u32 0, .slice none 0 (some 0), .bool false, .int .i64 0, .int .u32 0, .slice none 0 (some 0), .bool false, .int .i64 0, .int .u32 0, .slice none 0 (some 0), .bool false, .int .i64 0, .int .u32 1, .slice (some (3031, 0)) 800 none, .bool true, .int .i64 1] 0 .yes),
  (39, .map [(.int .u32 1, .int .i64 7, 0)] 1),
  (40, .cells [.ptr (some (25, 0)), .slice (some (38, 0)) 8 (some 8), .map (some 39), .slice (some (56, 0)) 7 none, .ptr (some (37, 0))] 0 .yes),
  (56, .cells [.int .i64 0, .int .i64 1, .int .i64 2, .int .i64 3, .int .i64 4, .int .i64 5, .int .i64 6, .int .i64 7] 1 .yes),
  (57, .cells [.int .u64 3] 0 .yes),
  (58, .cells [.int .i64 20, .int .i64 2, .slice (some (57, 0)) 1 (some 1)] 0 .yes),
  (59, .cells [.ptr (some (58, 0))] 0 .yes),
  (60, .cells [.int .i64 20, .int .i64 800, .int .i64 8, .int .i64 8, .int .i64 16, .int .i64 16, .int .i64 24, .int .i64 3, .ptr (some (25, 0)), .ptr (some (40, 0)), .ptr (some (59, 0)), .int .u32 1] 0 .yes),
  (111, .cells [.ptr (some (60, 0)), .int .u32 1, .int .i64 0, .int .i64 7, .int .i64 0, .int .i64 0] 0 .yes),
  (113, .cells [.ptr (some (25, 0)), .ptr (some (111, 0))] 0 .yes),
  (249, .cells [.int .i64 20, .int .i64 800, .int .i64 8, .int .i64 8, .int .i64 16, .int .i64 16, .int .i64 24, .int .i64 3, .ptr (some (113, 0)), .bool true, .int .u64 0, .int .u64 0, .int .u64 0, .int .u64 0] 0 .yes),
  (250, .cells [.ptr (some (249, 0))] 0 .yes),
  (3031, .cells (by8 [1, 0, 0, 4, 0, 0, 0, 0, 13, 0, 1, 1, 0, 0, 0, 0, 0, 0, 0, 1, 2, 97, 0, 1, 0, 0, 0, 0, 0, 0, 0, 0, 0, 0, 0, 121, 0, 0, 13, 0, 1, 1, 0, 0, 0, 0, 0, 0, 0, 1, 2, 98, 0, 1, 0, 0, 0, 0, 0, 0, 0, 0, 0, 0, 0, 120, 0, 0, 17, 0, 0, 1, 0, 0, 0, 0, 0, 0, 0, 2, 2, 120, 0, 1, 2, 98, 0, 1, 0, 0, 0, 0, 0, 0, 0, 0, 0, 0, 17, 0, 0, 1, 0, 0, 0, 0, 0, 0, 0, 2, 2, 121, 0, 1, 2, 97, 0, 1] ++ (nul 682)) 1 (.of 5))],
 v := .tup [.str [121], .int .i64 0], nout := 4199, ldel := [],
 lset := [] }

noncomputable def hk50F (args : List AV) (M : AMem) : Option (AV × AMem) := match hk49 4 with
  | some h => h args M
  | none => acall Tryz.prog hk49 1000 4 args M

noncomputable def hk50 : Hook := fun f => match f with
  | 4 => some (cutAt [cut50] hk50F)
  | _ => hk49 f

def cut51 : Cut := {
 args := [.ptr (some (250, 0)), .slice (some (3507, 0)) 1 (some 1)], nin := 3508,
 lin := [(3, .ro (by8 [0, 1, 56, 2, 57, 49, 28, 3, 61, 58, 42, 50, 38, 29, 17, 4, 62, 47, 59, 36, 45, 43, 51, 22, 53, 39, 33, 30, 24, 18, 12, 5, 63, 55, 48, 27, 60, 41, 37, 16, 46, 35, 44, 21, 52, 32, 23, 11, 54, 26, 40, 15, 34, 20, 31, 10, 25, 14, 19, 9, 13, 8, 7, 6])),
  (24, .cells (by8 [83, 76, 85, 73, 67, 69, 48, 49, 0, 0, 0, 20, 0, 0, 3, 32, 0, 0, 0, 8, 0, 0, 0, 8, 0, 0, 0, 16, 0, 0, 0, 16, 0, 0, 0, 24, 0, 0, 0, 3, 0, 0, 0, 1, 0, 0, 0, 1, 0, 0, 0, 0, 0, 0, 0, 0, 0, 0, 0, 0, 141, 122, 2, 171] ++ (nul 736 ++ (by8 [1] ++ (nul 15199)))) 0 .yes),
  (25, .cells [.int .i64 800, .slice (some (24, 0)) 16000 (some 16000), .int .u64 0, .int .u64 2] 0 .yes),
  (36, .cells [.int .i64 0, .int .i64 0, .bool false, .int .i64 0, .int .i64 0, .bool false, .int .i64 0, .int .i64 0, .bool false, .int .i64 0, .int .i64 0, .bool false, .int .i64 0, .int .i64 0, .bool false, .int .i64 0, .int .i64 0, .bool false, .int .i64 0, .int .i64 0, .bool false, .int .i64 0, .int .i64 0, .bool false, .int .i64 8, .int .i64 8, .bool false] 0 .yes),
  (37, .cells [.slice (some (36, 0)) 9 (some 9), .int .i64 0] 0 .yes),
  (38, .cells [.int .u32 0, .slice none 0 (some 0), .bool false, .int .i64 0, .int .u32 0, .slice none 0 (some 0), .bool false, .int .i64 0, .int .u32 0, .slice none 0 (some 0), .bool false, .int .i64 0, .int .u32 0, .slice none 0 (some 0), .bool false, .int .i64 0, .int .u32 0, .slice none 0 (some 0), .bool false, .int .i64 0, .int .u32 0, .slice none 0 (some 0), .bool false, .int .i64 0, .int .u32 0, .slice none 0 (some 0), .bool false, .int .i64 0, .int .u32 1, .slice (some (3031, 0)) 800 none, .bool true, .int .i64 1] 0 .yes),
  (39, .map [(.int .u32 1, .int .i64 7, 0)] 1),
  (40, .cells [.ptr (some (25, 0)), .slice (some (38, 0)) 8 (some 8), .map (some 39), .slice (some (56, 0)) 7 none, .ptr (some (37, 0))] 0 .yes),
  (56, .cells [.int .i64 0, .int .i64 1, .int .i64 2, .int .i64 3, .int .i64 4, .int .i64 5, .int .i64 6, .int .i64 7] 1 .yes),
  (57, .cells [.int .u64 3] 0 .yes),
  (58, .cells [.int .i64 20, .int .i64 2, .slice (some (57, 0)) 1 (some 1)] 0 .yes),
  (59, .cells [.ptr (some (58, 0))] 0 .yes),
  (60, .cells [.int .i64 20, .int .i64 800, .int .i64 8, .int .i64 8, .int .i64 16, .int .i64 16, .int .i64 24, .int .i64 3, .ptr (some (25, 0)), .ptr (some (40, 0)), .ptr (some (59, 0)), .int .u32 1] 0 .yes),
  (111, .cells [.ptr (some (60, 0)), .int .u32 1, .int .i64 0, .int .i64 7, .int .i64 0, .int .i64 0] 0 .yes),
  (113, .cells [.ptr (some (25, 0)), .ptr (some (111, 0))] 0 .yes),
  (249, .cells [.int .i64 20, .int .i64 800, .int .i64 8, .int .i64 8, .int .i64 16, .int .i64 16, .int .i64 24, .int .i64 3, .ptr (some (113, 0)), .bool true, .int .u64 0, .int .u64 0, .int .u64 0, .int .u64 0] 0 .yes),
  (250, .cells [.ptr (some (249, 0))] 0 .yes),
  (3031, .cells (by8 [1, 0, 0, 4, 0, 0, 0, 0, 13, 0, 1, 1, 0, 0, 0, 0, 0, 0, 0, 1, 2, 97, 0, 1, 0, 0, 0, 0, 0, 0, 0, 0, 0, 0, 0, 121, 0, 0, 13, 0, 1, 1, 0, 0, 0, 0, 0, 0, 0, 1, 2, 98, 0, 1, 0, 0, 0, 0, 0, 0, 0, 0, 0, 0, 0, 120, 0, 0, 17, 0, 0, 1, 0, 0, 0, 0, 0, 0, 0, 2, 2, 120, 0, 1, 2, 98, 0, 1, 0, 0, 0, 0, 0, 0, 0, 0, 0, 0, 17, 0, 0, 1, 0, 0, 0, 0, 0, 0, 0, 2, 2, 121, 0, 1, 2, 97, 0, 1] ++ (nul 682)) 1 (.of 5)),
  (3507, .cells [.bool true, .int .u64 2, .str []] 0 .yes)],
 v := .tup [.slice (some (4200, 0)) 2 none, .int .i64 0], nout := 4201, ldel := [],
 lset := [(4200, .cells [.str [120], .str [98], .bool true, .str [121], .str [97], .bool true] 3 .yes)] }

noncomputable def hk51F (args : List AV) (M : AMem) : Option (AV × AMem) := match hk50 20 with
  | some h => h args M
  | none => acall Tryz.prog hk50 1000 20 args M

noncomputable def hk51 : Hook := fun f => match f with
  | 20 => some (cutAt [cut51] hk51F)
  | _ => hk50 f

end Go.Proofs.YtccmopkjkmpaaaaGreatDoor
