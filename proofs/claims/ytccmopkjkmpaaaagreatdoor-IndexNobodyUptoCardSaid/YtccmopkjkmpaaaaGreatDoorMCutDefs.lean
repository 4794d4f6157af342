/-
  5 cuts and their hooks. Printed by wip/tool/mkcuts5.py.
-/
import Derived.Test.YtccmopkjkmpaaaaGreatDoorWake
import Derived.Test.YtccmopkjkmpaaaaGreatDoorAbOff
namespace Go.Proofs.YtccmopkjkmpaaaaGreatDoor
open Go Go.Ab Go.Proofs
set_option linter.unusedVariables false
set_option maxRecDepth 100000

def mcut1 : Cut := {
 args := [.ptr (some (80, 0))], nin := 81,
 lin := [(3, .ro (by8 [0, 1, 56, 2, 57, 49, 28, 3, 61, 58, 42, 50, 38, 29, 17, 4, 62, 47, 59, 36, 45, 43, 51, 22, 53, 39, 33, 30, 24, 18, 12, 5, 63, 55, 48, 27, 60, 41, 37, 16, 46, 35, 44, 21, 52, 32, 23, 11, 54, 26, 40, 15, 34, 20, 31, 10, 25, 14, 19, 9, 13, 8, 7, 6])),
  (44, .cells (nul 16000) 0 .yes),
  (45, .cells [.int .i64 800, .slice (some (44, 0)) 16000 (some 16000), .int .u64 0, .int .u64 0] 0 .yes),
  (56, .cells [.int .i64 0, .int .i64 0, .bool false, .int .i64 0, .int .i64 0, .bool false, .int .i64 0, .int .i64 0, .bool false, .int .i64 0, .int .i64 0, .bool false, .int .i64 0, .int .i64 0, .bool false, .int .i64 0, .int .i64 0, .bool false, .int .i64 0, .int .i64 0, .bool false, .int .i64 0, .int .i64 0, .bool false, .int .i64 8, .int .i64 8, .bool false] 0 .yes),
  (57, .cells [.slice (some (56, 0)) 9 (some 9), .int .i64 0] 0 .yes),
  (58, .cells [.int .u32 0, .slice none 0 (some 0), .bool false, .int .i64 0, .int .u32 0, .slice none 0 (some 0), .bool false, .int .i64 0, .int .u32 0, .slice none 0 (some 0), .bool false, .int .i64 0, .int .u32 0, .slice none 0 (some 0), .bool false, .int .i64 0, .int .u32 0, .slice none 0 (some 0), .bool false, .int .i64 0, .int .u32 0, .slice none 0 (some 0), .bool false, .int .i64 0, .int .u32 0, .slice none 0 (some 0), .bool false, .int .i64 0, .int .u32 0, .slice none 0 (some 0), .bool false, .int .i64 0] 0 .yes),
  (59, .map [] 0),
  (60, .cells [.ptr (some (45, 0)), .slice (some (58, 0)) 8 (some 8), .map (some 59), .slice (some (76, 0)) 8 none, .ptr (some (57, 0))] 0 .yes),
  (76, .cells [.int .i64 0, .int .i64 1, .int .i64 2, .int .i64 3, .int .i64 4, .int .i64 5, .int .i64 6, .int .i64 7] 1 .yes),
  (77, .cells [.int .u64 1] 0 .yes),
  (78, .cells [.int .i64 20, .int .i64 1, .slice (some (77, 0)) 1 (some 1)] 0 .yes),
  (79, .cells [.ptr (some (78, 0))] 0 .yes),
  (80, .cells [.int .i64 20, .int .i64 800, .int .i64 8, .int .i64 8, .int .i64 16, .int .i64 16, .int .i64 24, .int .i64 3, .ptr (some (45, 0)), .ptr (some (60, 0)), .ptr (some (79, 0)), .int .u32 0] 0 .yes)],
 v := .tup [.ptr (some (131, 0)), .int .i64 0], nout := 133, ldel := [],
 lset := [(58, .cells [.int .u32 0, .slice none 0 (some 0), .bool false, .int .i64 0, .int .u32 0, .slice none 0 (some 0), .bool false, .int .i64 0, .int .u32 0, .slice none 0 (some 0), .bool false, .int .i64 0, .int .u32 0, .slice none 0 (some 0), .bool false, .int .i64 0, .int .u32 0, .slice none 0 (some 0), .bool false, .int .i64 0, .int .u32 0, .slice none 0 (some 0), .bool false, .int .i64 0, .int .u32 0, .slice none 0 (some 0), .bool false, .int .i64 0, .int .u32 1, .slice (some (129, 0)) 800 none, .bool true, .int .i64 1] 0 .yes),
  (59, .map [(.int .u32 1, .int .i64 7, 0)] 1),
  (60, .cells [.ptr (some (45, 0)), .slice (some (58, 0)) 8 (some 8), .map (some 59), .slice (some (76, 0)) 7 none, .ptr (some (57, 0))] 0 .yes),
  (77, .cells [.int .u64 3] 0 .yes),
  (78, .cells [.int .i64 20, .int .i64 2, .slice (some (77, 0)) 1 (some 1)] 0 .yes),
  (80, .cells [.int .i64 20, .int .i64 800, .int .i64 8, .int .i64 8, .int .i64 16, .int .i64 16, .int .i64 24, .int .i64 3, .ptr (some (45, 0)), .ptr (some (60, 0)), .ptr (some (79, 0)), .int .u32 1] 0 .yes),
  (129, .cells (by8 [1] ++ (nul 799)) 1 (.of 5)),
  (131, .cells [.ptr (some (80, 0)), .int .u32 1, .int .i64 0, .int .i64 0, .int .i64 0, .int .i64 0] 0 .yes)] }

noncomputable def mhk1F (args : List AV) (M : AMem) : Option (AV × AMem) := match hkW 84 with
  | some h => h args M
  | none => acall Tryz.prog hkW 1000 84 args M

noncomputable def mhk1 : Hook := fun f => match f with
  | 84 => some (cutAt [mcut1] mhk1F)
  | _ => hkW f

def mcut2 : Cut := {
 args := [.agg [.int .i64 20, .int .i64 800, .int .i64 8, .int .i64 8, .int .i64 16, .int .i64 16, .int .i64 24, .int .i64 3]], nin := 34,
 lin := [(3, .ro (by8 [0, 1, 56, 2, 57, 49, 28, 3, 61, 58, 42, 50, 38, 29, 17, 4, 62, 47, 59, 36, 45, 43, 51, 22, 53, 39, 33, 30, 24, 18, 12, 5, 63, 55, 48, 27, 60, 41, 37, 16, 46, 35, 44, 21, 52, 32, 23, 11, 54, 26, 40, 15, 34, 20, 31, 10, 25, 14, 19, 9, 13, 8, 7, 6]))],
 v := .tup [.ptr (some (133, 0)), .int .i64 0], nout := 267, ldel := [],
 lset := [(44, .cells (by8 [83, 76, 85, 73, 67, 69, 48, 49, 0, 0, 0, 20, 0, 0, 3, 32, 0, 0, 0, 8, 0, 0, 0, 8, 0, 0, 0, 16, 0, 0, 0, 16, 0, 0, 0, 24, 0, 0, 0, 3, 0, 0, 0, 1, 0, 0, 0, 1, 0, 0, 0, 0, 0, 0, 0, 0, 0, 0, 0, 0, 141, 122, 2, 171] ++ (nul 736 ++ (by8 [1] ++ (nul 15199)))) 0 .yes),
  (45, .cells [.int .i64 800, .slice (some (44, 0)) 16000 (some 16000), .int .u64 0, .int .u64 2] 0 .yes),
  (56, .cells [.int .i64 0, .int .i64 0, .bool false, .int .i64 0, .int .i64 0, .bool false, .int .i64 0, .int .i64 0, .bool false, .int .i64 0, .int .i64 0, .bool false, .int .i64 0, .int .i64 0, .bool false, .int .i64 0, .int .i64 0, .bool false, .int .i64 0, .int .i64 0, .bool false, .int .i64 0, .int .i64 0, .bool false, .int .i64 8, .int .i64 8, .bool false] 0 .yes),
  (57, .cells [.slice (some (56, 0)) 9 (some 9), .int .i64 0] 0 .yes),
  (58, .cells [.int .u32 0, .slice none 0 (some 0), .bool false, .int .i64 0, .int .u32 0, .slice none 0 (some 0), .bool false, .int .i64 0, .int .u32 0, .slice none 0 (some 0), .bool false, .int .i64 0, .int .u32 0, .slice none 0 (some 0), .bool false, .int .i64 0, .int .u32 0, .slice none 0 (some 0), .bool false, .int .i64 0, .int .u32 0, .slice none 0 (some 0), .bool false, .int .i64 0, .int .u32 0, .slice none 0 (some 0), .bool false, .int .i64 0, .int .u32 1, .slice (some (129, 0)) 800 none, .bool false, .int .i64 1] 0 .yes),
  (59, .map [(.int .u32 1, .int .i64 7, 0)] 1),
  (60, .cells [.ptr (some (45, 0)), .slice (some (58, 0)) 8 (some 8), .map (some 59), .slice (some (76, 0)) 7 none, .ptr (some (57, 0))] 0 .yes),
  (76, .cells [.int .i64 0, .int .i64 1, .int .i64 2, .int .i64 3, .int .i64 4, .int .i64 5, .int .i64 6, .int .i64 7] 1 .yes),
  (77, .cells [.int .u64 3] 0 .yes),
  (78, .cells [.int .i64 20, .int .i64 2, .slice (some (77, 0)) 1 (some 1)] 0 .yes),
  (79, .cells [.ptr (some (78, 0))] 0 .yes),
  (80, .cells [.int .i64 20, .int .i64 800, .int .i64 8, .int .i64 8, .int .i64 16, .int .i64 16, .int .i64 24, .int .i64 3, .ptr (some (45, 0)), .ptr (some (60, 0)), .ptr (some (79, 0)), .int .u32 1] 0 .yes),
  (129, .cells (by8 [1] ++ (nul 799)) 1 (.of 5)),
  (131, .cells [.ptr (some (80, 0)), .int .u32 1, .int .i64 0, .int .i64 0, .int .i64 0, .int .i64 0] 0 .yes),
  (133, .cells [.ptr (some (45, 0)), .ptr (some (131, 0))] 0 .yes)] }

noncomputable def mhk2F (args : List AV) (M : AMem) : Option (AV × AMem) := match mhk1 50 with
  | some h => h args M
  | none => acall Tryz.prog mhk1 1000 50 args M

noncomputable def mhk2 : Hook := fun f => match f with
  | 50 => some (cutAt [mcut2] mhk2F)
  | _ => mhk1 f

def mcut3 : Cut := {
 args := [.agg [.int .i64 20, .int .i64 800, .int .i64 8, .int .i64 8, .int .i64 16, .int .i64 16, .int .i64 24, .int .i64 3]], nin := 33,
 lin := [(3, .ro (by8 [0, 1, 56, 2, 57, 49, 28, 3, 61, 58, 42, 50, 38, 29, 17, 4, 62, 47, 59, 36, 45, 43, 51, 22, 53, 39, 33, 30, 24, 18, 12, 5, 63, 55, 48, 27, 60, 41, 37, 16, 46, 35, 44, 21, 52, 32, 23, 11, 54, 26, 40, 15, 34, 20, 31, 10, 25, 14, 19, 9, 13, 8, 7, 6]))],
 v := .tup [.ptr (some (269, 0)), .int .i64 0], nout := 270, ldel := [],
 lset := [(44, .cells (by8 [83, 76, 85, 73, 67, 69, 48, 49, 0, 0, 0, 20, 0, 0, 3, 32, 0, 0, 0, 8, 0, 0, 0, 8, 0, 0, 0, 16, 0, 0, 0, 16, 0, 0, 0, 24, 0, 0, 0, 3, 0, 0, 0, 1, 0, 0, 0, 1, 0, 0, 0, 0, 0, 0, 0, 0, 0, 0, 0, 0, 141, 122, 2, 171] ++ (nul 736 ++ (by8 [1] ++ (nul 15199)))) 0 .yes),
  (45, .cells [.int .i64 800, .slice (some (44, 0)) 16000 (some 16000), .int .u64 0, .int .u64 2] 0 .yes),
  (56, .cells [.int .i64 0, .int .i64 0, .bool false, .int .i64 0, .int .i64 0, .bool false, .int .i64 0, .int .i64 0, .bool false, .int .i64 0, .int .i64 0, .bool false, .int .i64 0, .int .i64 0, .bool false, .int .i64 0, .int .i64 0, .bool false, .int .i64 0, .int .i64 0, .bool false, .int .i64 0, .int .i64 0, .bool false, .int .i64 8, .int .i64 8, .bool false] 0 .yes),
  (57, .cells [.slice (some (56, 0)) 9 (some 9), .int .i64 0] 0 .yes),
  (58, .cells [.int .u32 0, .slice none 0 (some 0), .bool false, .int .i64 0, .int .u32 0, .slice none 0 (some 0), .bool false, .int .i64 0, .int .u32 0, .slice none 0 (some 0), .bool false, .int .i64 0, .int .u32 0, .slice none 0 (some 0), .bool false, .int .i64 0, .int .u32 0, .slice none 0 (some 0), .bool false, .int .i64 0, .int .u32 0, .slice none 0 (some 0), .bool false, .int .i64 0, .int .u32 0, .slice none 0 (some 0), .bool false, .int .i64 0, .int .u32 1, .slice (some (129, 0)) 800 none, .bool false, .int .i64 1] 0 .yes),
  (59, .map [(.int .u32 1, .int .i64 7, 0)] 1),
  (60, .cells [.ptr (some (45, 0)), .slice (some (58, 0)) 8 (some 8), .map (some 59), .slice (some (76, 0)) 7 none, .ptr (some (57, 0))] 0 .yes),
  (76, .cells [.int .i64 0, .int .i64 1, .int .i64 2, .int .i64 3, .int .i64 4, .int .i64 5, .int .i64 6, .int .i64 7] 1 .yes),
  (77, .cells [.int .u64 3] 0 .yes),
  (78, .cells [.int .i64 20, .int .i64 2, .slice (some (77, 0)) 1 (some 1)] 0 .yes),
  (79, .cells [.ptr (some (78, 0))] 0 .yes),
  (80, .cells [.int .i64 20, .int .i64 800, .int .i64 8, .int .i64 8, .int .i64 16, .int .i64 16, .int .i64 24, .int .i64 3, .ptr (some (45, 0)), .ptr (some (60, 0)), .ptr (some (79, 0)), .int .u32 1] 0 .yes),
  (129, .cells (by8 [1] ++ (nul 799)) 1 (.of 5)),
  (131, .cells [.ptr (some (80, 0)), .int .u32 1, .int .i64 0, .int .i64 0, .int .i64 0, .int .i64 0] 0 .yes),
  (133, .cells [.ptr (some (45, 0)), .ptr (some (131, 0))] 0 .yes),
  (269, .cells [.int .i64 20, .int .i64 800, .int .i64 8, .int .i64 8, .int .i64 16, .int .i64 16, .int .i64 24, .int .i64 3, .ptr (some (133, 0)), .bool true, .int .u64 0, .int .u64 0, .int .u64 0, .int .u64 0] 0 .yes)] }

noncomputable def mhk3F (args : List AV) (M : AMem) : Option (AV × AMem) := match mhk2 30 with
  | some h => h args M
  | none => acall Tryz.prog mhk2 1000 30 args M

noncomputable def mhk3 : Hook := fun f => match f with
  | 30 => some (cutAt [mcut3] mhk3F)
  | _ => mhk2 f

def mcut4 : Cut := {
 args := [.agg [.int .i64 20, .int .i64 800, .int .i64 8, .int .i64 8, .int .i64 16, .int .i64 16, .int .i64 24, .int .i64 3]], nin := 25,
 lin := [(3, .ro (by8 [0, 1, 56, 2, 57, 49, 28, 3, 61, 58, 42, 50, 38, 29, 17, 4, 62, 47, 59, 36, 45, 43, 51, 22, 53, 39, 33, 30, 24, 18, 12, 5, 63, 55, 48, 27, 60, 41, 37, 16, 46, 35, 44, 21, 52, 32, 23, 11, 54, 26, 40, 15, 34, 20, 31, 10, 25, 14, 19, 9, 13, 8, 7, 6]))],
 v := .ptr (some (270, 0)), nout := 271, ldel := [],
 lset := [(44, .cells (by8 [83, 76, 85, 73, 67, 69, 48, 49, 0, 0, 0, 20, 0, 0, 3, 32, 0, 0, 0, 8, 0, 0, 0, 8, 0, 0, 0, 16, 0, 0, 0, 16, 0, 0, 0, 24, 0, 0, 0, 3, 0, 0, 0, 1, 0, 0, 0, 1, 0, 0, 0, 0, 0, 0, 0, 0, 0, 0, 0, 0, 141, 122, 2, 171] ++ (nul 736 ++ (by8 [1] ++ (nul 15199)))) 0 .yes),
  (45, .cells [.int .i64 800, .slice (some (44, 0)) 16000 (some 16000), .int .u64 0, .int .u64 2] 0 .yes),
  (56, .cells [.int .i64 0, .int .i64 0, .bool false, .int .i64 0, .int .i64 0, .bool false, .int .i64 0, .int .i64 0, .bool false, .int .i64 0, .int .i64 0, .bool false, .int .i64 0, .int .i64 0, .bool false, .int .i64 0, .int .i64 0, .bool false, .int .i64 0, .int .i64 0, .bool false, .int .i64 0, .int .i64 0, .bool false, .int .i64 8, .int .i64 8, .bool false] 0 .yes),
  (57, .cells [.slice (some (56, 0)) 9 (some 9), .int .i64 0] 0 .yes),
  (58, .cells [.int .u32 0, .slice none 0 (some 0), .bool false, .int .i64 0, .int .u32 0, .slice none 0 (some 0), .bool false, .int .i64 0, .int .u32 0, .slice none 0 (some 0), .bool false, .int .i64 0, .int .u32 0, .slice none 0 (some 0), .bool false, .int .i64 0, .int .u32 0, .slice none 0 (some 0), .bool false, .int .i64 0, .int .u32 0, .slice none 0 (some 0), .bool false, .int .i64 0, .int .u32 0, .slice none 0 (some 0), .bool false, .int .i64 0, .int .u32 1, .slice (some (129, 0)) 800 none, .bool false, .int .i64 1] 0 .yes),
  (59, .map [(.int .u32 1, .int .i64 7, 0)] 1),
  (60, .cells [.ptr (some (45, 0)), .slice (some (58, 0)) 8 (some 8), .map (some 59), .slice (some (76, 0)) 7 none, .ptr (some (57, 0))] 0 .yes),
  (76, .cells [.int .i64 0, .int .i64 1, .int .i64 2, .int .i64 3, .int .i64 4, .int .i64 5, .int .i64 6, .int .i64 7] 1 .yes),
  (77, .cells [.int .u64 3] 0 .yes),
  (78, .cells [.int .i64 20, .int .i64 2, .slice (some (77, 0)) 1 (some 1)] 0 .yes),
  (79, .cells [.ptr (some (78, 0))] 0 .yes),
  (80, .cells [.int .i64 20, .int .i64 800, .int .i64 8, .int .i64 8, .int .i64 16, .int .i64 16, .int .i64 24, .int .i64 3, .ptr (some (45, 0)), .ptr (some (60, 0)), .ptr (some (79, 0)), .int .u32 1] 0 .yes),
  (129, .cells (by8 [1] ++ (nul 799)) 1 (.of 5)),
  (131, .cells [.ptr (some (80, 0)), .int .u32 1, .int .i64 0, .int .i64 0, .int .i64 0, .int .i64 0] 0 .yes),
  (133, .cells [.ptr (some (45, 0)), .ptr (some (131, 0))] 0 .yes),
  (269, .cells [.int .i64 20, .int .i64 800, .int .i64 8, .int .i64 8, .int .i64 16, .int .i64 16, .int .i64 24, .int .i64 3, .ptr (some (133, 0)), .bool true, .int .u64 0, .int .u64 0, .int .u64 0, .int .u64 0] 0 .yes),
  (270, .cells [.ptr (some (269, 0))] 0 .yes)] }

noncomputable def mhk4F (args : List AV) (M : AMem) : Option (AV × AMem) := match mhk3 13 with
  | some h => h args M
  | none => acall Tryz.prog mhk3 1000 13 args M

noncomputable def mhk4 : Hook := fun f => match f with
  | 13 => some (cutAt [mcut4] mhk4F)
  | _ => mhk3 f

def mcut5 : Cut := {
 args := [.ptr (some (269, 0))], nin := 271,
 lin := [(3, .ro (by8 [0, 1, 56, 2, 57, 49, 28, 3, 61, 58, 42, 50, 38, 29, 17, 4, 62, 47, 59, 36, 45, 43, 51, 22, 53, 39, 33, 30, 24, 18, 12, 5, 63, 55, 48, 27, 60, 41, 37, 16, 46, 35, 44, 21, 52, 32, 23, 11, 54, 26, 40, 15, 34, 20, 31, 10, 25, 14, 19, 9, 13, 8, 7, 6])),
  (44, .cells (by8 [83, 76, 85, 73, 67, 69, 48, 49, 0, 0, 0, 20, 0, 0, 3, 32, 0, 0, 0, 8, 0, 0, 0, 8, 0, 0, 0, 16, 0, 0, 0, 16, 0, 0, 0, 24, 0, 0, 0, 3, 0, 0, 0, 1, 0, 0, 0, 1, 0, 0, 0, 0, 0, 0, 0, 0, 0, 0, 0, 0, 141, 122, 2, 171] ++ (nul 736 ++ (by8 [1] ++ (nul 15199)))) 0 .yes),
  (45, .cells [.int .i64 800, .slice (some (44, 0)) 16000 (some 16000), .int .u64 0, .int .u64 2] 0 .yes),
  (56, .cells [.int .i64 0, .int .i64 0, .bool false, .int .i64 0, .int .i64 0, .bool false, .int .i64 0, .int .i64 0, .bool false, .int .i64 0, .int .i64 0, .bool false, .int .i64 0, .int .i64 0, .bool false, .int .i64 0, .int .i64 0, .bool false, .int .i64 0, .int .i64 0, .bool false, .int .i64 0, .int .i64 0, .bool false, .int .i64 8, .int .i64 8, .bool false] 0 .yes),
  (57, .cells [.slice (some (56, 0)) 9 (some 9), .int .i64 0] 0 .yes),
  (58, .cells [.int .u32 0, .slice none 0 (some 0), .bool false, .int .i64 0, .int .u32 0, .slice none 0 (some 0), .bool false, .int .i64 0, .int .u32 0, .slice none 0 (some 0), .bool false, .int .i64 0, .int .u32 0, .slice none 0 (some 0), .bool false, .int .i64 0, .int .u32 0, .slice none 0 (some 0), .bool false, .int .i64 0, .int .u32 0, .slice none 0 (some 0), .bool false, .int .i64 0, .int .u32 0, .slice none 0 (some 0), .bool false, .int .i64 0, .int .u32 1, .slice (some (129, 0)) 800 none, .bool false, .int .i64 1] 0 .yes),
  (59, .map [(.int .u32 1, .int .i64 7, 0)] 1),
  (60, .cells [.ptr (some (45, 0)), .slice (some (58, 0)) 8 (some 8), .map (some 59), .slice (some (76, 0)) 7 none, .ptr (some (57, 0))] 0 .yes),
  (76, .cells [.int .i64 0, .int .i64 1, .int .i64 2, .int .i64 3, .int .i64 4, .int .i64 5, .int .i64 6, .int .i64 7] 1 .yes),
  (77, .cells [.int .u64 3] 0 .yes),
  (78, .cells [.int .i64 20, .int .i64 2, .slice (some (77, 0)) 1 (some 1)] 0 .yes),
  (79, .cells [.ptr (some (78, 0))] 0 .yes),
  (80, .cells [.int .i64 20, .int .i64 800, .int .i64 8, .int .i64 8, .int .i64 16, .int .i64 16, .int .i64 24, .int .i64 3, .ptr (some (45, 0)), .ptr (some (60, 0)), .ptr (some (79, 0)), .int .u32 1] 0 .yes),
  (129, .cells (by8 [1] ++ (nul 799)) 1 (.of 5)),
  (131, .cells [.ptr (some (80, 0)), .int .u32 1, .int .i64 0, .int .i64 0, .int .i64 0, .int .i64 0] 0 .yes),
  (133, .cells [.ptr (some (45, 0)), .ptr (some (131, 0))] 0 .yes),
  (269, .cells [.int .i64 20, .int .i64 800, .int .i64 8, .int .i64 8, .int .i64 16, .int .i64 16, .int .i64 24, .int .i64 3, .ptr (some (133, 0)), .bool true, .int .u64 0, .int .u64 0, .int .u64 0, .int .u64 0] 0 .yes)],
 v := .tup [.slice (some (407, 0)) 16000 none, .int .i64 0], nout := 415, ldel := [],
 lset := [(45, .cells [.int .i64 800, .slice (some (44, 0)) 16000 (some 16000), .int .u64 0, .int .u64 3] 0 .yes),
  (269, .cells [.int .i64 20, .int .i64 800, .int .i64 8, .int .i64 8, .int .i64 16, .int .i64 16, .int .i64 24, .int .i64 3, .ptr none, .bool true, .int .u64 0, .int .u64 1, .int .u64 0, .int .u64 1] 0 .yes),
  (407, .cells (by8 [83, 76, 85, 73, 67, 69, 48, 49, 0, 0, 0, 20, 0, 0, 3, 32, 0, 0, 0, 8, 0, 0, 0, 8, 0, 0, 0, 16, 0, 0, 0, 16, 0, 0, 0, 24, 0, 0, 0, 3, 0, 0, 0, 1, 0, 0, 0, 1, 0, 0, 0, 0, 0, 0, 0, 0, 0, 0, 0, 0, 141, 122, 2, 171] ++ (nul 736 ++ (by8 [1] ++ (nul 15199)))) 1 (.of 5))] }

noncomputable def mhk5F (args : List AV) (M : AMem) : Option (AV × AMem) := match mhk4 15 with
  | some h => h args M
  | none => acall Tryz.prog mhk4 1000 15 args M

noncomputable def mhk5 : Hook := fun f => match f with
  | 15 => some (cutAt [mcut5] mhk5F)
  | _ => mhk4 f

end Go.Proofs.YtccmopkjkmpaaaaGreatDoor
