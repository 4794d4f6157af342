/-
  11 cuts and their hooks. Printed by wip/tool/mkcuts5.py.
-/
import Derived.Test.YthhflooehdhkhaaGreatDoorWake
namespace Go.Proofs.YthhflooehdhkhaaGreatDoor
open Go Go.Ab Go.Proofs
set_option linter.unusedVariables false
set_option maxRecDepth 100000

def mcut1 : Cut := {
 args := [.ptr (some (54, 0))], nin := 55,
 lin := [(3, .ro (by8 [0, 1, 56, 2, 57, 49, 28, 3, 61, 58, 42, 50, 38, 29, 17, 4, 62, 47, 59, 36, 45, 43, 51, 22, 53, 39, 33, 30, 24, 18, 12, 5, 63, 55, 48, 27, 60, 41, 37, 16, 46, 35, 44, 21, 52, 32, 23, 11, 54, 26, 40, 15, 34, 20, 31, 10, 25, 14, 19, 9, 13, 8, 7, 6])),
  (18, .cells (nul 16000) 0 .yes),
  (19, .cells [.int .i64 800, .slice (some (18, 0)) 16000 (some 16000), .int .u64 0, .int .u64 0] 0 .yes),
  (30, .cells [.int .i64 0, .int .i64 0, .bool false, .int .i64 0, .int .i64 0, .bool false, .int .i64 0, .int .i64 0, .bool false, .int .i64 0, .int .i64 0, .bool false, .int .i64 0, .int .i64 0, .bool false, .int .i64 0, .int .i64 0, .bool false, .int .i64 0, .int .i64 0, .bool false, .int .i64 0, .int .i64 0, .bool false, .int .i64 8, .int .i64 8, .bool false] 0 .yes),
  (31, .cells [.slice (some (30, 0)) 9 (some 9), .int .i64 0] 0 .yes),
  (32, .cells [.int .u32 0, .slice none 0 (some 0), .bool false, .int .i64 0, .int .u32 0, .slice none 0 (some 0), .bool false, .int .i64 0, .int .u32 0, .slice none 0 (some 0), .bool false, .int .i64 0, .int .u32 0, .slice none 0 (some 0), .bool false, .int .i64 0, .int .u32 0, .slice none 0 (some 0), .bool false, .int .i64 0, .int .u32 0, .slice none 0 (some 0), .bool false, .int .i64 0, .int .u32 0, .slice none 0 (some 0), .bool false, .int .i64 0, .int .u32 0, .slice none 0 (some 0), .bool false, .int .i64 0] 0 .yes),
  (33, .map [] 0),
  (34, .cells [.ptr (some (19, 0)), .slice (some (32, 0)) 8 (some 8), .map (some 33), .slice (some (50, 0)) 8 none, .ptr (some (31, 0))] 0 .yes),
  (50, .cells [.int .i64 0, .int .i64 1, .int .i64 2, .int .i64 3, .int .i64 4, .int .i64 5, .int .i64 6, .int .i64 7] 1 .yes),
  (51, .cells [.int .u64 1] 0 .yes),
  (52, .cells [.int .i64 20, .int .i64 1, .slice (some (51, 0)) 1 (some 1)] 0 .yes),
  (53, .cells [.ptr (some (52, 0))] 0 .yes),
  (54, .cells [.int .i64 20, .int .i64 800, .int .i64 8, .int .i64 8, .int .i64 16, .int .i64 16, .int .i64 26, .int .i64 3, .ptr (some (19, 0)), .ptr (some (34, 0)), .ptr (some (53, 0)), .int .u32 0] 0 .yes)],
 v := .tup [.ptr (some (105, 0)), .int .i64 0], nout := 107, ldel := [],
 lset := [(32, .cells [.int .u32 0, .slice none 0 (some 0), .bool false, .int .i64 0, .int .u32 0, .slice none 0 (some 0), .bool false, .int .i64 0, .int .u32 0, .slice none 0 (some 0), .bool false, .int .i64 0, .int .u32 0, .slice none 0 (some 0), .bool false, .int .i64 0, .int .u32 0, .slice none 0 (some 0), .bool false, .int .i64 0, .int .u32 0, .slice none 0 (some 0), .bool false, .int .i64 0, .int .u32 0, .slice none 0 (some 0), .bool false, .int .i64 0, .int .u32 1, .slice (some (103, 0)) 800 none, .bool true, .int .i64 1] 0 .yes),
  (33, .map [(.int .u32 1, .int .i64 7, 0)] 1),
  (34, .cells [.ptr (some (19, 0)), .slice (some (32, 0)) 8 (some 8), .map (some 33), .slice (some (50, 0)) 7 none, .ptr (some (31, 0))] 0 .yes),
  (51, .cells [.int .u64 3] 0 .yes),
  (52, .cells [.int .i64 20, .int .i64 2, .slice (some (51, 0)) 1 (some 1)] 0 .yes),
  (54, .cells [.int .i64 20, .int .i64 800, .int .i64 8, .int .i64 8, .int .i64 16, .int .i64 16, .int .i64 26, .int .i64 3, .ptr (some (19, 0)), .ptr (some (34, 0)), .ptr (some (53, 0)), .int .u32 1] 0 .yes),
  (103, .cells (by8 [1] ++ (nul 799)) 1 (.of 5)),
  (105, .cells [.ptr (some (54, 0)), .int .u32 1, .int .i64 0, .int .i64 0, .int .i64 0, .int .i64 0] 0 .yes)] }

noncomputable def mhk1F (args : List AV) (M : AMem) : Option (AV × AMem) := match hkW 51 with
  | some h => h args M
  | none => acall Tryz.prog hkW 1000 51 args M

noncomputable def mhk1 : Hook := fun f => match f with
  | 51 => some (cutAt [mcut1] mhk1F)
  | _ => hkW f

def mcut2 : Cut := {
 args := [.ptr (some (107, 0))], nin := 108,
 lin := [(3, .ro (by8 [0, 1, 56, 2, 57, 49, 28, 3, 61, 58, 42, 50, 38, 29, 17, 4, 62, 47, 59, 36, 45, 43, 51, 22, 53, 39, 33, 30, 24, 18, 12, 5, 63, 55, 48, 27, 60, 41, 37, 16, 46, 35, 44, 21, 52, 32, 23, 11, 54, 26, 40, 15, 34, 20, 31, 10, 25, 14, 19, 9, 13, 8, 7, 6])),
  (18, .cells (nul 16000) 0 .yes),
  (19, .cells [.int .i64 800, .slice (some (18, 0)) 16000 (some 16000), .int .u64 0, .int .u64 0] 0 .yes),
  (30, .cells [.int .i64 0, .int .i64 0, .bool false, .int .i64 0, .int .i64 0, .bool false, .int .i64 0, .int .i64 0, .bool false, .int .i64 0, .int .i64 0, .bool false, .int .i64 0, .int .i64 0, .bool false, .int .i64 0, .int .i64 0, .bool false, .int .i64 0, .int .i64 0, .bool false, .int .i64 0, .int .i64 0, .bool false, .int .i64 8, .int .i64 8, .bool false] 0 .yes),
  (31, .cells [.slice (some (30, 0)) 9 (some 9), .int .i64 0] 0 .yes),
  (32, .cells [.int .u32 0, .slice none 0 (some 0), .bool false, .int .i64 0, .int .u32 0, .slice none 0 (some 0), .bool false, .int .i64 0, .int .u32 0, .slice none 0 (some 0), .bool false, .int .i64 0, .int .u32 0, .slice none 0 (some 0), .bool false, .int .i64 0, .int .u32 0, .slice none 0 (some 0), .bool false, .int .i64 0, .int .u32 0, .slice none 0 (some 0), .bool false, .int .i64 0, .int .u32 0, .slice none 0 (some 0), .bool false, .int .i64 0, .int .u32 1, .slice (some (103, 0)) 800 none, .bool true, .int .i64 1] 0 .yes),
  (33, .map [(.int .u32 1, .int .i64 7, 0)] 1),
  (34, .cells [.ptr (some (19, 0)), .slice (some (32, 0)) 8 (some 8), .map (some 33), .slice (some (50, 0)) 7 none, .ptr (some (31, 0))] 0 .yes),
  (50, .cells [.int .i64 0, .int .i64 1, .int .i64 2, .int .i64 3, .int .i64 4, .int .i64 5, .int .i64 6, .int .i64 7] 1 .yes),
  (51, .cells [.int .u64 3] 0 .yes),
  (52, .cells [.int .i64 20, .int .i64 2, .slice (some (51, 0)) 1 (some 1)] 0 .yes),
  (53, .cells [.ptr (some (52, 0))] 0 .yes),
  (54, .cells [.int .i64 20, .int .i64 800, .int .i64 8, .int .i64 8, .int .i64 16, .int .i64 16, .int .i64 26, .int .i64 3, .ptr (some (19, 0)), .ptr (some (34, 0)), .ptr (some (53, 0)), .int .u32 1] 0 .yes),
  (103, .cells (by8 [1] ++ (nul 799)) 1 (.of 5)),
  (105, .cells [.ptr (some (54, 0)), .int .u32 1, .int .i64 0, .int .i64 0, .int .i64 0, .int .i64 0] 0 .yes),
  (107, .cells [.ptr (some (19, 0)), .ptr (some (105, 0))] 0 .yes)],
 v := .int .i64 0, nout := 241, ldel := [],
 lset := [(18, .cells (by8 [83, 76, 85, 73, 67, 69, 48, 49, 0, 0, 0, 20, 0, 0, 3, 32, 0, 0, 0, 8, 0, 0, 0, 8, 0, 0, 0, 16, 0, 0, 0, 16, 0, 0, 0, 26, 0, 0, 0, 3, 0, 0, 0, 1, 0, 0, 0, 1, 0, 0, 0, 0, 0, 0, 0, 0, 0, 0, 0, 0, 141, 172, 2, 173] ++ (nul 736 ++ (by8 [1] ++ (nul 15199)))) 0 .yes),
  (19, .cells [.int .i64 800, .slice (some (18, 0)) 16000 (some 16000), .int .u64 0, .int .u64 2] 0 .yes),
  (32, .cells [.int .u32 0, .slice none 0 (some 0), .bool false, .int .i64 0, .int .u32 0, .slice none 0 (some 0), .bool false, .int .i64 0, .int .u32 0, .slice none 0 (some 0), .bool false, .int .i64 0, .int .u32 0, .slice none 0 (some 0), .bool false, .int .i64 0, .int .u32 0, .slice none 0 (some 0), .bool false, .int .i64 0, .int .u32 0, .slice none 0 (some 0), .bool false, .int .i64 0, .int .u32 0, .slice none 0 (some 0), .bool false, .int .i64 0, .int .u32 1, .slice (some (103, 0)) 800 none, .bool false, .int .i64 1] 0 .yes)] }

noncomputable def mhk2F (args : List AV) (M : AMem) : Option (AV × AMem) := match mhk1 29 with
  | some h => h args M
  | none => acall Tryz.prog mhk1 1000 29 args M

noncomputable def mhk2 : Hook := fun f => match f with
  | 29 => some (cutAt [mcut2] mhk2F)
  | _ => mhk1 f

def mcut3 : Cut := {
 args := [.agg [.int .i64 20, .int .i64 800, .int .i64 8, .int .i64 8, .int .i64 16, .int .i64 16, .int .i64 26, .int .i64 3]], nin := 7,
 lin := [(3, .ro (by8 [0, 1, 56, 2, 57, 49, 28, 3, 61, 58, 42, 50, 38, 29, 17, 4, 62, 47, 59, 36, 45, 43, 51, 22, 53, 39, 33, 30, 24, 18, 12, 5, 63, 55, 48, 27, 60, 41, 37, 16, 46, 35, 44, 21, 52, 32, 23, 11, 54, 26, 40, 15, 34, 20, 31, 10, 25, 14, 19, 9, 13, 8, 7, 6]))],
 v := .tup [.ptr (some (243, 0)), .int .i64 0], nout := 244, ldel := [],
 lset := [(18, .cells (by8 [83, 76, 85, 73, 67, 69, 48, 49, 0, 0, 0, 20, 0, 0, 3, 32, 0, 0, 0, 8, 0, 0, 0, 8, 0, 0, 0, 16, 0, 0, 0, 16, 0, 0, 0, 26, 0, 0, 0, 3, 0, 0, 0, 1, 0, 0, 0, 1, 0, 0, 0, 0, 0, 0, 0, 0, 0, 0, 0, 0, 141, 172, 2, 173] ++ (nul 736 ++ (by8 [1] ++ (nul 15199)))) 0 .yes),
  (19, .cells [.int .i64 800, .slice (some (18, 0)) 16000 (some 16000), .int .u64 0, .int .u64 2] 0 .yes),
  (30, .cells [.int .i64 0, .int .i64 0, .bool false, .int .i64 0, .int .i64 0, .bool false, .int .i64 0, .int .i64 0, .bool false, .int .i64 0, .int .i64 0, .bool false, .int .i64 0, .int .i64 0, .bool false, .int .i64 0, .int .i64 0, .bool false, .int .i64 0, .int .i64 0, .bool false, .int .i64 0, .int .i64 0, .bool false, .int .i64 8, .int .i64 8, .bool false] 0 .yes),
  (31, .cells [.slice (some (30, 0)) 9 (some 9), .int .i64 0] 0 .yes),
  (32, .cells [.int .u32 0, .slice none 0 (some 0), .bool false, .int .i64 0, .int .u32 0, .slice none 0 (some 0), .bool false, .int .i64 0, .int .u32 0, .slice none 0 (some 0), .bool false, .int .i64 0, .int .u32 0, .slice none 0 (some 0), .bool false, .int .i64 0, .int .u32 0, .slice none 0 (some 0), .bool false, .int .i64 0, .int .u32 0, .slice none 0 (some 0), .bool false, .int .i64 0, .int .u32 0, .slice none 0 (some 0), .bool false, .int .i64 0, .int .u32 1, .slice (some (103, 0)) 800 none, .bool false, .int .i64 1] 0 .yes),
  (33, .map [(.int .u32 1, .int .i64 7, 0)] 1),
  (34, .cells [.ptr (some (19, 0)), .slice (some (32, 0)) 8 (some 8), .map (some 33), .slice (some (50, 0)) 7 none, .ptr (some (31, 0))] 0 .yes),
  (50, .cells [.int .i64 0, .int .i64 1, .int .i64 2, .int .i64 3, .int .i64 4, .int .i64 5, .int .i64 6, .int .i64 7] 1 .yes),
  (51, .cells [.int .u64 3] 0 .yes),
  (52, .cells [.int .i64 20, .int .i64 2, .slice (some (51, 0)) 1 (some 1)] 0 .yes),
  (53, .cells [.ptr (some (52, 0))] 0 .yes),
  (54, .cells [.int .i64 20, .int .i64 800, .int .i64 8, .int .i64 8, .int .i64 16, .int .i64 16, .int .i64 26, .int .i64 3, .ptr (some (19, 0)), .ptr (some (34, 0)), .ptr (some (53, 0)), .int .u32 1] 0 .yes),
  (103, .cells (by8 [1] ++ (nul 799)) 1 (.of 5)),
  (105, .cells [.ptr (some (54, 0)), .int .u32 1, .int .i64 0, .int .i64 0, .int .i64 0, .int .i64 0] 0 .yes),
  (107, .cells [.ptr (some (19, 0)), .ptr (some (105, 0))] 0 .yes),
  (243, .cells [.int .i64 20, .int .i64 800, .int .i64 8, .int .i64 8, .int .i64 16, .int .i64 16, .int .i64 26, .int .i64 3, .ptr (some (107, 0)), .bool true, .int .u64 0, .int .u64 0, .int .u64 0, .int .u64 0] 0 .yes)] }

noncomputable def mhk3F (args : List AV) (M : AMem) : Option (AV × AMem) := match mhk2 10 with
  | some h => h args M
  | none => acall Tryz.prog mhk2 1000 10 args M

noncomputable def mhk3 : Hook := fun f => match f with
  | 10 => some (cutAt [mcut3] mhk3F)
  | _ => mhk2 f

def mcut4 : Cut := {
 args := [.agg [.int .i64 20, .int .i64 800, .int .i64 8, .int .i64 8, .int .i64 16, .int .i64 16, .int .i64 26, .int .i64 3], .slice (some (320, 0)) 800 none], nin := 321,
 lin := [(3, .ro (by8 [0, 1, 56, 2, 57, 49, 28, 3, 61, 58, 42, 50, 38, 29, 17, 4, 62, 47, 59, 36, 45, 43, 51, 22, 53, 39, 33, 30, 24, 18, 12, 5, 63, 55, 48, 27, 60, 41, 37, 16, 46, 35, 44, 21, 52, 32, 23, 11, 54, 26, 40, 15, 34, 20, 31, 10, 25, 14, 19, 9, 13, 8, 7, 6])),
  (320, .cells (by8 [1] ++ (nul 799)) 1 (.of 5))],
 v := .tup [.agg [.int .i64 0, .slice none 0 (some 0), .slice none 0 (some 0), .slice none 0 (some 0), .slice none 0 (some 0)], .int .i64 0], nout := 386, ldel := [],
 lset := [] }

noncomputable def mhk4F (args : List AV) (M : AMem) : Option (AV × AMem) := match mhk3 129 with
  | some h => h args M
  | none => acall Tryz.prog mhk3 1000 129 args M

noncomputable def mhk4 : Hook := fun f => match f with
  | 129 => some (cutAt [mcut4] mhk4F)
  | _ => mhk3 f

def mcut5 : Cut := {
 args := [.ptr (some (54, 0)), .int .u32 1, .agg [.str [1, 0, 0, 0, 0, 0, 0, 0, 3, 2, 113, 0, 1], .str [1, 0, 0, 0, 0, 0, 0, 0, 3, 2, 113, 0, 1, 3], .bool false], .int .i64 1073741824], nin := 314,
 lin := [(3, .ro (by8 [0, 1, 56, 2, 57, 49, 28, 3, 61, 58, 42, 50, 38, 29, 17, 4, 62, 47, 59, 36, 45, 43, 51, 22, 53, 39, 33, 30, 24, 18, 12, 5, 63, 55, 48, 27, 60, 41, 37, 16, 46, 35, 44, 21, 52, 32, 23, 11, 54, 26, 40, 15, 34, 20, 31, 10, 25, 14, 19, 9, 13, 8, 7, 6])),
  (18, .cells (by8 [83, 76, 85, 73, 67, 69, 48, 49, 0, 0, 0, 20, 0, 0, 3, 32, 0, 0, 0, 8, 0, 0, 0, 8, 0, 0, 0, 16, 0, 0, 0, 16, 0, 0, 0, 26, 0, 0, 0, 3, 0, 0, 0, 1, 0, 0, 0, 1, 0, 0, 0, 0, 0, 0, 0, 0, 0, 0, 0, 0, 141, 172, 2, 173] ++ (nul 736 ++ (by8 [1] ++ (nul 15199)))) 0 .yes),
  (19, .cells [.int .i64 800, .slice (some (18, 0)) 16000 (some 16000), .int .u64 0, .int .u64 2] 0 .yes),
  (30, .cells [.int .i64 0, .int .i64 0, .bool false, .int .i64 0, .int .i64 0, .bool false, .int .i64 0, .int .i64 0, .bool false, .int .i64 0, .int .i64 0, .bool false, .int .i64 0, .int .i64 0, .bool false, .int .i64 0, .int .i64 0, .bool false, .int .i64 0, .int .i64 0, .bool false, .int .i64 0, .int .i64 0, .bool false, .int .i64 8, .int .i64 8, .bool false] 0 .yes),
  (31, .cells [.slice (some (30, 0)) 9 (some 9), .int .i64 0] 0 .yes),
  (32, .cells [.int .u32 0, .slice none 0 (some 0), .bool false, .int .i64 0, .int .u32 0, .slice none 0 (some 0), .bool false, .int .i64 0, .int .u32 0, .slice none 0 (some 0), .bool false, .int .i64 0, .int .u32 0, .slice none 0 (some 0), .bool false, .int .i64 0, .int .u32 0, .slice none 0 (some 0), .bool false, .int .i64 0, .int .u32 0, .slice none 0 (some 0), .bool false, .int .i64 0, .int .u32 0, .slice none 0 (some 0), .bool false, .int .i64 0, .int .u32 1, .slice (some (103, 0)) 800 none, .bool false, .int .i64 1] 0 .yes),
  (33, .map [(.int .u32 1, .int .i64 7, 0)] 1),
  (34, .cells [.ptr (some (19, 0)), .slice (some (32, 0)) 8 (some 8), .map (some 33), .slice (some (50, 0)) 7 none, .ptr (some (31, 0))] 0 .yes),
  (50, .cells [.int .i64 0, .int .i64 1, .int .i64 2, .int .i64 3, .int .i64 4, .int .i64 5, .int .i64 6, .int .i64 7] 1 .yes),
  (51, .cells [.int .u64 3] 0 .yes),
  (52, .cells [.int .i64 20, .int .i64 2, .slice (some (51, 0)) 1 (some 1)] 0 .yes),
  (53, .cells [.ptr (some (52, 0))] 0 .yes),
  (54, .cells [.int .i64 20, .int .i64 800, .int .i64 8, .int .i64 8, .int .i64 16, .int .i64 16, .int .i64 26, .int .i64 3, .ptr (some (19, 0)), .ptr (some (34, 0)), .ptr (some (53, 0)), .int .u32 1] 0 .yes),
  (103, .cells (by8 [1] ++ (nul 799)) 1 (.of 5))],
 v := .tup [.slice none 0 (some 0), .int .i64 0], nout := 389, ldel := [],
 lset := [] }

noncomputable def mhk5F (args : List AV) (M : AMem) : Option (AV × AMem) := match mhk4 41 with
  | some h => h args M
  | none => acall Tryz.prog mhk4 1000 41 args M

noncomputable def mhk5 : Hook := fun f => match f with
  | 41 => some (cutAt [mcut5] mhk5F)
  | _ => mhk4 f

def mcut6 : Cut := {
 args := [.ptr (some (243, 0)), .str [113]], nin := 244,
 lin := [(3, .ro (by8 [0, 1, 56, 2, 57, 49, 28, 3, 61, 58, 42, 50, 38, 29, 17, 4, 62, 47, 59, 36, 45, 43, 51, 22, 53, 39, 33, 30, 24, 18, 12, 5, 63, 55, 48, 27, 60, 41, 37, 16, 46, 35, 44, 21, 52, 32, 23, 11, 54, 26, 40, 15, 34, 20, 31, 10, 25, 14, 19, 9, 13, 8, 7, 6])),
  (18, .cells (by8 [83, 76, 85, 73, 67, 69, 48, 49, 0, 0, 0, 20, 0, 0, 3, 32, 0, 0, 0, 8, 0, 0, 0, 8, 0, 0, 0, 16, 0, 0, 0, 16, 0, 0, 0, 26, 0, 0, 0, 3, 0, 0, 0, 1, 0, 0, 0, 1, 0, 0, 0, 0, 0, 0, 0, 0, 0, 0, 0, 0, 141, 172, 2, 173] ++ (nul 736 ++ (by8 [1] ++ (nul 15199)))) 0 .yes),
  (19, .cells [.int .i64 800, .slice (some (18, 0)) 16000 (some 16000), .int .u64 0, .int .u64 2] 0 .yes),
  (30, .cells [.int .i64 0, .int .i64 0, .bool false, .int .i64 0, .int .i64 0, .bool false, .int .i64 0, .int .i64 0, .bool false, .int .i64 0, .int .i64 0, .bool false, .int .i64 0, .int .i64 0, .bool false, .int .i64 0, .int .i64 0, .bool false, .int .i64 0, .int .i64 0, .bool false, .int .i64 0, .int .i64 0, .bool false, .int .i64 8, .int .i64 8, .bool false] 0 .yes),
  (31, .cells [.slice (some (30, 0)) 9 (some 9), .int .i64 0] 0 .yes),
  (32, .cells [.int .u32 0, .slice none 0 (some 0), .bool false, .int .i64 0, .int .u32 0, .slice none 0 (some 0), .bool false, .int .i64 0, .int .u32 0, .slice none 0 (some 0), .bool false, .int .i64 0, .int .u32 0, .slice none 0 (some 0), .bool false, .int .i64 0, .int .u32 0, .slice none 0 (some 0), .bool false, .int .i64 0, .int .u32 0, .slice none 0 (some 0), .bool false, .int .i64 0, .int .u32 0, .slice none 0 (some 0), .bool false, .int .i64 0, .int .u32 1, .slice (some (103, 0)) 800 none, .bool false, .int .i64 1] 0 .yes),
  (33, .map [(.int .u32 1, .int .i64 7, 0)] 1),
  (34, .cells [.ptr (some (19, 0)), .slice (some (32, 0)) 8 (some 8), .map (some 33), .slice (some (50, 0)) 7 none, .ptr (some (31, 0))] 0 .yes),
  (50, .cells [.int .i64 0, .int .i64 1, .int .i64 2, .int .i64 3, .int .i64 4, .int .i64 5, .int .i64 6, .int .i64 7] 1 .yes),
  (51, .cells [.int .u64 3] 0 .yes),
  (52, .cells [.int .i64 20, .int .i64 2, .slice (some (51, 0)) 1 (some 1)] 0 .yes),
  (53, .cells [.ptr (some (52, 0))] 0 .yes),
  (54, .cells [.int .i64 20, .int .i64 800, .int .i64 8, .int .i64 8, .int .i64 16, .int .i64 16, .int .i64 26, .int .i64 3, .ptr (some (19, 0)), .ptr (some (34, 0)), .ptr (some (53, 0)), .int .u32 1] 0 .yes),
  (103, .cells (by8 [1] ++ (nul 799)) 1 (.of 5)),
  (105, .cells [.ptr (some (54, 0)), .int .u32 1, .int .i64 0, .int .i64 0, .int .i64 0, .int .i64 0] 0 .yes),
  (107, .cells [.ptr (some (19, 0)), .ptr (some (105, 0))] 0 .yes),
  (243, .cells [.int .i64 20, .int .i64 800, .int .i64 8, .int .i64 8, .int .i64 16, .int .i64 16, .int .i64 26, .int .i64 3, .ptr (some (107, 0)), .bool true, .int .u64 0, .int .u64 0, .int .u64 0, .int .u64 0] 0 .yes)],
 v := .tup [.ptr (some (244, 0)), .int .i64 0], nout := 447, ldel := [],
 lset := [(244, .cells [.ptr (some (243, 0)), .str [113], .slice none 0 (some 0), .int .u64 0, .bool false] 0 .yes)] }

noncomputable def mhk6F (args : List AV) (M : AMem) : Option (AV × AMem) := match mhk5 9 with
  | some h => h args M
  | none => acall Tryz.prog mhk5 1000 9 args M

noncomputable def mhk6 : Hook := fun f => match f with
  | 9 => some (cutAt [mcut6] mhk6F)
  | _ => mhk5 f

def mcut7 : Cut := {
 args := [.agg [.int .i64 20, .int .i64 800, .int .i64 8, .int .i64 8, .int .i64 16, .int .i64 16, .int .i64 26, .int .i64 3], .slice (some (509, 0)) 800 none], nin := 510,
 lin := [(3, .ro (by8 [0, 1, 56, 2, 57, 49, 28, 3, 61, 58, 42, 50, 38, 29, 17, 4, 62, 47, 59, 36, 45, 43, 51, 22, 53, 39, 33, 30, 24, 18, 12, 5, 63, 55, 48, 27, 60, 41, 37, 16, 46, 35, 44, 21, 52, 32, 23, 11, 54, 26, 40, 15, 34, 20, 31, 10, 25, 14, 19, 9, 13, 8, 7, 6])),
  (509, .cells (by8 [1] ++ (nul 799)) 1 (.of 5))],
 v := .tup [.agg [.int .i64 0, .slice none 0 (some 0), .slice none 0 (some 0), .slice none 0 (some 0), .slice none 0 (some 0)], .int .i64 0], nout := 575, ldel := [],
 lset := [] }

noncomputable def mhk7F (args : List AV) (M : AMem) : Option (AV × AMem) := match mhk6 129 with
  | some h => h args M
  | none => acall Tryz.prog mhk6 1000 129 args M

noncomputable def mhk7 : Hook := fun f => match f with
  | 129 => some (cutAt [mcut7] mhk7F)
  | _ => mhk6 f

def mcut8 : Cut := {
 args := [.ptr (some (54, 0)), .int .u32 1, .agg [.int .i64 0, .slice none 0 (some 0), .slice none 0 (some 0), .slice none 0 (some 0), .slice (some (583, 0)) 1 none]], nin := 584,
 lin := [(3, .ro (by8 [0, 1, 56, 2, 57, 49, 28, 3, 61, 58, 42, 50, 38, 29, 17, 4, 62, 47, 59, 36, 45, 43, 51, 22, 53, 39, 33, 30, 24, 18, 12, 5, 63, 55, 48, 27, 60, 41, 37, 16, 46, 35, 44, 21, 52, 32, 23, 11, 54, 26, 40, 15, 34, 20, 31, 10, 25, 14, 19, 9, 13, 8, 7, 6])),
  (18, .cells (by8 [83, 76, 85, 73, 67, 69, 48, 49, 0, 0, 0, 20, 0, 0, 3, 32, 0, 0, 0, 8, 0, 0, 0, 8, 0, 0, 0, 16, 0, 0, 0, 16, 0, 0, 0, 26, 0, 0, 0, 3, 0, 0, 0, 1, 0, 0, 0, 1, 0, 0, 0, 0, 0, 0, 0, 0, 0, 0, 0, 0, 141, 172, 2, 173] ++ (nul 736 ++ (by8 [1] ++ (nul 15199)))) 0 .yes),
  (19, .cells [.int .i64 800, .slice (some (18, 0)) 16000 (some 16000), .int .u64 0, .int .u64 2] 0 .yes),
  (30, .cells [.int .i64 0, .int .i64 0, .bool false, .int .i64 0, .int .i64 0, .bool false, .int .i64 0, .int .i64 0, .bool false, .int .i64 0, .int .i64 0, .bool false, .int .i64 0, .int .i64 0, .bool false, .int .i64 0, .int .i64 0, .bool false, .int .i64 0, .int .i64 0, .bool false, .int .i64 0, .int .i64 0, .bool false, .int .i64 8, .int .i64 8, .bool false] 0 .yes),
  (31, .cells [.slice (some (30, 0)) 9 (some 9), .int .i64 0] 0 .yes),
  (32, .cells [.int .u32 0, .slice none 0 (some 0), .bool false, .int .i64 0, .int .u32 0, .slice none 0 (some 0), .bool false, .int .i64 0, .int .u32 0, .slice none 0 (some 0), .bool false, .int .i64 0, .int .u32 0, .slice none 0 (some 0), .bool false, .int .i64 0, .int .u32 0, .slice none 0 (some 0), .bool false, .int .i64 0, .int .u32 0, .slice none 0 (some 0), .bool false, .int .i64 0, .int .u32 0, .slice none 0 (some 0), .bool false, .int .i64 0, .int .u32 1, .slice (some (103, 0)) 800 none, .bool false, .int .i64 1] 0 .yes),
  (33, .map [(.int .u32 1, .int .i64 7, 0)] 1),
  (34, .cells [.ptr (some (19, 0)), .slice (some (32, 0)) 8 (some 8), .map (some 33), .slice (some (50, 0)) 7 none, .ptr (some (31, 0))] 0 .yes),
  (50, .cells [.int .i64 0, .int .i64 1, .int .i64 2, .int .i64 3, .int .i64 4, .int .i64 5, .int .i64 6, .int .i64 7] 1 .yes),
  (51, .cells [.int .u64 3] 0 .yes),
  (52, .cells [.int .i64 20, .int .i64 2, .slice (some (51, 0)) 1 (some 1)] 0 .yes),
  (53, .cells [.ptr (some (52, 0))] 0 .yes),
  (54, .cells [.int .i64 20, .int .i64 800, .int .i64 8, .int .i64 8, .int .i64 16, .int .i64 16, .int .i64 26, .int .i64 3, .ptr (some (19, 0)), .ptr (some (34, 0)), .ptr (some (53, 0)), .int .u32 1] 0 .yes),
  (103, .cells (by8 [1] ++ (nul 799)) 1 (.of 5)),
  (583, .cells [.str [1, 0, 0, 0, 0, 0, 0, 0, 3, 2, 113, 0, 1, 1, 0, 0, 0, 0, 0, 0, 0, 0], .str [97]] 2 .yes)],
 v := .int .i64 0, nout := 646, ldel := [],
 lset := [(32, .cells [.int .u32 0, .slice none 0 (some 0), .bool false, .int .i64 0, .int .u32 0, .slice none 0 (some 0), .bool false, .int .i64 0, .int .u32 0, .slice none 0 (some 0), .bool false, .int .i64 0, .int .u32 0, .slice none 0 (some 0), .bool false, .int .i64 0, .int .u32 0, .slice none 0 (some 0), .bool false, .int .i64 0, .int .u32 0, .slice none 0 (some 0), .bool false, .int .i64 0, .int .u32 0, .slice none 0 (some 0), .bool false, .int .i64 0, .int .u32 1, .slice (some (645, 0)) 800 none, .bool true, .int .i64 1] 0 .yes),
  (645, .cells (by8 [1, 0, 0, 1, 0, 0, 0, 0, 22, 0, 1, 1, 0, 0, 0, 0, 0, 0, 0, 3, 2, 113, 0, 1, 1, 0, 0, 0, 0, 0, 0, 0, 0, 0, 0, 0, 0, 97] ++ (nul 762)) 1 (.of 5))] }

noncomputable def mhk8F (args : List AV) (M : AMem) : Option (AV × AMem) := match mhk7 131 with
  | some h => h args M
  | none => acall Tryz.prog mhk7 1000 131 args M

noncomputable def mhk8 : Hook := fun f => match f with
  | 131 => some (cutAt [mcut8] mhk8F)
  | _ => mhk7 f

def mcut9 : Cut := {
 args := [.ptr (some (244, 0)), .str [97]], nin := 447,
 lin := [(3, .ro (by8 [0, 1, 56, 2, 57, 49, 28, 3, 61, 58, 42, 50, 38, 29, 17, 4, 62, 47, 59, 36, 45, 43, 51, 22, 53, 39, 33, 30, 24, 18, 12, 5, 63, 55, 48, 27, 60, 41, 37, 16, 46, 35, 44, 21, 52, 32, 23, 11, 54, 26, 40, 15, 34, 20, 31, 10, 25, 14, 19, 9, 13, 8, 7, 6])),
  (18, .cells (by8 [83, 76, 85, 73, 67, 69, 48, 49, 0, 0, 0, 20, 0, 0, 3, 32, 0, 0, 0, 8, 0, 0, 0, 8, 0, 0, 0, 16, 0, 0, 0, 16, 0, 0, 0, 26, 0, 0, 0, 3, 0, 0, 0, 1, 0, 0, 0, 1, 0, 0, 0, 0, 0, 0, 0, 0, 0, 0, 0, 0, 141, 172, 2, 173] ++ (nul 736 ++ (by8 [1] ++ (nul 15199)))) 0 .yes),
  (19, .cells [.int .i64 800, .slice (some (18, 0)) 16000 (some 16000), .int .u64 0, .int .u64 2] 0 .yes),
  (30, .cells [.int .i64 0, .int .i64 0, .bool false, .int .i64 0, .int .i64 0, .bool false, .int .i64 0, .int .i64 0, .bool false, .int .i64 0, .int .i64 0, .bool false, .int .i64 0, .int .i64 0, .bool false, .int .i64 0, .int .i64 0, .bool false, .int .i64 0, .int .i64 0, .bool false, .int .i64 0, .int .i64 0, .bool false, .int .i64 8, .int .i64 8, .bool false] 0 .yes),
  (31, .cells [.slice (some (30, 0)) 9 (some 9), .int .i64 0] 0 .yes),
  (32, .cells [.int .u32 0, .slice none 0 (some 0), .bool false, .int .i64 0, .int .u32 0, .slice none 0 (some 0), .bool false, .int .i64 0, .int .u32 0, .slice none 0 (some 0), .bool false, .int .i64 0, .int .u32 0, .slice none 0 (some 0), .bool false, .int .i64 0, .int .u32 0, .slice none 0 (some 0), .bool false, .int .i64 0, .int .u32 0, .slice none 0 (some 0), .bool false, .int .i64 0, .int .u32 0, .slice none 0 (some 0), .bool false, .int .i64 0, .int .u32 1, .slice (some (103, 0)) 800 none, .bool false, .int .i64 1] 0 .yes),
  (33, .map [(.int .u32 1, .int .i64 7, 0)] 1),
  (34, .cells [.ptr (some (19, 0)), .slice (some (32, 0)) 8 (some 8), .map (some 33), .slice (some (50, 0)) 7 none, .ptr (some (31, 0))] 0 .yes),
  (50, .cells [.int .i64 0, .int .i64 1, .int .i64 2, .int .i64 3, .int .i64 4, .int .i64 5, .int .i64 6, .int .i64 7] 1 .yes),
  (51, .cells [.int .u64 3] 0 .yes),
  (52, .cells [.int .i64 20, .int .i64 2, .slice (some (51, 0)) 1 (some 1)] 0 .yes),
  (53, .cells [.ptr (some (52, 0))] 0 .yes),
  (54, .cells [.int .i64 20, .int .i64 800, .int .i64 8, .int .i64 8, .int .i64 16, .int .i64 16, .int .i64 26, .int .i64 3, .ptr (some (19, 0)), .ptr (some (34, 0)), .ptr (some (53, 0)), .int .u32 1] 0 .yes),
  (103, .cells (by8 [1] ++ (nul 799)) 1 (.of 5)),
  (105, .cells [.ptr (some (54, 0)), .int .u32 1, .int .i64 0, .int .i64 0, .int .i64 0, .int .i64 0] 0 .yes),
  (107, .cells [.ptr (some (19, 0)), .ptr (some (105, 0))] 0 .yes),
  (243, .cells [.int .i64 20, .int .i64 800, .int .i64 8, .int .i64 8, .int .i64 16, .int .i64 16, .int .i64 26, .int .i64 3, .ptr (some (107, 0)), .bool true, .int .u64 0, .int .u64 0, .int .u64 0, .int .u64 0] 0 .yes),
  (244, .cells [.ptr (some (243, 0)), .str [113], .slice none 0 (some 0), .int .u64 0, .bool false] 0 .yes)],
 v := .tup [.int .u64 0, .int .i64 0], nout := 656, ldel := [],
 lset := [(32, .cells [.int .u32 0, .slice none 0 (some 0), .bool false, .int .i64 0, .int .u32 0, .slice none 0 (some 0), .bool false, .int .i64 0, .int .u32 0, .slice none 0 (some 0), .bool false, .int .i64 0, .int .u32 0, .slice none 0 (some 0), .bool false, .int .i64 0, .int .u32 0, .slice none 0 (some 0), .bool false, .int .i64 0, .int .u32 0, .slice none 0 (some 0), .bool false, .int .i64 0, .int .u32 0, .slice none 0 (some 0), .bool false, .int .i64 0, .int .u32 1, .slice (some (645, 0)) 800 none, .bool true, .int .i64 1] 0 .yes),
  (105, .cells [.ptr (some (54, 0)), .int .u32 1, .int .i64 0, .int .i64 1, .int .i64 0, .int .i64 0] 0 .yes),
  (244, .cells [.ptr (some (243, 0)), .str [113], .slice (some (655, 0)) 1 none, .int .u64 1, .bool false] 0 .yes),
  (645, .cells (by8 [1, 0, 0, 1, 0, 0, 0, 0, 22, 0, 1, 1, 0, 0, 0, 0, 0, 0, 0, 3, 2, 113, 0, 1, 1, 0, 0, 0, 0, 0, 0, 0, 0, 0, 0, 0, 0, 97] ++ (nul 762)) 1 (.of 5)),
  (655, .cells [.int .u64 0] 1 .yes)] }

noncomputable def mhk9F (args : List AV) (M : AMem) : Option (AV × AMem) := match mhk8 4 with
  | some h => h args M
  | none => acall Tryz.prog mhk8 1000 4 args M

noncomputable def mhk9 : Hook := fun f => match f with
  | 4 => some (cutAt [mcut9] mhk9F)
  | _ => mhk8 f

def mcut10 : Cut := {
 args := [.ptr (some (107, 0))], nin := 660,
 lin := [(3, .ro (by8 [0, 1, 56, 2, 57, 49, 28, 3, 61, 58, 42, 50, 38, 29, 17, 4, 62, 47, 59, 36, 45, 43, 51, 22, 53, 39, 33, 30, 24, 18, 12, 5, 63, 55, 48, 27, 60, 41, 37, 16, 46, 35, 44, 21, 52, 32, 23, 11, 54, 26, 40, 15, 34, 20, 31, 10, 25, 14, 19, 9, 13, 8, 7, 6])),
  (18, .cells (by8 [83, 76, 85, 73, 67, 69, 48, 49, 0, 0, 0, 20, 0, 0, 3, 32, 0, 0, 0, 8, 0, 0, 0, 8, 0, 0, 0, 16, 0, 0, 0, 16, 0, 0, 0, 26, 0, 0, 0, 3, 0, 0, 0, 1, 0, 0, 0, 1, 0, 0, 0, 0, 0, 0, 0, 0, 0, 0, 0, 0, 141, 172, 2, 173] ++ (nul 736 ++ (by8 [1] ++ (nul 15199)))) 0 .yes),
  (19, .cells [.int .i64 800, .slice (some (18, 0)) 16000 (some 16000), .int .u64 0, .int .u64 2] 0 .yes),
  (30, .cells [.int .i64 0, .int .i64 0, .bool false, .int .i64 0, .int .i64 0, .bool false, .int .i64 0, .int .i64 0, .bool false, .int .i64 0, .int .i64 0, .bool false, .int .i64 0, .int .i64 0, .bool false, .int .i64 0, .int .i64 0, .bool false, .int .i64 0, .int .i64 0, .bool false, .int .i64 0, .int .i64 0, .bool false, .int .i64 8, .int .i64 8, .bool false] 0 .yes),
  (31, .cells [.slice (some (30, 0)) 9 (some 9), .int .i64 0] 0 .yes),
  (32, .cells [.int .u32 0, .slice none 0 (some 0), .bool false, .int .i64 0, .int .u32 0, .slice none 0 (some 0), .bool false, .int .i64 0, .int .u32 0, .slice none 0 (some 0), .bool false, .int .i64 0, .int .u32 0, .slice none 0 (some 0), .bool false, .int .i64 0, .int .u32 0, .slice none 0 (some 0), .bool false, .int .i64 0, .int .u32 0, .slice none 0 (some 0), .bool false, .int .i64 0, .int .u32 0, .slice none 0 (some 0), .bool false, .int .i64 0, .int .u32 1, .slice (some (645, 0)) 800 none, .bool true, .int .i64 1] 0 .yes),
  (33, .map [(.int .u32 1, .int .i64 7, 0)] 1),
  (34, .cells [.ptr (some (19, 0)), .slice (some (32, 0)) 8 (some 8), .map (some 33), .slice (some (50, 0)) 7 none, .ptr (some (31, 0))] 0 .yes),
  (50, .cells [.int .i64 0, .int .i64 1, .int .i64 2, .int .i64 3, .int .i64 4, .int .i64 5, .int .i64 6, .int .i64 7] 1 .yes),
  (51, .cells [.int .u64 3] 0 .yes),
  (52, .cells [.int .i64 20, .int .i64 2, .slice (some (51, 0)) 1 (some 1)] 0 .yes),
  (53, .cells [.ptr (some (52, 0))] 0 .yes),
  (54, .cells [.int .i64 20, .int .i64 800, .int .i64 8, .int .i64 8, .int .i64 16, .int .i64 16, .int .i64 26, .int .i64 3, .ptr (some (19, 0)), .ptr (some (34, 0)), .ptr (some (53, 0)), .int .u32 1] 0 .yes),
  (105, .cells [.ptr (some (54, 0)), .int .u32 1, .int .i64 0, .int .i64 1, .int .i64 0, .int .i64 0] 0 .yes),
  (107, .cells [.ptr (some (19, 0)), .ptr (some (105, 0))] 0 .yes),
  (645, .cells (by8 [1, 0, 0, 1, 0, 0, 0, 0, 22, 0, 1, 1, 0, 0, 0, 0, 0, 0, 0, 3, 2, 113, 0, 1, 1, 0, 0, 0, 0, 0, 0, 0, 0, 0, 0, 0, 0, 97] ++ (nul 762)) 1 (.of 5))],
 v := .int .i64 0, nout := 793, ldel := [],
 lset := [(18, .cells (by8 [83, 76, 85, 73, 67, 69, 48, 49, 0, 0, 0, 20, 0, 0, 3, 32, 0, 0, 0, 8, 0, 0, 0, 8, 0, 0, 0, 16, 0, 0, 0, 16, 0, 0, 0, 26, 0, 0, 0, 3, 0, 0, 0, 1, 0, 0, 0, 1, 0, 0, 0, 0, 0, 0, 0, 0, 0, 0, 0, 0, 141, 172, 2, 173] ++ (nul 736 ++ (by8 [1, 0, 0, 1, 0, 0, 0, 0, 22, 0, 1, 1, 0, 0, 0, 0, 0, 0, 0, 3, 2, 113, 0, 1, 1, 0, 0, 0, 0, 0, 0, 0, 0, 0, 0, 0, 0, 97] ++ (nul 15162)))) 0 .yes),
  (19, .cells [.int .i64 800, .slice (some (18, 0)) 16000 (some 16000), .int .u64 0, .int .u64 4] 0 .yes),
  (32, .cells [.int .u32 0, .slice none 0 (some 0), .bool false, .int .i64 0, .int .u32 0, .slice none 0 (some 0), .bool false, .int .i64 0, .int .u32 0, .slice none 0 (some 0), .bool false, .int .i64 0, .int .u32 0, .slice none 0 (some 0), .bool false, .int .i64 0, .int .u32 0, .slice none 0 (some 0), .bool false, .int .i64 0, .int .u32 0, .slice none 0 (some 0), .bool false, .int .i64 0, .int .u32 0, .slice none 0 (some 0), .bool false, .int .i64 0, .int .u32 1, .slice (some (645, 0)) 800 none, .bool false, .int .i64 1] 0 .yes)] }

noncomputable def mhk10F (args : List AV) (M : AMem) : Option (AV × AMem) := match mhk9 29 with
  | some h => h args M
  | none => acall Tryz.prog mhk9 1000 29 args M

noncomputable def mhk10 : Hook := fun f => match f with
  | 29 => some (cutAt [mcut10] mhk10F)
  | _ => mhk9 f

def mcut11 : Cut := {
 args := [.ptr (some (243, 0))], nin := 656,
 lin := [(3, .ro (by8 [0, 1, 56, 2, 57, 49, 28, 3, 61, 58, 42, 50, 38, 29, 17, 4, 62, 47, 59, 36, 45, 43, 51, 22, 53, 39, 33, 30, 24, 18, 12, 5, 63, 55, 48, 27, 60, 41, 37, 16, 46, 35, 44, 21, 52, 32, 23, 11, 54, 26, 40, 15, 34, 20, 31, 10, 25, 14, 19, 9, 13, 8, 7, 6])),
  (18, .cells (by8 [83, 76, 85, 73, 67, 69, 48, 49, 0, 0, 0, 20, 0, 0, 3, 32, 0, 0, 0, 8, 0, 0, 0, 8, 0, 0, 0, 16, 0, 0, 0, 16, 0, 0, 0, 26, 0, 0, 0, 3, 0, 0, 0, 1, 0, 0, 0, 1, 0, 0, 0, 0, 0, 0, 0, 0, 0, 0, 0, 0, 141, 172, 2, 173] ++ (nul 736 ++ (by8 [1] ++ (nul 15199)))) 0 .yes),
  (19, .cells [.int .i64 800, .slice (some (18, 0)) 16000 (some 16000), .int .u64 0, .int .u64 2] 0 .yes),
  (30, .cells [.int .i64 0, .int .i64 0, .bool false, .int .i64 0, .int .i64 0, .bool false, .int .i64 0, .int .i64 0, .bool false, .int .i64 0, .int .i64 0, .bool false, .int .i64 0, .int .i64 0, .bool false, .int .i64 0, .int .i64 0, .bool false, .int .i64 0, .int .i64 0, .bool false, .int .i64 0, .int .i64 0, .bool false, .int .i64 8, .int .i64 8, .bool false] 0 .yes),
  (31, .cells [.slice (some (30, 0)) 9 (some 9), .int .i64 0] 0 .yes),
  (32, .cells [.int .u32 0, .slice none 0 (some 0), .bool false, .int .i64 0, .int .u32 0, .slice none 0 (some 0), .bool false, .int .i64 0, .int .u32 0, .slice none 0 (some 0), .bool false, .int .i64 0, .int .u32 0, .slice none 0 (some 0), .bool false, .int .i64 0, .int .u32 0, .slice none 0 (some 0), .bool false, .int .i64 0, .int .u32 0, .slice none 0 (some 0), .bool false, .int .i64 0, .int .u32 0, .slice none 0 (some 0), .bool false, .int .i64 0, .int .u32 1, .slice (some (645, 0)) 800 none, .bool true, .int .i64 1] 0 .yes),
  (33, .map [(.int .u32 1, .int .i64 7, 0)] 1),
  (34, .cells [.ptr (some (19, 0)), .slice (some (32, 0)) 8 (some 8), .map (some 33), .slice (some (50, 0)) 7 none, .ptr (some (31, 0))] 0 .yes),
  (50, .cells [.int .i64 0, .int .i64 1, .int .i64 2, .int .i64 3, .int .i64 4, .int .i64 5, .int .i64 6, .int .i64 7] 1 .yes),
  (51, .cells [.int .u64 3] 0 .yes),
  (52, .cells [.int .i64 20, .int .i64 2, .slice (some (51, 0)) 1 (some 1)] 0 .yes),
  (53, .cells [.ptr (some (52, 0))] 0 .yes),
  (54, .cells [.int .i64 20, .int .i64 800, .int .i64 8, .int .i64 8, .int .i64 16, .int .i64 16, .int .i64 26, .int .i64 3, .ptr (some (19, 0)), .ptr (some (34, 0)), .ptr (some (53, 0)), .int .u32 1] 0 .yes),
  (105, .cells [.ptr (some (54, 0)), .int .u32 1, .int .i64 0, .int .i64 1, .int .i64 0, .int .i64 0] 0 .yes),
  (107, .cells [.ptr (some (19, 0)), .ptr (some (105, 0))] 0 .yes),
  (243, .cells [.int .i64 20, .int .i64 800, .int .i64 8, .int .i64 8, .int .i64 16, .int .i64 16, .int .i64 26, .int .i64 3, .ptr (some (107, 0)), .bool true, .int .u64 0, .int .u64 0, .int .u64 0, .int .u64 0] 0 .yes),
  (645, .cells (by8 [1, 0, 0, 1, 0, 0, 0, 0, 22, 0, 1, 1, 0, 0, 0, 0, 0, 0, 0, 3, 2, 113, 0, 1, 1, 0, 0, 0, 0, 0, 0, 0, 0, 0, 0, 0, 0, 97] ++ (nul 762)) 1 (.of 5))],
 v := .tup [.slice (some (794, 0)) 16000 none, .int .i64 0], nout := 802, ldel := [],
 lset := [(18, .cells (by8 [83, 76, 85, 73, 67, 69, 48, 49, 0, 0, 0, 20, 0, 0, 3, 32, 0, 0, 0, 8, 0, 0, 0, 8, 0, 0, 0, 16, 0, 0, 0, 16, 0, 0, 0, 26, 0, 0, 0, 3, 0, 0, 0, 1, 0, 0, 0, 1, 0, 0, 0, 0, 0, 0, 0, 0, 0, 0, 0, 0, 141, 172, 2, 173] ++ (nul 736 ++ (by8 [1, 0, 0, 1, 0, 0, 0, 0, 22, 0, 1, 1, 0, 0, 0, 0, 0, 0, 0, 3, 2, 113, 0, 1, 1, 0, 0, 0, 0, 0, 0, 0, 0, 0, 0, 0, 0, 97] ++ (nul 15162)))) 0 .yes),
  (19, .cells [.int .i64 800, .slice (some (18, 0)) 16000 (some 16000), .int .u64 0, .int .u64 4] 0 .yes),
  (32, .cells [.int .u32 0, .slice none 0 (some 0), .bool false, .int .i64 0, .int .u32 0, .slice none 0 (some 0), .bool false, .int .i64 0, .int .u32 0, .slice none 0 (some 0), .bool false, .int .i64 0, .int .u32 0, .slice none 0 (some 0), .bool false, .int .i64 0, .int .u32 0, .slice none 0 (some 0), .bool false, .int .i64 0, .int .u32 0, .slice none 0 (some 0), .bool false, .int .i64 0, .int .u32 0, .slice none 0 (some 0), .bool false, .int .i64 0, .int .u32 1, .slice (some (645, 0)) 800 none, .bool false, .int .i64 1] 0 .yes),
  (243, .cells [.int .i64 20, .int .i64 800, .int .i64 8, .int .i64 8, .int .i64 16, .int .i64 16, .int .i64 26, .int .i64 3, .ptr none, .bool true, .int .u64 0, .int .u64 2, .int .u64 0, .int .u64 2] 0 .yes),
  (794, .cells (by8 [83, 76, 85, 73, 67, 69, 48, 49, 0, 0, 0, 20, 0, 0, 3, 32, 0, 0, 0, 8, 0, 0, 0, 8, 0, 0, 0, 16, 0, 0, 0, 16, 0, 0, 0, 26, 0, 0, 0, 3, 0, 0, 0, 1, 0, 0, 0, 1, 0, 0, 0, 0, 0, 0, 0, 0, 0, 0, 0, 0, 141, 172, 2, 173] ++ (nul 736 ++ (by8 [1, 0, 0, 1, 0, 0, 0, 0, 22, 0, 1, 1, 0, 0, 0, 0, 0, 0, 0, 3, 2, 113, 0, 1, 1, 0, 0, 0, 0, 0, 0, 0, 0, 0, 0, 0, 0, 97] ++ (nul 15162)))) 1 (.of 5))] }

noncomputable def mhk11F (args : List AV) (M : AMem) : Option (AV × AMem) := match mhk10 12 with
  | some h => h args M
  | none => acall Tryz.prog mhk10 1000 12 args M

noncomputable def mhk11 : Hook := fun f => match f with
  | 12 => some (cutAt [mcut11] mhk11F)
  | _ => mhk10 f

end Go.Proofs.YthhflooehdhkhaaGreatDoor
