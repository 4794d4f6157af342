/-
  49 cuts and their hooks. Printed by wip/tool/mkcuts5.py.
-/
import Derived.Test.YtfpgakjikmakkaaGreatDoorInsHook
namespace Go.Proofs.YtfpgakjikmakkaaGreatDoor
open Go Go.Ab Go.Proofs
set_option linter.unusedVariables false
set_option maxRecDepth 100000

def cut1 : Cut := {
 args := [.agg [.int .i64 9, .int .i64 200, .int .i64 8, .int .i64 8, .int .i64 16, .int .i64 16, .int .i64 2, .int .i64 1]], nin := 2,
 lin := [(1, .ro (by8 [0, 1, 56, 2, 57, 49, 28, 3, 61, 58, 42, 50, 38, 29, 17, 4, 62, 47, 59, 36, 45, 43, 51, 22, 53, 39, 33, 30, 24, 18, 12, 5, 63, 55, 48, 27, 60, 41, 37, 16, 46, 35, 44, 21, 52, 32, 23, 11, 54, 26, 40, 15, 34, 20, 31, 10, 25, 14, 19, 9, 13, 8, 7, 6]))],
 v := .tup [.ptr (some (39, 0)), .ptr (some (4, 0))], nout := 40, ldel := [],
 lset := [(3, .cells (nul 1800) 0 .yes),
  (4, .cells [.int .i64 200, .slice (some (3, 0)) 1800 (some 1800), .int .u64 0, .int .u64 0] 0 .yes),
  (15, .cells [.int .i64 0, .int .i64 0, .bool false, .int .i64 0, .int .i64 0, .bool false, .int .i64 0, .int .i64 0, .bool false, .int .i64 0, .int .i64 0, .bool false, .int .i64 0, .int .i64 0, .bool false, .int .i64 0, .int .i64 0, .bool false, .int .i64 0, .int .i64 0, .bool false, .int .i64 0, .int .i64 0, .bool false, .int .i64 8, .int .i64 8, .bool false] 0 .yes),
  (16, .cells [.slice (some (15, 0)) 9 (some 9), .int .i64 0] 0 .yes),
  (17, .cells [.int .u32 0, .slice none 0 (some 0), .bool false, .int .i64 0, .int .u32 0, .slice none 0 (some 0), .bool false, .int .i64 0, .int .u32 0, .slice none 0 (some 0), .bool false, .int .i64 0, .int .u32 0, .slice none 0 (some 0), .bool false, .int .i64 0, .int .u32 0, .slice none 0 (some 0), .bool false, .int .i64 0, .int .u32 0, .slice none 0 (some 0), .bool false, .int .i64 0, .int .u32 0, .slice none 0 (some 0), .bool false, .int .i64 0, .int .u32 0, .slice none 0 (some 0), .bool false, .int .i64 0] 0 .yes),
  (18, .map [] 0),
  (19, .cells [.ptr (some (4, 0)), .slice (some (17, 0)) 8 (some 8), .map (some 18), .slice (some (35, 0)) 8 none, .ptr (some (16, 0))] 0 .yes),
  (35, .cells [.int .i64 0, .int .i64 1, .int .i64 2, .int .i64 3, .int .i64 4, .int .i64 5, .int .i64 6, .int .i64 7] 1 .yes),
  (36, .cells [.int .u64 1] 0 .yes),
  (37, .cells [.int .i64 9, .int .i64 1, .slice (some (36, 0)) 1 (some 1)] 0 .yes),
  (38, .cells [.ptr (some (37, 0))] 0 .yes),
  (39, .cells [.int .i64 9, .int .i64 200, .int .i64 8, .int .i64 8, .int .i64 16, .int .i64 16, .int .i64 2, .int .i64 1, .ptr (some (4, 0)), .ptr (some (19, 0)), .ptr (some (38, 0)), .int .u32 0] 0 .yes)] }

noncomputable def hk1F (args : List AV) (M : AMem) : Option (AV × AMem) := match hkI 10 with
  | some h => h args M
  | none => acall Tryz.prog hkI 400 10 args M

noncomputable def hk1 : Hook := fun f => match f with
  | 10 => some (cutAt [cut1] hk1F)
  | _ => hkI f

def cut2 : Cut := {
 args := [.agg [.int .i64 9, .int .i64 200, .int .i64 8, .int .i64 8, .int .i64 16, .int .i64 16, .int .i64 2, .int .i64 1], .agg [.int .i64 0, .slice none 0 (some 0), .slice none 0 (some 0), .slice none 0 (some 0), .slice (some (67, 0)) 9 none]], nin := 69,
 lin := [(1, .ro (by8 [0, 1, 56, 2, 57, 49, 28, 3, 61, 58, 42, 50, 38, 29, 17, 4, 62, 47, 59, 36, 45, 43, 51, 22, 53, 39, 33, 30, 24, 18, 12, 5, 63, 55, 48, 27, 60, 41, 37, 16, 46, 35, 44, 21, 52, 32, 23, 11, 54, 26, 40, 15, 34, 20, 31, 10, 25, 14, 19, 9, 13, 8, 7, 6])),
  (67, .cells [.str [97, 97], .str [], .str [97, 98], .str [], .str [97, 99], .str [], .str [97, 100], .str [], .str [97, 101], .str [], .str [97, 102], .str [], .str [97, 103], .str [], .str [97, 104], .str [], .str [97, 105], .str []] 2 .yes)],
 v := .tup [.slice (some (245, 0)) 200 none, .int .i64 0], nout := 246, ldel := [],
 lset := [(245, .cells (by8 [1, 0, 0, 9, 0, 0, 0, 0, 2, 0, 0, 97, 97, 0, 2, 0, 0, 97, 98, 0, 2, 0, 0, 97, 99, 0, 2, 0, 0, 97, 100, 0, 2, 0, 0, 97, 101, 0, 2, 0, 0, 97, 102, 0, 2, 0, 0, 97, 103, 0, 2, 0, 0, 97, 104, 0, 2, 0, 0, 97, 105] ++ (nul 139)) 1 (.of 5))] }

noncomputable def hk2F (args : List AV) (M : AMem) : Option (AV × AMem) := match hk1 42 with
  | some h => h args M
  | none => acall Tryz.prog hk1 400 42 args M

noncomputable def hk2 : Hook := fun f => match f with
  | 42 => some (cutAt [cut2] hk2F)
  | _ => hk1 f

def cut3 : Cut := {
 args := [.ptr (some (39, 0)), .agg [.int .i64 0, .slice none 0 (some 0), .slice none 0 (some 0), .slice none 0 (some 0), .slice (some (67, 0)) 9 none]], nin := 68,
 lin := [(1, .ro (by8 [0, 1, 56, 2, 57, 49, 28, 3, 61, 58, 42, 50, 38, 29, 17, 4, 62, 47, 59, 36, 45, 43, 51, 22, 53, 39, 33, 30, 24, 18, 12, 5, 63, 55, 48, 27, 60, 41, 37, 16, 46, 35, 44, 21, 52, 32, 23, 11, 54, 26, 40, 15, 34, 20, 31, 10, 25, 14, 19, 9, 13, 8, 7, 6])),
  (3, .cells (nul 1800) 0 .yes),
  (4, .cells [.int .i64 200, .slice (some (3, 0)) 1800 (some 1800), .int .u64 0, .int .u64 0] 0 .yes),
  (15, .cells [.int .i64 0, .int .i64 0, .bool false, .int .i64 0, .int .i64 0, .bool false, .int .i64 0, .int .i64 0, .bool false, .int .i64 0, .int .i64 0, .bool false, .int .i64 0, .int .i64 0, .bool false, .int .i64 0, .int .i64 0, .bool false, .int .i64 0, .int .i64 0, .bool false, .int .i64 0, .int .i64 0, .bool false, .int .i64 8, .int .i64 8, .bool false] 0 .yes),
  (16, .cells [.slice (some (15, 0)) 9 (some 9), .int .i64 0] 0 .yes),
  (17, .cells [.int .u32 0, .slice none 0 (some 0), .bool false, .int .i64 0, .int .u32 0, .slice none 0 (some 0), .bool false, .int .i64 0, .int .u32 0, .slice none 0 (some 0), .bool false, .int .i64 0, .int .u32 0, .slice none 0 (some 0), .bool false, .int .i64 0, .int .u32 0, .slice none 0 (some 0), .bool false, .int .i64 0, .int .u32 0, .slice none 0 (some 0), .bool false, .int .i64 0, .int .u32 0, .slice none 0 (some 0), .bool false, .int .i64 0, .int .u32 0, .slice none 0 (some 0), .bool false, .int .i64 0] 0 .yes),
  (18, .map [] 0),
  (19, .cells [.ptr (some (4, 0)), .slice (some (17, 0)) 8 (some 8), .map (some 18), .slice (some (35, 0)) 8 none, .ptr (some (16, 0))] 0 .yes),
  (35, .cells [.int .i64 0, .int .i64 1, .int .i64 2, .int .i64 3, .int .i64 4, .int .i64 5, .int .i64 6, .int .i64 7] 1 .yes),
  (36, .cells [.int .u64 1] 0 .yes),
  (37, .cells [.int .i64 9, .int .i64 1, .slice (some (36, 0)) 1 (some 1)] 0 .yes),
  (38, .cells [.ptr (some (37, 0))] 0 .yes),
  (39, .cells [.int .i64 9, .int .i64 200, .int .i64 8, .int .i64 8, .int .i64 16, .int .i64 16, .int .i64 2, .int .i64 1, .ptr (some (4, 0)), .ptr (some (19, 0)), .ptr (some (38, 0)), .int .u32 0] 0 .yes),
  (67, .cells [.str [97, 97], .str [], .str [97, 98], .str [], .str [97, 99], .str [], .str [97, 100], .str [], .str [97, 101], .str [], .str [97, 102], .str [], .str [97, 103], .str [], .str [97, 104], .str [], .str [97, 105], .str []] 2 .yes)],
 v := .tup [.int .u32 1, .int .i64 0], nout := 253, ldel := [],
 lset := [(15, .cells [.int .i64 0, .int .i64 0, .bool false, .int .i64 0, .int .i64 0, .bool false, .int .i64 0, .int .i64 0, .bool false, .int .i64 0, .int .i64 0, .bool false, .int .i64 0, .int .i64 0, .bool false, .int .i64 0, .int .i64 0, .bool false, .int .i64 0, .int .i64 0, .bool false, .int .i64 8, .int .i64 8, .bool true, .int .i64 7, .int .i64 7, .bool false] 0 .yes),
  (16, .cells [.slice (some (15, 0)) 9 (some 9), .int .i64 1] 0 .yes),
  (17, .cells [.int .u32 0, .slice none 0 (some 0), .bool false, .int .i64 0, .int .u32 0, .slice none 0 (some 0), .bool false, .int .i64 0, .int .u32 0, .slice none 0 (some 0), .bool false, .int .i64 0, .int .u32 0, .slice none 0 (some 0), .bool false, .int .i64 0, .int .u32 0, .slice none 0 (some 0), .bool false, .int .i64 0, .int .u32 0, .slice none 0 (some 0), .bool false, .int .i64 0, .int .u32 0, .slice none 0 (some 0), .bool false, .int .i64 0, .int .u32 1, .slice (some (251, 0)) 200 none, .bool true, .int .i64 0] 0 .yes),
  (18, .map [(.int .u32 1, .int .i64 7, 0)] 1),
  (19, .cells [.ptr (some (4, 0)), .slice (some (17, 0)) 8 (some 8), .map (some 18), .slice (some (35, 0)) 7 none, .ptr (some (16, 0))] 0 .yes),
  (36, .cells [.int .u64 3] 0 .yes),
  (37, .cells [.int .i64 9, .int .i64 2, .slice (some (36, 0)) 1 (some 1)] 0 .yes),
  (251, .cells (by8 [1, 0, 0, 9, 0, 0, 0, 0, 2, 0, 0, 97, 97, 0, 2, 0, 0, 97, 98, 0, 2, 0, 0, 97, 99, 0, 2, 0, 0, 97, 100, 0, 2, 0, 0, 97, 101, 0, 2, 0, 0, 97, 102, 0, 2, 0, 0, 97, 103, 0, 2, 0, 0, 97, 104, 0, 2, 0, 0, 97, 105] ++ (nul 139)) 1 (.of 5))] }

noncomputable def hk3F (args : List AV) (M : AMem) : Option (AV × AMem) := match hk2 17 with
  | some h => h args M
  | none => acall Tryz.prog hk2 400 17 args M

noncomputable def hk3 : Hook := fun f => match f with
  | 17 => some (cutAt [cut3] hk3F)
  | _ => hk2 f

def cut4 : Cut := {
 args := [.agg [.int .i64 9, .int .i64 200, .int .i64 8, .int .i64 8, .int .i64 16, .int .i64 16, .int .i64 2, .int .i64 1], .agg [.int .i64 0, .slice none 0 (some 0), .slice none 0 (some 0), .slice none 0 (some 0), .slice none 0 (some 0)]], nin := 254,
 lin := [(1, .ro (by8 [0, 1, 56, 2, 57, 49, 28, 3, 61, 58, 42, 50, 38, 29, 17, 4, 62, 47, 59, 36, 45, 43, 51, 22, 53, 39, 33, 30, 24, 18, 12, 5, 63, 55, 48, 27, 60, 41, 37, 16, 46, 35, 44, 21, 52, 32, 23, 11, 54, 26, 40, 15, 34, 20, 31, 10, 25, 14, 19, 9, 13, 8, 7, 6]))],
 v := .tup [.slice (some (295, 0)) 200 none, .int .i64 0], nout := 296, ldel := [],
 lset := [(295, .cells (by8 [1] ++ (nul 199)) 1 (.of 5))] }

noncomputable def hk4F (args : List AV) (M : AMem) : Option (AV × AMem) := match hk3 42 with
  | some h => h args M
  | none => acall Tryz.prog hk3 400 42 args M

noncomputable def hk4 : Hook := fun f => match f with
  | 42 => some (cutAt [cut4] hk4F)
  | _ => hk3 f

def cut5 : Cut := {
 args := [.ptr (some (39, 0)), .agg [.int .i64 0, .slice none 0 (some 0), .slice none 0 (some 0), .slice none 0 (some 0), .slice none 0 (some 0)]], nin := 253,
 lin := [(1, .ro (by8 [0, 1, 56, 2, 57, 49, 28, 3, 61, 58, 42, 50, 38, 29, 17, 4, 62, 47, 59, 36, 45, 43, 51, 22, 53, 39, 33, 30, 24, 18, 12, 5, 63, 55, 48, 27, 60, 41, 37, 16, 46, 35, 44, 21, 52, 32, 23, 11, 54, 26, 40, 15, 34, 20, 31, 10, 25, 14, 19, 9, 13, 8, 7, 6])),
  (3, .cells (nul 1800) 0 .yes),
  (4, .cells [.int .i64 200, .slice (some (3, 0)) 1800 (some 1800), .int .u64 0, .int .u64 0] 0 .yes),
  (15, .cells [.int .i64 0, .int .i64 0, .bool false, .int .i64 0, .int .i64 0, .bool false, .int .i64 0, .int .i64 0, .bool false, .int .i64 0, .int .i64 0, .bool false, .int .i64 0, .int .i64 0, .bool false, .int .i64 0, .int .i64 0, .bool false, .int .i64 0, .int .i64 0, .bool false, .int .i64 8, .int .i64 8, .bool true, .int .i64 7, .int .i64 7, .bool false] 0 .yes),
  (16, .cells [.slice (some (15, 0)) 9 (some 9), .int .i64 1] 0 .yes),
  (17, .cells [.int .u32 0, .slice none 0 (some 0), .bool false, .int .i64 0, .int .u32 0, .slice none 0 (some 0), .bool false, .int .i64 0, .int .u32 0, .slice none 0 (some 0), .bool false, .int .i64 0, .int .u32 0, .slice none 0 (some 0), .bool false, .int .i64 0, .int .u32 0, .slice none 0 (some 0), .bool false, .int .i64 0, .int .u32 0, .slice none 0 (some 0), .bool false, .int .i64 0, .int .u32 0, .slice none 0 (some 0), .bool false, .int .i64 0, .int .u32 1, .slice (some (251, 0)) 200 none, .bool true, .int .i64 0] 0 .yes),
  (18, .map [(.int .u32 1, .int .i64 7, 0)] 1),
  (19, .cells [.ptr (some (4, 0)), .slice (some (17, 0)) 8 (some 8), .map (some 18), .slice (some (35, 0)) 7 none, .ptr (some (16, 0))] 0 .yes),
  (35, .cells [.int .i64 0, .int .i64 1, .int .i64 2, .int .i64 3, .int .i64 4, .int .i64 5, .int .i64 6, .int .i64 7] 1 .yes),
  (36, .cells [.int .u64 3] 0 .yes),
  (37, .cells [.int .i64 9, .int .i64 2, .slice (some (36, 0)) 1 (some 1)] 0 .yes),
  (38, .cells [.ptr (some (37, 0))] 0 .yes),
  (39, .cells [.int .i64 9, .int .i64 200, .int .i64 8, .int .i64 8, .int .i64 16, .int .i64 16, .int .i64 2, .int .i64 1, .ptr (some (4, 0)), .ptr (some (19, 0)), .ptr (some (38, 0)), .int .u32 0] 0 .yes),
  (251, .cells (by8 [1, 0, 0, 9, 0, 0, 0, 0, 2, 0, 0, 97, 97, 0, 2, 0, 0, 97, 98, 0, 2, 0, 0, 97, 99, 0, 2, 0, 0, 97, 100, 0, 2, 0, 0, 97, 101, 0, 2, 0, 0, 97, 102, 0, 2, 0, 0, 97, 103, 0, 2, 0, 0, 97, 104, 0, 2, 0, 0, 97, 105] ++ (nul 139)) 1 (.of 5))],
 v := .tup [.int .u32 2, .int .i64 0], nout := 303, ldel := [],
 lset := [(15, .cells [.int .i64 0, .int .i64 0, .bool false, .int .i64 0, .int .i64 0, .bool false, .int .i64 0, .int .i64 0, .bool false, .int .i64 0, .int .i64 0, .bool false, .int .i64 0, .int .i64 0, .bool false, .int .i64 0, .int .i64 0, .bool false, .int .i64 8, .int .i64 7, .bool true, .int .i64 6, .int .i64 8, .bool true, .int .i64 7, .int .i64 6, .bool false] 0 .yes),
  (16, .cells [.slice (some (15, 0)) 9 (some 9), .int .i64 2] 0 .yes),
  (17, .cells [.int .u32 0, .slice none 0 (some 0), .bool false, .int .i64 0, .int .u32 0, .slice none 0 (some 0), .bool false, .int .i64 0, .int .u32 0, .slice none 0 (some 0), .bool false, .int .i64 0, .int .u32 0, .slice none 0 (some 0), .bool false, .int .i64 0, .int .u32 0, .slice none 0 (some 0), .bool false, .int .i64 0, .int .u32 0, .slice none 0 (some 0), .bool false, .int .i64 0, .int .u32 2, .slice (some (301, 0)) 200 none, .bool true, .int .i64 0, .int .u32 1, .slice (some (251, 0)) 200 none, .bool true, .int .i64 0] 0 .yes),
  (18, .map [(.int .u32 1, .int .i64 7, 0), (.int .u32 2, .int .i64 6, 1)] 2),
  (19, .cells [.ptr (some (4, 0)), .slice (some (17, 0)) 8 (some 8), .map (some 18), .slice (some (35, 0)) 6 none, .ptr (some (16, 0))] 0 .yes),
  (36, .cells [.int .u64 7] 0 .yes),
  (37, .cells [.int .i64 9, .int .i64 3, .slice (some (36, 0)) 1 (some 1)] 0 .yes),
  (301, .cells (by8 [1] ++ (nul 199)) 1 (.of 5))] }

noncomputable def hk5F (args : List AV) (M : AMem) : Option (AV × AMem) := match hk4 17 with
  | some h => h args M
  | none => acall Tryz.prog hk4 400 17 args M

noncomputable def hk5 : Hook := fun f => match f with
  | 17 => some (cutAt [cut5] hk5F)
  | _ => hk4 f

def cut6 : Cut := {
 args := [.int .u32 1, .int .u32 2], nin := 303,
 lin := [(1, .ro (by8 [0, 1, 56, 2, 57, 49, 28, 3, 61, 58, 42, 50, 38, 29, 17, 4, 62, 47, 59, 36, 45, 43, 51, 22, 53, 39, 33, 30, 24, 18, 12, 5, 63, 55, 48, 27, 60, 41, 37, 16, 46, 35, 44, 21, 52, 32, 23, 11, 54, 26, 40, 15, 34, 20, 31, 10, 25, 14, 19, 9, 13, 8, 7, 6]))],
 v := .agg [.int .i64 1, .slice (some (304, 0)) 2 (some 2), .slice (some (305, 0)) 1 (some 1), .slice (some (354, 0)) 16 none, .slice none 0 (some 0)], nout := 355, ldel := [],
 lset := [(304, .cells [.int .u32 1, .int .u32 2] 0 .yes),
  (305, .cells [.str [105]] 0 .yes),
  (354, .cells [.str [97], .bool false, .str [], .str [98], .bool false, .str [], .str [99], .bool false, .str [], .str [100], .bool false, .str [], .str [101], .bool false, .str [], .str [102], .bool false, .str [], .str [103], .bool false, .str [], .str [104], .bool false, .str [], .str [105], .bool false, .str [], .str [106], .bool false, .str [], .str [107], .bool false, .str [], .str [108], .bool false, .str [], .str [109], .bool false, .str [], .str [110], .bool false, .str [], .str [111], .bool false, .str [], .str [112], .bool false, .str []] 3 .yes)] }

noncomputable def hk6F (args : List AV) (M : AMem) : Option (AV × AMem) := match hk5 24 with
  | some h => h args M
  | none => acall Tryz.prog hk5 400 24 args M

noncomputable def hk6 : Hook := fun f => match f with
  | 24 => some (cutAt [cut6] hk6F)
  | _ => hk5 f

def cut7 : Cut := {
 args := [.agg [.int .i64 9, .int .i64 200, .int .i64 8, .int .i64 8, .int .i64 16, .int .i64 16, .int .i64 2, .int .i64 1], .agg [.int .i64 1, .slice (some (304, 0)) 2 (some 2), .slice (some (305, 0)) 1 (some 1), .slice (some (354, 0)) 16 none, .slice none 0 (some 0)]], nin := 356,
 lin := [(1, .ro (by8 [0, 1, 56, 2, 57, 49, 28, 3, 61, 58, 42, 50, 38, 29, 17, 4, 62, 47, 59, 36, 45, 43, 51, 22, 53, 39, 33, 30, 24, 18, 12, 5, 63, 55, 48, 27, 60, 41, 37, 16, 46, 35, 44, 21, 52, 32, 23, 11, 54, 26, 40, 15, 34, 20, 31, 10, 25, 14, 19, 9, 13, 8, 7, 6])),
  (304, .cells [.int .u32 1, .int .u32 2] 0 .yes),
  (305, .cells [.str [105]] 0 .yes),
  (354, .cells [.str [97], .bool false, .str [], .str [98], .bool false, .str [], .str [99], .bool false, .str [], .str [100], .bool false, .str [], .str [101], .bool false, .str [], .str [102], .bool false, .str [], .str [103], .bool false, .str [], .str [104], .bool false, .str [], .str [105], .bool false, .str [], .str [106], .bool false, .str [], .str [107], .bool false, .str [], .str [108], .bool false, .str [], .str [109], .bool false, .str [], .str [110], .bool false, .str [], .str [111], .bool false, .str [], .str [112], .bool false, .str []] 3 .yes)],
 v := .tup [.slice (some (808, 0)) 200 none, .int .i64 0], nout := 809, ldel := [],
 lset := [(808, .cells (by8 [2, 1, 0, 2, 0, 16, 0, 0, 0, 0, 0, 1, 0, 0, 0, 2] ++ (nul 24 ++ (by8 [1, 105, 0, 0, 0, 0, 0, 0, 0, 0, 0, 0, 0, 0, 0, 0, 0, 0, 0, 0, 0, 1, 1, 0, 0, 97, 0, 0, 1, 1, 0, 0, 98, 0, 0, 1, 1, 0, 0, 99, 0, 0, 1, 1, 0, 0, 100, 0, 0, 1, 1, 0, 0, 101, 0, 0, 1, 1, 0, 0, 102, 0, 0, 1, 1, 0, 0, 103, 0, 0, 1, 1, 0, 0, 104, 0, 0, 1, 1, 0, 0, 105, 0, 0, 1, 1, 0, 0, 106, 0, 0, 1, 1, 0, 0, 107, 0, 0, 1, 1, 0, 0, 108, 0, 0, 1, 1, 0, 0, 109, 0, 0, 1, 1, 0, 0, 110, 0, 0, 1, 1, 0, 0, 111, 0, 0, 1, 1, 0, 0, 112] ++ (nul 29)))) 1 (.of 5))] }

noncomputable def hk7F (args : List AV) (M : AMem) : Option (AV × AMem) := match hk6 42 with
  | some h => h args M
  | none => acall Tryz.prog hk6 400 42 args M

noncomputable def hk7 : Hook := fun f => match f with
  | 42 => some (cutAt [cut7] hk7F)
  | _ => hk6 f

def cut8 : Cut := {
 args := [.ptr (some (39, 0)), .agg [.int .i64 1, .slice (some (304, 0)) 2 (some 2), .slice (some (305, 0)) 1 (some 1), .slice (some (354, 0)) 16 none, .slice none 0 (some 0)]], nin := 355,
 lin := [(1, .ro (by8 [0, 1, 56, 2, 57, 49, 28, 3, 61, 58, 42, 50, 38, 29, 17, 4, 62, 47, 59, 36, 45, 43, 51, 22, 53, 39, 33, 30, 24, 18, 12, 5, 63, 55, 48, 27, 60, 41, 37, 16, 46, 35, 44, 21, 52, 32, 23, 11, 54, 26, 40, 15, 34, 20, 31, 10, 25, 14, 19, 9, 13, 8, 7, 6])),
  (3, .cells (nul 1800) 0 .yes),
  (4, .cells [.int .i64 200, .slice (some (3, 0)) 1800 (some 1800), .int .u64 0, .int .u64 0] 0 .yes),
  (15, .cells [.int .i64 0, .int .i64 0, .bool false, .int .i64 0, .int .i64 0, .bool false, .int .i64 0, .int .i64 0, .bool false, .int .i64 0, .int .i64 0, .bool false, .int .i64 0, .int .i64 0, .bool false, .int .i64 0, .int .i64 0, .bool false, .int .i64 8, .int .i64 7, .bool true, .int .i64 6, .int .i64 8, .bool true, .int .i64 7, .int .i64 6, .bool false] 0 .yes),
  (16, .cells [.slice (some (15, 0)) 9 (some 9), .int .i64 2] 0 .yes),
  (17, .cells [.int .u32 0, .slice none 0 (some 0), .bool false, .int .i64 0, .int .u32 0, .slice none 0 (some 0), .bool false, .int .i64 0, .int .u32 0, .slice none 0 (some 0), .bool false, .int .i64 0, .int .u32 0, .slice none 0 (some 0), .bool false, .int .i64 0, .int .u32 0, .slice none 0 (some 0), .bool false, .int .i64 0, .int .u32 0, .slice none 0 (some 0), .bool false, .int .i64 0, .int .u32 2, .slice (some (301, 0)) 200 none, .bool true, .int .i64 0, .int .u32 1, .slice (some (251, 0)) 200 none, .bool true, .int .i64 0] 0 .yes),
  (18, .map [(.int .u32 1, .int .i64 7, 0), (.int .u32 2, .int .i64 6, 1)] 2),
  (19, .cells [.ptr (some (4, 0)), .slice (some (17, 0)) 8 (some 8), .map (some 18), .slice (some (35, 0)) 6 none, .ptr (some (16, 0))] 0 .yes),
  (35, .cells [.int .i64 0, .int .i64 1, .int .i64 2, .int .i64 3, .int .i64 4, .int .i64 5, .int .i64 6, .int .i64 7] 1 .yes),
  (36, .cells [.int .u64 7] 0 .yes),
  (37, .cells [.int .i64 9, .int .i64 3, .slice (some (36, 0)) 1 (some 1)] 0 .yes),
  (38, .cells [.ptr (some (37, 0))] 0 .yes),
  (39, .cells [.int .i64 9, .int .i64 200, .int .i64 8, .int .i64 8, .int .i64 16, .int .i64 16, .int .i64 2, .int .i64 1, .ptr (some (4, 0)), .ptr (some (19, 0)), .ptr (some (38, 0)), .int .u32 0] 0 .yes),
  (251, .cells (by8 [1, 0, 0, 9, 0, 0, 0, 0, 2, 0, 0, 97, 97, 0, 2, 0, 0, 97, 98, 0, 2, 0, 0, 97, 99, 0, 2, 0, 0, 97, 100, 0, 2, 0, 0, 97, 101, 0, 2, 0, 0, 97, 102, 0, 2, 0, 0, 97, 103, 0, 2, 0, 0, 97, 104, 0, 2, 0, 0, 97, 105] ++ (nul 139)) 1 (.of 5)),
  (301, .cells (by8 [1] ++ (nul 199)) 1 (.of 5)),
  (304, .cells [.int .u32 1, .int .u32 2] 0 .yes),
  (305, .cells [.str [105]] 0 .yes),
  (354, .cells [.str [97], .bool false, .str [], .str [98], .bool false, .str [], .str [99], .bool false, .str [], .str [100], .bool false, .str [], .str [101], .bool false, .str [], .str [102], .bool false, .str [], .str [103], .bool false, .str [], .str [104], .bool false, .str [], .str [105], .bool false, .str [], .str [106], .bool false, .str [], .str [107], .bool false, .str [], .str [108], .bool false, .str [], .str [109], .bool false, .str [], .str [110], .bool false, .str [], .str [111], .bool false, .str [], .str [112], .bool false, .str []] 3 .yes)],
 v := .tup [.int .u32 3, .int .i64 0], nout := 816, ldel := [],
 lset := [(15, .cells [.int .i64 0, .int .i64 0, .bool false, .int .i64 0, .int .i64 0, .bool false, .int .i64 0, .int .i64 0, .bool false, .int .i64 0, .int .i64 0, .bool false, .int .i64 0, .int .i64 0, .bool false, .int .i64 8, .int .i64 6, .bool true, .int .i64 5, .int .i64 7, .bool true, .int .i64 6, .int .i64 8, .bool true, .int .i64 7, .int .i64 5, .bool false] 0 .yes),
  (16, .cells [.slice (some (15, 0)) 9 (some 9), .int .i64 3] 0 .yes),
  (17, .cells [.int .u32 0, .slice none 0 (some 0), .bool false, .int .i64 0, .int .u32 0, .slice none 0 (some 0), .bool false, .int .i64 0, .int .u32 0, .slice none 0 (some 0), .bool false, .int .i64 0, .int .u32 0, .slice none 0 (some 0), .bool false, .int .i64 0, .int .u32 0, .slice none 0 (some 0), .bool false, .int .i64 0, .int .u32 3, .slice (some (814, 0)) 200 none, .bool true, .int .i64 0, .int .u32 2, .slice (some (301, 0)) 200 none, .bool true, .int .i64 0, .int .u32 1, .slice (some (251, 0)) 200 none, .bool true, .int .i64 0] 0 .yes),
  (18, .map [(.int .u32 1, .int .i64 7, 0), (.int .u32 2, .int .i64 6, 1), (.int .u32 3, .int .i64 5, 2)] 3),
  (19, .cells [.ptr (some (4, 0)), .slice (some (17, 0)) 8 (some 8), .map (some 18), .slice (some (35, 0)) 5 none, .ptr (some (16, 0))] 0 .yes),
  (36, .cells [.int .u64 15] 0 .yes),
  (37, .cells [.int .i64 9, .int .i64 4, .slice (some (36, 0)) 1 (some 1)] 0 .yes),
  (814, .cells (by8 [2, 1, 0, 2, 0, 16, 0, 0, 0, 0, 0, 1, 0, 0, 0, 2] ++ (nul 24 ++ (by8 [1, 105, 0, 0, 0, 0, 0, 0, 0, 0, 0, 0, 0, 0, 0, 0, 0, 0, 0, 0, 0, 1, 1, 0, 0, 97, 0, 0, 1, 1, 0, 0, 98, 0, 0, 1, 1, 0, 0, 99, 0, 0, 1, 1, 0, 0, 100, 0, 0, 1, 1, 0, 0, 101, 0, 0, 1, 1, 0, 0, 102, 0, 0, 1, 1, 0, 0, 103, 0, 0, 1, 1, 0, 0, 104, 0, 0, 1, 1, 0, 0, 105, 0, 0, 1, 1, 0, 0, 106, 0, 0, 1, 1, 0, 0, 107, 0, 0, 1, 1, 0, 0, 108, 0, 0, 1, 1, 0, 0, 109, 0, 0, 1, 1, 0, 0, 110, 0, 0, 1, 1, 0, 0, 111, 0, 0, 1, 1, 0, 0, 112] ++ (nul 29)))) 1 (.of 5))] }

noncomputable def hk8F (args : List AV) (M : AMem) : Option (AV × AMem) := match hk7 17 with
  | some h => h args M
  | none => acall Tryz.prog hk7 400 17 args M

noncomputable def hk8 : Hook := fun f => match f with
  | 17 => some (cutAt [cut8] hk8F)
  | _ => hk7 f

def cut9 : Cut := {
 args := [.agg [.int .i64 9, .int .i64 200, .int .i64 8, .int .i64 8, .int .i64 16, .int .i64 16, .int .i64 2, .int .i64 1], .agg [.int .i64 1, .slice (some (849, 0)) 2 none, .slice (some (859, 0)) 1 none, .slice (some (999, 0)) 16 none, .slice none 0 (some 0)]], nin := 1000,
 lin := [(1, .ro (by8 [0, 1, 56, 2, 57, 49, 28, 3, 61, 58, 42, 50, 38, 29, 17, 4, 62, 47, 59, 36, 45, 43, 51, 22, 53, 39, 33, 30, 24, 18, 12, 5, 63, 55, 48, 27, 60, 41, 37, 16, 46, 35, 44, 21, 52, 32, 23, 11, 54, 26, 40, 15, 34, 20, 31, 10, 25, 14, 19, 9, 13, 8, 7, 6])),
  (849, .cells [.int .u32 1, .int .u32 2] 1 .yes),
  (859, .cells [.str [105]] 1 .yes),
  (999, .cells [.str [97], .bool false, .str [], .str [98], .bool false, .str [], .str [99], .bool false, .str [], .str [100], .bool false, .str [], .str [101], .bool false, .str [], .str [102], .bool false, .str [], .str [103], .bool false, .str [], .str [104], .bool false, .str [], .str [105], .bool false, .str [], .str [106], .bool false, .str [], .str [107], .bool false, .str [], .str [108], .bool false, .str [], .str [109], .bool false, .str [], .str [110], .bool false, .str [], .str [111], .bool false, .str [], .str [112], .bool false, .str []] 3 .yes)],
 v := .tup [.slice (some (1452, 0)) 200 none, .int .i64 0], nout := 1453, ldel := [],
 lset := [(1452, .cells (by8 [2, 1, 0, 2, 0, 16, 0, 0, 0, 0, 0, 1, 0, 0, 0, 2] ++ (nul 24 ++ (by8 [1, 105, 0, 0, 0, 0, 0, 0, 0, 0, 0, 0, 0, 0, 0, 0, 0, 0, 0, 0, 0, 1, 1, 0, 0, 97, 0, 0, 1, 1, 0, 0, 98, 0, 0, 1, 1, 0, 0, 99, 0, 0, 1, 1, 0, 0, 100, 0, 0, 1, 1, 0, 0, 101, 0, 0, 1, 1, 0, 0, 102, 0, 0, 1, 1, 0, 0, 103, 0, 0, 1, 1, 0, 0, 104, 0, 0, 1, 1, 0, 0, 105, 0, 0, 1, 1, 0, 0, 106, 0, 0, 1, 1, 0, 0, 107, 0, 0, 1, 1, 0, 0, 108, 0, 0, 1, 1, 0, 0, 109, 0, 0, 1, 1, 0, 0, 110, 0, 0, 1, 1, 0, 0, 111, 0, 0, 1, 1, 0, 0, 112] ++ (nul 29)))) 1 (.of 5))] }

noncomputable def hk9F (args : List AV) (M : AMem) : Option (AV × AMem) := match hk8 42 with
  | some h => h args M
  | none => acall Tryz.prog hk8 400 42 args M

noncomputable def hk9 : Hook := fun f => match f with
  | 42 => some (cutAt [cut9] hk9F)
  | _ => hk8 f

def cut10 : Cut := {
 args := [.agg [.int .i64 9, .int .i64 200, .int .i64 8, .int .i64 8, .int .i64 16, .int .i64 16, .int .i64 2, .int .i64 1], .slice (some (819, 0)) 200 none], nin := 821,
 lin := [(1, .ro (by8 [0, 1, 56, 2, 57, 49, 28, 3, 61, 58, 42, 50, 38, 29, 17, 4, 62, 47, 59, 36, 45, 43, 51, 22, 53, 39, 33, 30, 24, 18, 12, 5, 63, 55, 48, 27, 60, 41, 37, 16, 46, 35, 44, 21, 52, 32, 23, 11, 54, 26, 40, 15, 34, 20, 31, 10, 25, 14, 19, 9, 13, 8, 7, 6])),
  (819, .cells (by8 [2, 1, 0, 2, 0, 16, 0, 0, 0, 0, 0, 1, 0, 0, 0, 2] ++ (nul 24 ++ (by8 [1, 105, 0, 0, 0, 0, 0, 0, 0, 0, 0, 0, 0, 0, 0, 0, 0, 0, 0, 0, 0, 1, 1, 0, 0, 97, 0, 0, 1, 1, 0, 0, 98, 0, 0, 1, 1, 0, 0, 99, 0, 0, 1, 1, 0, 0, 100, 0, 0, 1, 1, 0, 0, 101, 0, 0, 1, 1, 0, 0, 102, 0, 0, 1, 1, 0, 0, 103, 0, 0, 1, 1, 0, 0, 104, 0, 0, 1, 1, 0, 0, 105, 0, 0, 1, 1, 0, 0, 106, 0, 0, 1, 1, 0, 0, 107, 0, 0, 1, 1, 0, 0, 108, 0, 0, 1, 1, 0, 0, 109, 0, 0, 1, 1, 0, 0, 110, 0, 0, 1, 1, 0, 0, 111, 0, 0, 1, 1, 0, 0, 112] ++ (nul 29)))) 1 (.of 5))],
 v := .tup [.agg [.int .i64 1, .slice (some (849, 0)) 2 none, .slice (some (859, 0)) 1 none, .slice (some (999, 0)) 16 none, .slice none 0 (some 0)], .int .i64 0], nout := 1453, ldel := [],
 lset := [(849, .cells [.int .u32 1, .int .u32 2] 1 .yes),
  (859, .cells [.str [105]] 1 .yes),
  (999, .cells [.str [97], .bool false, .str [], .str [98], .bool false, .str [], .str [99], .bool false, .str [], .str [100], .bool false, .str [], .str [101], .bool false, .str [], .str [102], .bool false, .str [], .str [103], .bool false, .str [], .str [104], .bool false, .str [], .str [105], .bool false, .str [], .str [106], .bool false, .str [], .str [107], .bool false, .str [], .str [108], .bool false, .str [], .str [109], .bool false, .str [], .str [110], .bool false, .str [], .str [111], .bool false, .str [], .str [112], .bool false, .str []] 3 .yes)] }

noncomputable def hk10F (args : List AV) (M : AMem) : Option (AV × AMem) := match hk9 32 with
  | some h => h args M
  | none => acall Tryz.prog hk9 400 32 args M

noncomputable def hk10 : Hook := fun f => match f with
  | 32 => some (cutAt [cut10] hk10F)
  | _ => hk9 f

def cut11 : Cut := {
 args := [.ptr (some (39, 0)), .int .u32 3], nin := 816,
 lin := [(1, .ro (by8 [0, 1, 56, 2, 57, 49, 28, 3, 61, 58, 42, 50, 38, 29, 17, 4, 62, 47, 59, 36, 45, 43, 51, 22, 53, 39, 33, 30, 24, 18, 12, 5, 63, 55, 48, 27, 60, 41, 37, 16, 46, 35, 44, 21, 52, 32, 23, 11, 54, 26, 40, 15, 34, 20, 31, 10, 25, 14, 19, 9, 13, 8, 7, 6])),
  (3, .cells (nul 1800) 0 .yes),
  (4, .cells [.int .i64 200, .slice (some (3, 0)) 1800 (some 1800), .int .u64 0, .int .u64 0] 0 .yes),
  (15, .cells [.int .i64 0, .int .i64 0, .bool false, .int .i64 0, .int .i64 0, .bool false, .int .i64 0, .int .i64 0, .bool false, .int .i64 0, .int .i64 0, .bool false, .int .i64 0, .int .i64 0, .bool false, .int .i64 8, .int .i64 6, .bool true, .int .i64 5, .int .i64 7, .bool true, .int .i64 6, .int .i64 8, .bool true, .int .i64 7, .int .i64 5, .bool false] 0 .yes),
  (16, .cells [.slice (some (15, 0)) 9 (some 9), .int .i64 3] 0 .yes),
  (17, .cells [.int .u32 0, .slice none 0 (some 0), .bool false, .int .i64 0, .int .u32 0, .slice none 0 (some 0), .bool false, .int .i64 0, .int .u32 0, .slice none 0 (some 0), .bool false, .int .i64 0, .int .u32 0, .slice none 0 (some 0), .bool false, .int .i64 0, .int .u32 0, .slice none 0 (some 0), .bool false, .int .i64 0, .int .u32 3, .slice (some (814, 0)) 200 none, .bool true, .int .i64 0, .int .u32 2, .slice (some (301, 0)) 200 none, .bool true, .int .i64 0, .int .u32 1, .slice (some (251, 0)) 200 none, .bool true, .int .i64 0] 0 .yes),
  (18, .map [(.int .u32 1, .int .i64 7, 0), (.int .u32 2, .int .i64 6, 1), (.int .u32 3, .int .i64 5, 2)] 3),
  (19, .cells [.ptr (some (4, 0)), .slice (some (17, 0)) 8 (some 8), .map (some 18), .slice (some (35, 0)) 5 none, .ptr (some (16, 0))] 0 .yes),
  (35, .cells [.int .i64 0, .int .i64 1, .int .i64 2, .int .i64 3, .int .i64 4, .int .i64 5, .int .i64 6, .int .i64 7] 1 .yes),
  (36, .cells [.int .u64 15] 0 .yes),
  (37, .cells [.int .i64 9, .int .i64 4, .slice (some (36, 0)) 1 (some 1)] 0 .yes),
  (38, .cells [.ptr (some (37, 0))] 0 .yes),
  (39, .cells [.int .i64 9, .int .i64 200, .int .i64 8, .int .i64 8, .int .i64 16, .int .i64 16, .int .i64 2, .int .i64 1, .ptr (some (4, 0)), .ptr (some (19, 0)), .ptr (some (38, 0)), .int .u32 0] 0 .yes),
  (251, .cells (by8 [1, 0, 0, 9, 0, 0, 0, 0, 2, 0, 0, 97, 97, 0, 2, 0, 0, 97, 98, 0, 2, 0, 0, 97, 99, 0, 2, 0, 0, 97, 100, 0, 2, 0, 0, 97, 101, 0, 2, 0, 0, 97, 102, 0, 2, 0, 0, 97, 103, 0, 2, 0, 0, 97, 104, 0, 2, 0, 0, 97, 105] ++ (nul 139)) 1 (.of 5)),
  (301, .cells (by8 [1] ++ (nul 199)) 1 (.of 5)),
  (814, .cells (by8 [2, 1, 0, 2, 0, 16, 0, 0, 0, 0, 0, 1, 0, 0, 0, 2] ++ (nul 24 ++ (by8 [1, 105, 0, 0, 0, 0, 0, 0, 0, 0, 0, 0, 0, 0, 0, 0, 0, 0, 0, 0, 0, 1, 1, 0, 0, 97, 0, 0, 1, 1, 0, 0, 98, 0, 0, 1, 1, 0, 0, 99, 0, 0, 1, 1, 0, 0, 100, 0, 0, 1, 1, 0, 0, 101, 0, 0, 1, 1, 0, 0, 102, 0, 0, 1, 1, 0, 0, 103, 0, 0, 1, 1, 0, 0, 104, 0, 0, 1, 1, 0, 0, 105, 0, 0, 1, 1, 0, 0, 106, 0, 0, 1, 1, 0, 0, 107, 0, 0, 1, 1, 0, 0, 108, 0, 0, 1, 1, 0, 0, 109, 0, 0, 1, 1, 0, 0, 110, 0, 0, 1, 1, 0, 0, 111, 0, 0, 1, 1, 0, 0, 112] ++ (nul 29)))) 1 (.of 5))],
 v := .tup [.agg [.int .i64 1, .slice (some (849, 0)) 2 none, .slice (some (859, 0)) 1 none, .slice (some (999, 0)) 16 none, .slice none 0 (some 0)], .int .i64 0], nout := 1453, ldel := [],
 lset := [(849, .cells [.int .u32 1, .int .u32 2] 1 .yes),
  (859, .cells [.str [105]] 1 .yes),
  (999, .cells [.str [97], .bool false, .str [], .str [98], .bool false, .str [], .str [99], .bool false, .str [], .str [100], .bool false, .str [], .str [101], .bool false, .str [], .str [102], .bool false, .str [], .str [103], .bool false, .str [], .str [104], .bool false, .str [], .str [105], .bool false, .str [], .str [106], .bool false, .str [], .str [107], .bool false, .str [], .str [108], .bool false, .str [], .str [109], .bool false, .str [], .str [110], .bool false, .str [], .str [111], .bool false, .str [], .str [112], .bool false, .str []] 3 .yes)] }

noncomputable def hk11F (args : List AV) (M : AMem) : Option (AV × AMem) := match hk10 12 with
  | some h => h args M
  | none => acall Tryz.prog hk10 400 12 args M

noncomputable def hk11 : Hook := fun f => match f with
  | 12 => some (cutAt [cut11] hk11F)
  | _ => hk10 f

def cut12 : Cut := {
 args := [.agg [.int .i64 9, .int .i64 200, .int .i64 8, .int .i64 8, .int .i64 16, .int .i64 16, .int .i64 2, .int .i64 1], .agg [.int .i64 1, .slice (some (1488, 0)) 2 none, .slice (some (1498, 0)) 1 none, .slice (some (1638, 0)) 16 none, .slice none 0 (some 0)]], nin := 1639,
 lin := [(1, .ro (by8 [0, 1, 56, 2, 57, 49, 28, 3, 61, 58, 42, 50, 38, 29, 17, 4, 62, 47, 59, 36, 45, 43, 51, 22, 53, 39, 33, 30, 24, 18, 12, 5, 63, 55, 48, 27, 60, 41, 37, 16, 46, 35, 44, 21, 52, 32, 23, 11, 54, 26, 40, 15, 34, 20, 31, 10, 25, 14, 19, 9, 13, 8, 7, 6])),
  (1488, .cells [.int .u32 1, .int .u32 2] 1 .yes),
  (1498, .cells [.str [105]] 1 .yes),
  (1638, .cells [.str [97], .bool false, .str [], .str [98], .bool false, .str [], .str [99], .bool false, .str [], .str [100], .bool false, .str [], .str [101], .bool false, .str [], .str [102], .bool false, .str [], .str [103], .bool false, .str [], .str [104], .bool false, .str [], .str [105], .bool false, .str [], .str [106], .bool false, .str [], .str [107], .bool false, .str [], .str [108], .bool false, .str [], .str [109], .bool false, .str [], .str [110], .bool false, .str [], .str [111], .bool false, .str [], .str [112], .bool false, .str []] 3 .yes)],
 v := .tup [.slice (some (2091, 0)) 200 none, .int .i64 0], nout := 2092, ldel := [],
 lset := [(2091, .cells (by8 [2, 1, 0, 2, 0, 16, 0, 0, 0, 0, 0, 1, 0, 0, 0, 2] ++ (nul 24 ++ (by8 [1, 105, 0, 0, 0, 0, 0, 0, 0, 0, 0, 0, 0, 0, 0, 0, 0, 0, 0, 0, 0, 1, 1, 0, 0, 97, 0, 0, 1, 1, 0, 0, 98, 0, 0, 1, 1, 0, 0, 99, 0, 0, 1, 1, 0, 0, 100, 0, 0, 1, 1, 0, 0, 101, 0, 0, 1, 1, 0, 0, 102, 0, 0, 1, 1, 0, 0, 103, 0, 0, 1, 1, 0, 0, 104, 0, 0, 1, 1, 0, 0, 105, 0, 0, 1, 1, 0, 0, 106, 0, 0, 1, 1, 0, 0, 107, 0, 0, 1, 1, 0, 0, 108, 0, 0, 1, 1, 0, 0, 109, 0, 0, 1, 1, 0, 0, 110, 0, 0, 1, 1, 0, 0, 111, 0, 0, 1, 1, 0, 0, 112] ++ (nul 29)))) 1 (.of 5))] }

noncomputable def hk12F (args : List AV) (M : AMem) : Option (AV × AMem) := match hk11 42 with
  | some h => h args M
  | none => acall Tryz.prog hk11 400 42 args M

noncomputable def hk12 : Hook := fun f => match f with
  | 42 => some (cutAt [cut12] hk12F)
  | _ => hk11 f

def cut13 : Cut := {
 args := [.agg [.int .i64 9, .int .i64 200, .int .i64 8, .int .i64 8, .int .i64 16, .int .i64 16, .int .i64 2, .int .i64 1], .slice (some (1458, 0)) 200 none], nin := 1460,
 lin := [(1, .ro (by8 [0, 1, 56, 2, 57, 49, 28, 3, 61, 58, 42, 50, 38, 29, 17, 4, 62, 47, 59, 36, 45, 43, 51, 22, 53, 39, 33, 30, 24, 18, 12, 5, 63, 55, 48, 27, 60, 41, 37, 16, 46, 35, 44, 21, 52, 32, 23, 11, 54, 26, 40, 15, 34, 20, 31, 10, 25, 14, 19, 9, 13, 8, 7, 6])),
  (1458, .cells (by8 [2, 1, 0, 2, 0, 16, 0, 0, 0, 0, 0, 1, 0, 0, 0, 2] ++ (nul 24 ++ (by8 [1, 105, 0, 0, 0, 0, 0, 0, 0, 0, 0, 0, 0, 0, 0, 0, 0, 0, 0, 0, 0, 1, 1, 0, 0, 97, 0, 0, 1, 1, 0, 0, 98, 0, 0, 1, 1, 0, 0, 99, 0, 0, 1, 1, 0, 0, 100, 0, 0, 1, 1, 0, 0, 101, 0, 0, 1, 1, 0, 0, 102, 0, 0, 1, 1, 0, 0, 103, 0, 0, 1, 1, 0, 0, 104, 0, 0, 1, 1, 0, 0, 105, 0, 0, 1, 1, 0, 0, 106, 0, 0, 1, 1, 0, 0, 107, 0, 0, 1, 1, 0, 0, 108, 0, 0, 1, 1, 0, 0, 109, 0, 0, 1, 1, 0, 0, 110, 0, 0, 1, 1, 0, 0, 111, 0, 0, 1, 1, 0, 0, 112] ++ (nul 29)))) 1 (.of 5))],
 v := .tup [.agg [.int .i64 1, .slice (some (1488, 0)) 2 none, .slice (some (1498, 0)) 1 none, .slice (some (1638, 0)) 16 none, .slice none 0 (some 0)], .int .i64 0], nout := 2092, ldel := [],
 lset := [(1488, .cells [.int .u32 1, .int .u32 2] 1 .yes),
  (1498, .cells [.str [105]] 1 .yes),
  (1638, .cells [.str [97], .bool false, .str [], .str [98], .bool false, .str [], .str [99], .bool false, .str [], .str [100], .bool false, .str [], .str [101], .bool false, .str [], .str [102], .bool false, .str [], .str [103], .bool false, .str [], .str [104], .bool false, .str [], .str [105], .bool false, .str [], .str [106], .bool false, .str [], .str [107], .bool false, .str [], .str [108], .bool false, .str [], .str [109], .bool false, .str [], .str [110], .bool false, .str [], .str [111], .bool false, .str [], .str [112], .bool false, .str []] 3 .yes)] }

noncomputable def hk13F (args : List AV) (M : AMem) : Option (AV × AMem) := match hk12 32 with
  | some h => h args M
  | none => acall Tryz.prog hk12 400 32 args M

noncomputable def hk13 : Hook := fun f => match f with
  | 32 => some (cutAt [cut13] hk13F)
  | _ => hk12 f

def cut14 : Cut := {
 args := [.ptr (some (39, 0)), .int .u32 3], nin := 1455,
 lin := [(1, .ro (by8 [0, 1, 56, 2, 57, 49, 28, 3, 61, 58, 42, 50, 38, 29, 17, 4, 62, 47, 59, 36, 45, 43, 51, 22, 53, 39, 33, 30, 24, 18, 12, 5, 63, 55, 48, 27, 60, 41, 37, 16, 46, 35, 44, 21, 52, 32, 23, 11, 54, 26, 40, 15, 34, 20, 31, 10, 25, 14, 19, 9, 13, 8, 7, 6])),
  (3, .cells (nul 1800) 0 .yes),
  (4, .cells [.int .i64 200, .slice (some (3, 0)) 1800 (some 1800), .int .u64 0, .int .u64 0] 0 .yes),
  (15, .cells [.int .i64 0, .int .i64 0, .bool false, .int .i64 0, .int .i64 0, .bool false, .int .i64 0, .int .i64 0, .bool false, .int .i64 0, .int .i64 0, .bool false, .int .i64 0, .int .i64 0, .bool false, .int .i64 8, .int .i64 6, .bool true, .int .i64 5, .int .i64 7, .bool true, .int .i64 6, .int .i64 8, .bool true, .int .i64 7, .int .i64 5, .bool false] 0 .yes),
  (16, .cells [.slice (some (15, 0)) 9 (some 9), .int .i64 3] 0 .yes),
  (17, .cells [.int .u32 0, .slice none 0 (some 0), .bool false, .int .i64 0, .int .u32 0, .slice none 0 (some 0), .bool false, .int .i64 0, .int .u32 0, .slice none 0 (some 0), .bool false, .int .i64 0, .int .u32 0, .slice none 0 (some 0), .bool false, .int .i64 0, .int .u32 0, .slice none 0 (some 0), .bool false, .int .i64 0, .int .u32 3, .slice (some (814, 0)) 200 none, .bool true, .int .i64 0, .int .u32 2, .slice (some (301, 0)) 200 none, .bool true, .int .i64 0, .int .u32 1, .slice (some (251, 0)) 200 none, .bool true, .int .i64 0] 0 .yes),
  (18, .map [(.int .u32 1, .int .i64 7, 0), (.int .u32 2, .int .i64 6, 1), (.int .u32 3, .int .i64 5, 2)] 3),
  (19, .cells [.ptr (some (4, 0)), .slice (some (17, 0)) 8 (some 8), .map (some 18), .slice (some (35, 0)) 5 none, .ptr (some (16, 0))] 0 .yes),
  (35, .cells [.int .i64 0, .int .i64 1, .int .i64 2, .int .i64 3, .int .i64 4, .int .i64 5, .int .i64 6, .int .i64 7] 1 .yes),
  (36, .cells [.int .u64 15] 0 .yes),
  (37, .cells [.int .i64 9, .int .i64 4, .slice (some (36, 0)) 1 (some 1)] 0 .yes),
  (38, .cells [.ptr (some (37, 0))] 0 .yes),
  (39, .cells [.int .i64 9, .int .i64 200, .int .i64 8, .int .i64 8, .int .i64 16, .int .i64 16, .int .i64 2, .int .i64 1, .ptr (some (4, 0)), .ptr (some (19, 0)), .ptr (some (38, 0)), .int .u32 0] 0 .yes),
  (251, .cells (by8 [1, 0, 0, 9, 0, 0, 0, 0, 2, 0, 0, 97, 97, 0, 2, 0, 0, 97, 98, 0, 2, 0, 0, 97, 99, 0, 2, 0, 0, 97, 100, 0, 2, 0, 0, 97, 101, 0, 2, 0, 0, 97, 102, 0, 2, 0, 0, 97, 103, 0, 2, 0, 0, 97, 104, 0, 2, 0, 0, 97, 105] ++ (nul 139)) 1 (.of 5)),
  (301, .cells (by8 [1] ++ (nul 199)) 1 (.of 5)),
  (814, .cells (by8 [2, 1, 0, 2, 0, 16, 0, 0, 0, 0, 0, 1, 0, 0, 0, 2] ++ (nul 24 ++ (by8 [1, 105, 0, 0, 0, 0, 0, 0, 0, 0, 0, 0, 0, 0, 0, 0, 0, 0, 0, 0, 0, 1, 1, 0, 0, 97, 0, 0, 1, 1, 0, 0, 98, 0, 0, 1, 1, 0, 0, 99, 0, 0, 1, 1, 0, 0, 100, 0, 0, 1, 1, 0, 0, 101, 0, 0, 1, 1, 0, 0, 102, 0, 0, 1, 1, 0, 0, 103, 0, 0, 1, 1, 0, 0, 104, 0, 0, 1, 1, 0, 0, 105, 0, 0, 1, 1, 0, 0, 106, 0, 0, 1, 1, 0, 0, 107, 0, 0, 1, 1, 0, 0, 108, 0, 0, 1, 1, 0, 0, 109, 0, 0, 1, 1, 0, 0, 110, 0, 0, 1, 1, 0, 0, 111, 0, 0, 1, 1, 0, 0, 112] ++ (nul 29)))) 1 (.of 5))],
 v := .tup [.agg [.int .i64 1, .slice (some (1488, 0)) 2 none, .slice (some (1498, 0)) 1 none, .slice (some (1638, 0)) 16 none, .slice none 0 (some 0)], .int .i64 0], nout := 2092, ldel := [],
 lset := [(1488, .cells [.int .u32 1, .int .u32 2] 1 .yes),
  (1498, .cells [.str [105]] 1 .yes),
  (1638, .cells [.str [97], .bool false, .str [], .str [98], .bool false, .str [], .str [99], .bool false, .str [], .str [100], .bool false, .str [], .str [101], .bool false, .str [], .str [102], .bool false, .str [], .str [103], .bool false, .str [], .str [104], .bool false, .str [], .str [105], .bool false, .str [], .str [106], .bool false, .str [], .str [107], .bool false, .str [], .str [108], .bool false, .str [], .str [109], .bool false, .str [], .str [110], .bool false, .str [], .str [111], .bool false, .str [], .str [112], .bool false, .str []] 3 .yes)] }

noncomputable def hk14F (args : List AV) (M : AMem) : Option (AV × AMem) := match hk13 12 with
  | some h => h args M
  | none => acall Tryz.prog hk13 400 12 args M

noncomputable def hk14 : Hook := fun f => match f with
  | 12 => some (cutAt [cut14] hk14F)
  | _ => hk13 f

def cut15 : Cut := {
 args := [.agg [.int .i64 9, .int .i64 200, .int .i64 8, .int .i64 8, .int .i64 16, .int .i64 16, .int .i64 2, .int .i64 1], .agg [.int .i64 0, .slice none 0 (some 0), .slice none 0 (some 0), .slice none 0 (some 0), .slice (some (2207, 0)) 9 none]], nin := 2208,
 lin := [(1, .ro (by8 [0, 1, 56, 2, 57, 49, 28, 3, 61, 58, 42, 50, 38, 29, 17, 4, 62, 47, 59, 36, 45, 43, 51, 22, 53, 39, 33, 30, 24, 18, 12, 5, 63, 55, 48, 27, 60, 41, 37, 16, 46, 35, 44, 21, 52, 32, 23, 11, 54, 26, 40, 15, 34, 20, 31, 10, 25, 14, 19, 9, 13, 8, 7, 6])),
  (2207, .cells [.str [97, 97], .str [], .str [97, 98], .str [], .str [97, 99], .str [], .str [97, 100], .str [], .str [97, 101], .str [], .str [97, 102], .str [], .str [97, 103], .str [], .str [97, 104], .str [], .str [97, 105], .str []] 2 .yes)],
 v := .tup [.slice (some (2384, 0)) 200 none, .int .i64 0], nout := 2385, ldel := [],
 lset := [(2384, .cells (by8 [1, 0, 0, 9, 0, 0, 0, 0, 2, 0, 0, 97, 97, 0, 2, 0, 0, 97, 98, 0, 2, 0, 0, 97, 99, 0, 2, 0, 0, 97, 100, 0, 2, 0, 0, 97, 101, 0, 2, 0, 0, 97, 102, 0, 2, 0, 0, 97, 103, 0, 2, 0, 0, 97, 104, 0, 2, 0, 0, 97, 105] ++ (nul 139)) 1 (.of 5))] }

noncomputable def hk15F (args : List AV) (M : AMem) : Option (AV × AMem) := match hk14 42 with
  | some h => h args M
  | none => acall Tryz.prog hk14 400 42 args M

noncomputable def hk15 : Hook := fun f => match f with
  | 42 => some (cutAt [cut15] hk15F)
  | _ => hk14 f

def cut16 : Cut := {
 args := [.agg [.int .i64 9, .int .i64 200, .int .i64 8, .int .i64 8, .int .i64 16, .int .i64 16, .int .i64 2, .int .i64 1], .slice (some (2120, 0)) 200 none], nin := 2122,
 lin := [(1, .ro (by8 [0, 1, 56, 2, 57, 49, 28, 3, 61, 58, 42, 50, 38, 29, 17, 4, 62, 47, 59, 36, 45, 43, 51, 22, 53, 39, 33, 30, 24, 18, 12, 5, 63, 55, 48, 27, 60, 41, 37, 16, 46, 35, 44, 21, 52, 32, 23, 11, 54, 26, 40, 15, 34, 20, 31, 10, 25, 14, 19, 9, 13, 8, 7, 6])),
  (2120, .cells (by8 [1, 0, 0, 9, 0, 0, 0, 0, 2, 0, 0, 97, 97, 0, 2, 0, 0, 97, 98, 0, 2, 0, 0, 97, 99, 0, 2, 0, 0, 97, 100, 0, 2, 0, 0, 97, 101, 0, 2, 0, 0, 97, 102, 0, 2, 0, 0, 97, 103, 0, 2, 0, 0, 97, 104, 0, 2, 0, 0, 97, 105] ++ (nul 139)) 1 (.of 5))],
 v := .tup [.agg [.int .i64 0, .slice none 0 (some 0), .slice none 0 (some 0), .slice none 0 (some 0), .slice (some (2207, 0)) 9 none], .int .i64 0], nout := 2385, ldel := [],
 lset := [(2207, .cells [.str [97, 97], .str [], .str [97, 98], .str [], .str [97, 99], .str [], .str [97, 100], .str [], .str [97, 101], .str [], .str [97, 102], .str [], .str [97, 103], .str [], .str [97, 104], .str [], .str [97, 105], .str []] 2 .yes)] }

noncomputable def hk16F (args : List AV) (M : AMem) : Option (AV × AMem) := match hk15 32 with
  | some h => h args M
  | none => acall Tryz.prog hk15 400 32 args M

noncomputable def hk16 : Hook := fun f => match f with
  | 32 => some (cutAt [cut16] hk16F)
  | _ => hk15 f

def cut17 : Cut := {
 args := [.ptr (some (39, 0)), .int .u32 1], nin := 2117,
 lin := [(1, .ro (by8 [0, 1, 56, 2, 57, 49, 28, 3, 61, 58, 42, 50, 38, 29, 17, 4, 62, 47, 59, 36, 45, 43, 51, 22, 53, 39, 33, 30, 24, 18, 12, 5, 63, 55, 48, 27, 60, 41, 37, 16, 46, 35, 44, 21, 52, 32, 23, 11, 54, 26, 40, 15, 34, 20, 31, 10, 25, 14, 19, 9, 13, 8, 7, 6])),
  (3, .cells (nul 1800) 0 .yes),
  (4, .cells [.int .i64 200, .slice (some (3, 0)) 1800 (some 1800), .int .u64 0, .int .u64 0] 0 .yes),
  (15, .cells [.int .i64 0, .int .i64 0, .bool false, .int .i64 0, .int .i64 0, .bool false, .int .i64 0, .int .i64 0, .bool false, .int .i64 0, .int .i64 0, .bool false, .int .i64 0, .int .i64 0, .bool false, .int .i64 8, .int .i64 6, .bool true, .int .i64 5, .int .i64 7, .bool true, .int .i64 6, .int .i64 8, .bool true, .int .i64 7, .int .i64 5, .bool false] 0 .yes),
  (16, .cells [.slice (some (15, 0)) 9 (some 9), .int .i64 3] 0 .yes),
  (17, .cells [.int .u32 0, .slice none 0 (some 0), .bool false, .int .i64 0, .int .u32 0, .slice none 0 (some 0), .bool false, .int .i64 0, .int .u32 0, .slice none 0 (some 0), .bool false, .int .i64 0, .int .u32 0, .slice none 0 (some 0), .bool false, .int .i64 0, .int .u32 0, .slice none 0 (some 0), .bool false, .int .i64 0, .int .u32 3, .slice (some (814, 0)) 200 none, .bool true, .int .i64 0, .int .u32 2, .slice (some (301, 0)) 200 none, .bool true, .int .i64 0, .int .u32 1, .slice (some (251, 0)) 200 none, .bool true, .int .i64 0] 0 .yes),
  (18, .map [(.int .u32 1, .int .i64 7, 0), (.int .u32 2, .int .i64 6, 1), (.int .u32 3, .int .i64 5, 2)] 3),
  (19, .cells [.ptr (some (4, 0)), .slice (some (17, 0)) 8 (some 8), .map (some 18), .slice (some (35, 0)) 5 none, .ptr (some (16, 0))] 0 .yes),
  (35, .cells [.int .i64 0, .int .i64 1, .int .i64 2, .int .i64 3, .int .i64 4, .int .i64 5, .int .i64 6, .int .i64 7] 1 .yes),
  (36, .cells [.int .u64 15] 0 .yes),
  (37, .cells [.int .i64 9, .int .i64 4, .slice (some (36, 0)) 1 (some 1)] 0 .yes),
  (38, .cells [.ptr (some (37, 0))] 0 .yes),
  (39, .cells [.int .i64 9, .int .i64 200, .int .i64 8, .int .i64 8, .int .i64 16, .int .i64 16, .int .i64 2, .int .i64 1, .ptr (some (4, 0)), .ptr (some (19, 0)), .ptr (some (38, 0)), .int .u32 0] 0 .yes),
  (251, .cells (by8 [1, 0, 0, 9, 0, 0, 0, 0, 2, 0, 0, 97, 97, 0, 2, 0, 0, 97, 98, 0, 2, 0, 0, 97, 99, 0, 2, 0, 0, 97, 100, 0, 2, 0, 0, 97, 101, 0, 2, 0, 0, 97, 102, 0, 2, 0, 0, 97, 103, 0, 2, 0, 0, 97, 104, 0, 2, 0, 0, 97, 105] ++ (nul 139)) 1 (.of 5)),
  (301, .cells (by8 [1] ++ (nul 199)) 1 (.of 5)),
  (814, .cells (by8 [2, 1, 0, 2, 0, 16, 0, 0, 0, 0, 0, 1, 0, 0, 0, 2] ++ (nul 24 ++ (by8 [1, 105, 0, 0, 0, 0, 0, 0, 0, 0, 0, 0, 0, 0, 0, 0, 0, 0, 0, 0, 0, 1, 1, 0, 0, 97, 0, 0, 1, 1, 0, 0, 98, 0, 0, 1, 1, 0, 0, 99, 0, 0, 1, 1, 0, 0, 100, 0, 0, 1, 1, 0, 0, 101, 0, 0, 1, 1, 0, 0, 102, 0, 0, 1, 1, 0, 0, 103, 0, 0, 1, 1, 0, 0, 104, 0, 0, 1, 1, 0, 0, 105, 0, 0, 1, 1, 0, 0, 106, 0, 0, 1, 1, 0, 0, 107, 0, 0, 1, 1, 0, 0, 108, 0, 0, 1, 1, 0, 0, 109, 0, 0, 1, 1, 0, 0, 110, 0, 0, 1, 1, 0, 0, 111, 0, 0, 1, 1, 0, 0, 112] ++ (nul 29)))) 1 (.of 5))],
 v := .tup [.agg [.int .i64 0, .slice none 0 (some 0), .slice none 0 (some 0), .slice none 0 (some 0), .slice (some (2207, 0)) 9 none], .int .i64 0], nout := 2385, ldel := [],
 lset := [(15, .cells [.int .i64 0, .int .i64 0, .bool false, .int .i64 0, .int .i64 0, .bool false, .int .i64 0, .int .i64 0, .bool false, .int .i64 0, .int .i64 0, .bool false, .int .i64 0, .int .i64 0, .bool false, .int .i64 7, .int .i64 6, .bool true, .int .i64 5, .int .i64 8, .bool true, .int .i64 8, .int .i64 5, .bool true, .int .i64 6, .int .i64 7, .bool false] 0 .yes),
  (2207, .cells [.str [97, 97], .str [], .str [97, 98], .str [], .str [97, 99], .str [], .str [97, 100], .str [], .str [97, 101], .str [], .str [97, 102], .str [], .str [97, 103], .str [], .str [97, 104], .str [], .str [97, 105], .str []] 2 .yes)] }

noncomputable def hk17F (args : List AV) (M : AMem) : Option (AV × AMem) := match hk16 12 with
  | some h => h args M
  | none => acall Tryz.prog hk16 400 12 args M

noncomputable def hk17 : Hook := fun f => match f with
  | 12 => some (cutAt [cut17] hk17F)
  | _ => hk16 f

def cut18 : Cut := {
 args := [.ptr (some (39, 0)), .int .u32 3], nin := 1455,
 lin := [(1, .ro (by8 [0, 1, 56, 2, 57, 49, 28, 3, 61, 58, 42, 50, 38, 29, 17, 4, 62, 47, 59, 36, 45, 43, 51, 22, 53, 39, 33, 30, 24, 18, 12, 5, 63, 55, 48, 27, 60, 41, 37, 16, 46, 35, 44, 21, 52, 32, 23, 11, 54, 26, 40, 15, 34, 20, 31, 10, 25, 14, 19, 9, 13, 8, 7, 6])),
  (3, .cells (nul 1800) 0 .yes),
  (4, .cells [.int .i64 200, .slice (some (3, 0)) 1800 (some 1800), .int .u64 0, .int .u64 0] 0 .yes),
  (15, .cells [.int .i64 0, .int .i64 0, .bool false, .int .i64 0, .int .i64 0, .bool false, .int .i64 0, .int .i64 0, .bool false, .int .i64 0, .int .i64 0, .bool false, .int .i64 0, .int .i64 0, .bool false, .int .i64 8, .int .i64 6, .bool true, .int .i64 5, .int .i64 7, .bool true, .int .i64 6, .int .i64 8, .bool true, .int .i64 7, .int .i64 5, .bool false] 0 .yes),
  (16, .cells [.slice (some (15, 0)) 9 (some 9), .int .i64 3] 0 .yes),
  (17, .cells [.int .u32 0, .slice none 0 (some 0), .bool false, .int .i64 0, .int .u32 0, .slice none 0 (some 0), .bool false, .int .i64 0, .int .u32 0, .slice none 0 (some 0), .bool false, .int .i64 0, .int .u32 0, .slice none 0 (some 0), .bool false, .int .i64 0, .int .u32 0, .slice none 0 (some 0), .bool false, .int .i64 0, .int .u32 3, .slice (some (814, 0)) 200 none, .bool true, .int .i64 0, .int .u32 2, .slice (some (301, 0)) 200 none, .bool true, .int .i64 0, .int .u32 1, .slice (some (251, 0)) 200 none, .bool true, .int .i64 0] 0 .yes),
  (18, .map [(.int .u32 1, .int .i64 7, 0), (.int .u32 2, .int .i64 6, 1), (.int .u32 3, .int .i64 5, 2)] 3),
  (19, .cells [.ptr (some (4, 0)), .slice (some (17, 0)) 8 (some 8), .map (some 18), .slice (some (35, 0)) 5 none, .ptr (some (16, 0))] 0 .yes),
  (35, .cells [.int .i64 0, .int .i64 1, .int .i64 2, .int .i64 3, .int .i64 4, .int .i64 5, .int .i64 6, .int .i64 7] 1 .yes),
  (36, .cells [.int .u64 15] 0 .yes),
  (37, .cells [.int .i64 9, .int .i64 4, .slice (some (36, 0)) 1 (some 1)] 0 .yes),
  (38, .cells [.ptr (some (37, 0))] 0 .yes),
  (39, .cells [.int .i64 9, .int .i64 200, .int .i64 8, .int .i64 8, .int .i64 16, .int .i64 16, .int .i64 2, .int .i64 1, .ptr (some (4, 0)), .ptr (some (19, 0)), .ptr (some (38, 0)), .int .u32 0] 0 .yes),
  (251, .cells (by8 [1, 0, 0, 9, 0, 0, 0, 0, 2, 0, 0, 97, 97, 0, 2, 0, 0, 97, 98, 0, 2, 0, 0, 97, 99, 0, 2, 0, 0, 97, 100, 0, 2, 0, 0, 97, 101, 0, 2, 0, 0, 97, 102, 0, 2, 0, 0, 97, 103, 0, 2, 0, 0, 97, 104, 0, 2, 0, 0, 97, 105] ++ (nul 139)) 1 (.of 5)),
  (301, .cells (by8 [1] ++ (nul 199)) 1 (.of 5)),
  (814, .cells (by8 [2, 1, 0, 2, 0, 16, 0, 0, 0, 0, 0, 1, 0, 0, 0, 2] ++ (nul 24 ++ (by8 [1, 105, 0, 0, 0, 0, 0, 0, 0, 0, 0, 0, 0, 0, 0, 0, 0, 0, 0, 0, 0, 1, 1, 0, 0, 97, 0, 0, 1, 1, 0, 0, 98, 0, 0, 1, 1, 0, 0, 99, 0, 0, 1, 1, 0, 0, 100, 0, 0, 1, 1, 0, 0, 101, 0, 0, 1, 1, 0, 0, 102, 0, 0, 1, 1, 0, 0, 103, 0, 0, 1, 1, 0, 0, 104, 0, 0, 1, 1, 0, 0, 105, 0, 0, 1, 1, 0, 0, 106, 0, 0, 1, 1, 0, 0, 107, 0, 0, 1, 1, 0, 0, 108, 0, 0, 1, 1, 0, 0, 109, 0, 0, 1, 1, 0, 0, 110, 0, 0, 1, 1, 0, 0, 111, 0, 0, 1, 1, 0, 0, 112] ++ (nul 29)))) 1 (.of 5))],
 v := .tup [.slice (some (2388, 0)) 2 none, .int .i64 0], nout := 2389, ldel := [],
 lset := [(15, .cells [.int .i64 0, .int .i64 0, .bool false, .int .i64 0, .int .i64 0, .bool false, .int .i64 0, .int .i64 0, .bool false, .int .i64 0, .int .i64 0, .bool false, .int .i64 0, .int .i64 0, .bool false, .int .i64 7, .int .i64 6, .bool true, .int .i64 5, .int .i64 8, .bool true, .int .i64 8, .int .i64 5, .bool true, .int .i64 6, .int .i64 7, .bool false] 0 .yes),
  (2388, .cells [.int .u32 3, .int .u32 1] 1 .yes)] }

noncomputable def hk18F (args : List AV) (M : AMem) : Option (AV × AMem) := match hk17 4 with
  | some h => h args M
  | none => acall Tryz.prog hk17 400 4 args M

noncomputable def hk18 : Hook := fun f => match f with
  | 4 => some (cutAt [cut18] hk18F)
  | _ => hk17 f

def cut19 : Cut := {
 args := [.agg [.int .i64 9, .int .i64 200, .int .i64 8, .int .i64 8, .int .i64 16, .int .i64 16, .int .i64 2, .int .i64 1], .agg [.int .i64 1, .slice (some (2423, 0)) 2 none, .slice (some (2433, 0)) 1 none, .slice (some (2573, 0)) 16 none, .slice none 0 (some 0)]], nin := 2574,
 lin := [(1, .ro (by8 [0, 1, 56, 2, 57, 49, 28, 3, 61, 58, 42, 50, 38, 29, 17, 4, 62, 47, 59, 36, 45, 43, 51, 22, 53, 39, 33, 30, 24, 18, 12, 5, 63, 55, 48, 27, 60, 41, 37, 16, 46, 35, 44, 21, 52, 32, 23, 11, 54, 26, 40, 15, 34, 20, 31, 10, 25, 14, 19, 9, 13, 8, 7, 6])),
  (2423, .cells [.int .u32 1, .int .u32 2] 1 .yes),
  (2433, .cells [.str [105]] 1 .yes),
  (2573, .cells [.str [97], .bool false, .str [], .str [98], .bool false, .str [], .str [99], .bool false, .str [], .str [100], .bool false, .str [], .str [101], .bool false, .str [], .str [102], .bool false, .str [], .str [103], .bool false, .str [], .str [104], .bool false, .str [], .str [105], .bool false, .str [], .str [106], .bool false, .str [], .str [107], .bool false, .str [], .str [108], .bool false, .str [], .str [109], .bool false, .str [], .str [110], .bool false, .str [], .str [111], .bool false, .str [], .str [112], .bool false, .str []] 3 .yes)],
 v := .tup [.slice (some (3026, 0)) 200 none, .int .i64 0], nout := 3027, ldel := [],
 lset := [(3026, .cells (by8 [2, 1, 0, 2, 0, 16, 0, 0, 0, 0, 0, 1, 0, 0, 0, 2] ++ (nul 24 ++ (by8 [1, 105, 0, 0, 0, 0, 0, 0, 0, 0, 0, 0, 0, 0, 0, 0, 0, 0, 0, 0, 0, 1, 1, 0, 0, 97, 0, 0, 1, 1, 0, 0, 98, 0, 0, 1, 1, 0, 0, 99, 0, 0, 1, 1, 0, 0, 100, 0, 0, 1, 1, 0, 0, 101, 0, 0, 1, 1, 0, 0, 102, 0, 0, 1, 1, 0, 0, 103, 0, 0, 1, 1, 0, 0, 104, 0, 0, 1, 1, 0, 0, 105, 0, 0, 1, 1, 0, 0, 106, 0, 0, 1, 1, 0, 0, 107, 0, 0, 1, 1, 0, 0, 108, 0, 0, 1, 1, 0, 0, 109, 0, 0, 1, 1, 0, 0, 110, 0, 0, 1, 1, 0, 0, 111, 0, 0, 1, 1, 0, 0, 112] ++ (nul 29)))) 1 (.of 5))] }

noncomputable def hk19F (args : List AV) (M : AMem) : Option (AV × AMem) := match hk18 42 with
  | some h => h args M
  | none => acall Tryz.prog hk18 400 42 args M

noncomputable def hk19 : Hook := fun f => match f with
  | 42 => some (cutAt [cut19] hk19F)
  | _ => hk18 f

def cut20 : Cut := {
 args := [.agg [.int .i64 9, .int .i64 200, .int .i64 8, .int .i64 8, .int .i64 16, .int .i64 16, .int .i64 2, .int .i64 1], .slice (some (2393, 0)) 200 none], nin := 2395,
 lin := [(1, .ro (by8 [0, 1, 56, 2, 57, 49, 28, 3, 61, 58, 42, 50, 38, 29, 17, 4, 62, 47, 59, 36, 45, 43, 51, 22, 53, 39, 33, 30, 24, 18, 12, 5, 63, 55, 48, 27, 60, 41, 37, 16, 46, 35, 44, 21, 52, 32, 23, 11, 54, 26, 40, 15, 34, 20, 31, 10, 25, 14, 19, 9, 13, 8, 7, 6])),
  (2393, .cells (by8 [2, 1, 0, 2, 0, 16, 0, 0, 0, 0, 0, 1, 0, 0, 0, 2] ++ (nul 24 ++ (by8 [1, 105, 0, 0, 0, 0, 0, 0, 0, 0, 0, 0, 0, 0, 0, 0, 0, 0, 0, 0, 0, 1, 1, 0, 0, 97, 0, 0, 1, 1, 0, 0, 98, 0, 0, 1, 1, 0, 0, 99, 0, 0, 1, 1, 0, 0, 100, 0, 0, 1, 1, 0, 0, 101, 0, 0, 1, 1, 0, 0, 102, 0, 0, 1, 1, 0, 0, 103, 0, 0, 1, 1, 0, 0, 104, 0, 0, 1, 1, 0, 0, 105, 0, 0, 1, 1, 0, 0, 106, 0, 0, 1, 1, 0, 0, 107, 0, 0, 1, 1, 0, 0, 108, 0, 0, 1, 1, 0, 0, 109, 0, 0, 1, 1, 0, 0, 110, 0, 0, 1, 1, 0, 0, 111, 0, 0, 1, 1, 0, 0, 112] ++ (nul 29)))) 1 (.of 5))],
 v := .tup [.agg [.int .i64 1, .slice (some (2423, 0)) 2 none, .slice (some (2433, 0)) 1 none, .slice (some (2573, 0)) 16 none, .slice none 0 (some 0)], .int .i64 0], nout := 3027, ldel := [],
 lset := [(2423, .cells [.int .u32 1, .int .u32 2] 1 .yes),
  (2433, .cells [.str [105]] 1 .yes),
  (2573, .cells [.str [97], .bool false, .str [], .str [98], .bool false, .str [], .str [99], .bool false, .str [], .str [100], .bool false, .str [], .str [101], .bool false, .str [], .str [102], .bool false, .str [], .str [103], .bool false, .str [], .str [104], .bool false, .str [], .str [105], .bool false, .str [], .str [106], .bool false, .str [], .str [107], .bool false, .str [], .str [108], .bool false, .str [], .str [109], .bool false, .str [], .str [110], .bool false, .str [], .str [111], .bool false, .str [], .str [112], .bool false, .str []] 3 .yes)] }

noncomputable def hk20F (args : List AV) (M : AMem) : Option (AV × AMem) := match hk19 32 with
  | some h => h args M
  | none => acall Tryz.prog hk19 400 32 args M

noncomputable def hk20 : Hook := fun f => match f with
  | 32 => some (cutAt [cut20] hk20F)
  | _ => hk19 f

def cut21 : Cut := {
 args := [.ptr (some (39, 0)), .int .u32 3], nin := 2390,
 lin := [(1, .ro (by8 [0, 1, 56, 2, 57, 49, 28, 3, 61, 58, 42, 50, 38, 29, 17, 4, 62, 47, 59, 36, 45, 43, 51, 22, 53, 39, 33, 30, 24, 18, 12, 5, 63, 55, 48, 27, 60, 41, 37, 16, 46, 35, 44, 21, 52, 32, 23, 11, 54, 26, 40, 15, 34, 20, 31, 10, 25, 14, 19, 9, 13, 8, 7, 6])),
  (3, .cells (nul 1800) 0 .yes),
  (4, .cells [.int .i64 200, .slice (some (3, 0)) 1800 (some 1800), .int .u64 0, .int .u64 0] 0 .yes),
  (15, .cells [.int .i64 0, .int .i64 0, .bool false, .int .i64 0, .int .i64 0, .bool false, .int .i64 0, .int .i64 0, .bool false, .int .i64 0, .int .i64 0, .bool false, .int .i64 0, .int .i64 0, .bool false, .int .i64 7, .int .i64 6, .bool true, .int .i64 5, .int .i64 8, .bool true, .int .i64 8, .int .i64 5, .bool true, .int .i64 6, .int .i64 7, .bool false] 0 .yes),
  (16, .cells [.slice (some (15, 0)) 9 (some 9), .int .i64 3] 0 .yes),
  (17, .cells [.int .u32 0, .slice none 0 (some 0), .bool false, .int .i64 0, .int .u32 0, .slice none 0 (some 0), .bool false, .int .i64 0, .int .u32 0, .slice none 0 (some 0), .bool false, .int .i64 0, .int .u32 0, .slice none 0 (some 0), .bool false, .int .i64 0, .int .u32 0, .slice none 0 (some 0), .bool false, .int .i64 0, .int .u32 3, .slice (some (814, 0)) 200 none, .bool true, .int .i64 0, .int .u32 2, .slice (some (301, 0)) 200 none, .bool true, .int .i64 0, .int .u32 1, .slice (some (251, 0)) 200 none, .bool true, .int .i64 0] 0 .yes),
  (18, .map [(.int .u32 1, .int .i64 7, 0), (.int .u32 2, .int .i64 6, 1), (.int .u32 3, .int .i64 5, 2)] 3),
  (19, .cells [.ptr (some (4, 0)), .slice (some (17, 0)) 8 (some 8), .map (some 18), .slice (some (35, 0)) 5 none, .ptr (some (16, 0))] 0 .yes),
  (35, .cells [.int .i64 0, .int .i64 1, .int .i64 2, .int .i64 3, .int .i64 4, .int .i64 5, .int .i64 6, .int .i64 7] 1 .yes),
  (36, .cells [.int .u64 15] 0 .yes),
  (37, .cells [.int .i64 9, .int .i64 4, .slice (some (36, 0)) 1 (some 1)] 0 .yes),
  (38, .cells [.ptr (some (37, 0))] 0 .yes),
  (39, .cells [.int .i64 9, .int .i64 200, .int .i64 8, .int .i64 8, .int .i64 16, .int .i64 16, .int .i64 2, .int .i64 1, .ptr (some (4, 0)), .ptr (some (19, 0)), .ptr (some (38, 0)), .int .u32 0] 0 .yes),
  (251, .cells (by8 [1, 0, 0, 9, 0, 0, 0, 0, 2, 0, 0, 97, 97, 0, 2, 0, 0, 97, 98, 0, 2, 0, 0, 97, 99, 0, 2, 0, 0, 97, 100, 0, 2, 0, 0, 97, 101, 0, 2, 0, 0, 97, 102, 0, 2, 0, 0, 97, 103, 0, 2, 0, 0, 97, 104, 0, 2, 0, 0, 97, 105] ++ (nul 139)) 1 (.of 5)),
  (301, .cells (by8 [1] ++ (nul 199)) 1 (.of 5)),
  (814, .cells (by8 [2, 1, 0, 2, 0, 16, 0, 0, 0, 0, 0, 1, 0, 0, 0, 2] ++ (nul 24 ++ (by8 [1, 105, 0, 0, 0, 0, 0, 0, 0, 0, 0, 0, 0, 0, 0, 0, 0, 0, 0, 0, 0, 1, 1, 0, 0, 97, 0, 0, 1, 1, 0, 0, 98, 0, 0, 1, 1, 0, 0, 99, 0, 0, 1, 1, 0, 0, 100, 0, 0, 1, 1, 0, 0, 101, 0, 0, 1, 1, 0, 0, 102, 0, 0, 1, 1, 0, 0, 103, 0, 0, 1, 1, 0, 0, 104, 0, 0, 1, 1, 0, 0, 105, 0, 0, 1, 1, 0, 0, 106, 0, 0, 1, 1, 0, 0, 107, 0, 0, 1, 1, 0, 0, 108, 0, 0, 1, 1, 0, 0, 109, 0, 0, 1, 1, 0, 0, 110, 0, 0, 1, 1, 0, 0, 111, 0, 0, 1, 1, 0, 0, 112] ++ (nul 29)))) 1 (.of 5))],
 v := .tup [.agg [.int .i64 1, .slice (some (2423, 0)) 2 none, .slice (some (2433, 0)) 1 none, .slice (some (2573, 0)) 16 none, .slice none 0 (some 0)], .int .i64 0], nout := 3027, ldel := [],
 lset := [(15, .cells [.int .i64 0, .int .i64 0, .bool false, .int .i64 0, .int .i64 0, .bool false, .int .i64 0, .int .i64 0, .bool false, .int .i64 0, .int .i64 0, .bool false, .int .i64 0, .int .i64 0, .bool false, .int .i64 8, .int .i64 7, .bool true, .int .i64 7, .int .i64 8, .bool true, .int .i64 5, .int .i64 6, .bool true, .int .i64 6, .int .i64 5, .bool false] 0 .yes),
  (2423, .cells [.int .u32 1, .int .u32 2] 1 .yes),
  (2433, .cells [.str [105]] 1 .yes),
  (2573, .cells [.str [97], .bool false, .str [], .str [98], .bool false, .str [], .str [99], .bool false, .str [], .str [100], .bool false, .str [], .str [101], .bool false, .str [], .str [102], .bool false, .str [], .str [103], .bool false, .str [], .str [104], .bool false, .str [], .str [105], .bool false, .str [], .str [106], .bool false, .str [], .str [107], .bool false, .str [], .str [108], .bool false, .str [], .str [109], .bool false, .str [], .str [110], .bool false, .str [], .str [111], .bool false, .str [], .str [112], .bool false, .str []] 3 .yes)] }

noncomputable def hk21F (args : List AV) (M : AMem) : Option (AV × AMem) := match hk20 12 with
  | some h => h args M
  | none => acall Tryz.prog hk20 400 12 args M

noncomputable def hk21 : Hook := fun f => match f with
  | 12 => some (cutAt [cut21] hk21F)
  | _ => hk20 f

def cut22 : Cut := {
 args := [.agg [.int .i64 9, .int .i64 200, .int .i64 8, .int .i64 8, .int .i64 16, .int .i64 16, .int .i64 2, .int .i64 1], .agg [.int .i64 0, .slice none 0 (some 0), .slice none 0 (some 0), .slice none 0 (some 0), .slice (some (3118, 0)) 9 none]], nin := 3119,
 lin := [(1, .ro (by8 [0, 1, 56, 2, 57, 49, 28, 3, 61, 58, 42, 50, 38, 29, 17, 4, 62, 47, 59, 36, 45, 43, 51, 22, 53, 39, 33, 30, 24, 18, 12, 5, 63, 55, 48, 27, 60, 41, 37, 16, 46, 35, 44, 21, 52, 32, 23, 11, 54, 26, 40, 15, 34, 20, 31, 10, 25, 14, 19, 9, 13, 8, 7, 6])),
  (3118, .cells [.str [97, 97], .str [], .str [97, 98], .str [], .str [97, 99], .str [], .str [97, 100], .str [], .str [97, 101], .str [], .str [97, 102], .str [], .str [97, 103], .str [], .str [97, 104], .str [], .str [97, 105], .str []] 2 .yes)],
 v := .tup [.slice (some (3295, 0)) 200 none, .int .i64 0], nout := 3296, ldel := [],
 lset := [(3295, .cells (by8 [1, 0, 0, 9, 0, 0, 0, 0, 2, 0, 0, 97, 97, 0, 2, 0, 0, 97, 98, 0, 2, 0, 0, 97, 99, 0, 2, 0, 0, 97, 100, 0, 2, 0, 0, 97, 101, 0, 2, 0, 0, 97, 102, 0, 2, 0, 0, 97, 103, 0, 2, 0, 0, 97, 104, 0, 2, 0, 0, 97, 105] ++ (nul 139)) 1 (.of 5))] }

noncomputable def hk22F (args : List AV) (M : AMem) : Option (AV × AMem) := match hk21 42 with
  | some h => h args M
  | none => acall Tryz.prog hk21 400 42 args M

noncomputable def hk22 : Hook := fun f => match f with
  | 42 => some (cutAt [cut22] hk22F)
  | _ => hk21 f

def cut23 : Cut := {
 args := [.agg [.int .i64 9, .int .i64 200, .int .i64 8, .int .i64 8, .int .i64 16, .int .i64 16, .int .i64 2, .int .i64 1], .slice (some (3031, 0)) 200 none], nin := 3033,
 lin := [(1, .ro (by8 [0, 1, 56, 2, 57, 49, 28, 3, 61, 58, 42, 50, 38, 29, 17, 4, 62, 47, 59, 36, 45, 43, 51, 22, 53, 39, 33, 30, 24, 18, 12, 5, 63, 55, 48, 27, 60, 41, 37, 16, 46, 35, 44, 21, 52, 32, 23, 11, 54, 26, 40, 15, 34, 20, 31, 10, 25, 14, 19, 9, 13, 8, 7, 6])),
  (3031, .cells (by8 [1, 0, 0, 9, 0, 0, 0, 0, 2, 0, 0, 97, 97, 0, 2, 0, 0, 97, 98, 0, 2, 0, 0, 97, 99, 0, 2, 0, 0, 97, 100, 0, 2, 0, 0, 97, 101, 0, 2, 0, 0, 97, 102, 0, 2, 0, 0, 97, 103, 0, 2, 0, 0, 97, 104, 0, 2, 0, 0, 97, 105] ++ (nul 139)) 1 (.of 5))],
 v := .tup [.agg [.int .i64 0, .slice none 0 (some 0), .slice none 0 (some 0), .slice none 0 (some 0), .slice (some (3118, 0)) 9 none], .int .i64 0], nout := 3296, ldel := [],
 lset := [(3118, .cells [.str [97, 97], .str [], .str [97, 98], .str [], .str [97, 99], .str [], .str [97, 100], .str [], .str [97, 101], .str [], .str [97, 102], .str [], .str [97, 103], .str [], .str [97, 104], .str [], .str [97, 105], .str []] 2 .yes)] }

noncomputable def hk23F (args : List AV) (M : AMem) : Option (AV × AMem) := match hk22 32 with
  | some h => h args M
  | none => acall Tryz.prog hk22 400 32 args M

noncomputable def hk23 : Hook := fun f => match f with
  | 32 => some (cutAt [cut23] hk23F)
  | _ => hk22 f

def cut24 : Cut := {
 args := [.ptr (some (39, 0)), .int .u32 1], nin := 3028,
 lin := [(1, .ro (by8 [0, 1, 56, 2, 57, 49, 28, 3, 61, 58, 42, 50, 38, 29, 17, 4, 62, 47, 59, 36, 45, 43, 51, 22, 53, 39, 33, 30, 24, 18, 12, 5, 63, 55, 48, 27, 60, 41, 37, 16, 46, 35, 44, 21, 52, 32, 23, 11, 54, 26, 40, 15, 34, 20, 31, 10, 25, 14, 19, 9, 13, 8, 7, 6])),
  (3, .cells (nul 1800) 0 .yes),
  (4, .cells [.int .i64 200, .slice (some (3, 0)) 1800 (some 1800), .int .u64 0, .int .u64 0] 0 .yes),
  (15, .cells [.int .i64 0, .int .i64 0, .bool false, .int .i64 0, .int .i64 0, .bool false, .int .i64 0, .int .i64 0, .bool false, .int .i64 0, .int .i64 0, .bool false, .int .i64 0, .int .i64 0, .bool false, .int .i64 8, .int .i64 7, .bool true, .int .i64 7, .int .i64 8, .bool true, .int .i64 5, .int .i64 6, .bool true, .int .i64 6, .int .i64 5, .bool false] 0 .yes),
  (16, .cells [.slice (some (15, 0)) 9 (some 9), .int .i64 3] 0 .yes),
  (17, .cells [.int .u32 0, .slice none 0 (some 0), .bool false, .int .i64 0, .int .u32 0, .slice none 0 (some 0), .bool false, .int .i64 0, .int .u32 0, .slice none 0 (some 0), .bool false, .int .i64 0, .int .u32 0, .slice none 0 (some 0), .bool false, .int .i64 0, .int .u32 0, .slice none 0 (some 0), .bool false, .int .i64 0, .int .u32 3, .slice (some (814, 0)) 200 none, .bool true, .int .i64 0, .int .u32 2, .slice (some (301, 0)) 200 none, .bool true, .int .i64 0, .int .u32 1, .slice (some (251, 0)) 200 none, .bool true, .int .i64 0] 0 .yes),
  (18, .map [(.int .u32 1, .int .i64 7, 0), (.int .u32 2, .int .i64 6, 1), (.int .u32 3, .int .i64 5, 2)] 3),
  (19, .cells [.ptr (some (4, 0)), .slice (some (17, 0)) 8 (some 8), .map (some 18), .slice (some (35, 0)) 5 none, .ptr (some (16, 0))] 0 .yes),
  (35, .cells [.int .i64 0, .int .i64 1, .int .i64 2, .int .i64 3, .int .i64 4, .int .i64 5, .int .i64 6, .int .i64 7] 1 .yes),
  (36, .cells [.int .u64 15] 0 .yes),
  (37, .cells [.int .i64 9, .int .i64 4, .slice (some (36, 0)) 1 (some 1)] 0 .yes),
  (38, .cells [.ptr (some (37, 0))] 0 .yes),
  (39, .cells [.int .i64 9, .int .i64 200, .int .i64 8, .int .i64 8, .int .i64 16, .int .i64 16, .int .i64 2, .int .i64 1, .ptr (some (4, 0)), .ptr (some (19, 0)), .ptr (some (38, 0)), .int .u32 0] 0 .yes),
  (251, .cells (by8 [1, 0, 0, 9, 0, 0, 0, 0, 2, 0, 0, 97, 97, 0, 2, 0, 0, 97, 98, 0, 2, 0, 0, 97, 99, 0, 2, 0, 0, 97, 100, 0, 2, 0, 0, 97, 101, 0, 2, 0, 0, 97, 102, 0, 2, 0, 0, 97, 103, 0, 2, 0, 0, 97, 104, 0, 2, 0, 0, 97, 105] ++ (nul 139)) 1 (.of 5)),
  (301, .cells (by8 [1] ++ (nul 199)) 1 (.of 5)),
  (814, .cells (by8 [2, 1, 0, 2, 0, 16, 0, 0, 0, 0, 0, 1, 0, 0, 0, 2] ++ (nul 24 ++ (by8 [1, 105, 0, 0, 0, 0, 0, 0, 0, 0, 0, 0, 0, 0, 0, 0, 0, 0, 0, 0, 0, 1, 1, 0, 0, 97, 0, 0, 1, 1, 0, 0, 98, 0, 0, 1, 1, 0, 0, 99, 0, 0, 1, 1, 0, 0, 100, 0, 0, 1, 1, 0, 0, 101, 0, 0, 1, 1, 0, 0, 102, 0, 0, 1, 1, 0, 0, 103, 0, 0, 1, 1, 0, 0, 104, 0, 0, 1, 1, 0, 0, 105, 0, 0, 1, 1, 0, 0, 106, 0, 0, 1, 1, 0, 0, 107, 0, 0, 1, 1, 0, 0, 108, 0, 0, 1, 1, 0, 0, 109, 0, 0, 1, 1, 0, 0, 110, 0, 0, 1, 1, 0, 0, 111, 0, 0, 1, 1, 0, 0, 112] ++ (nul 29)))) 1 (.of 5))],
 v := .tup [.agg [.int .i64 0, .slice none 0 (some 0), .slice none 0 (some 0), .slice none 0 (some 0), .slice (some (3118, 0)) 9 none], .int .i64 0], nout := 3296, ldel := [],
 lset := [(15, .cells [.int .i64 0, .int .i64 0, .bool false, .int .i64 0, .int .i64 0, .bool false, .int .i64 0, .int .i64 0, .bool false, .int .i64 0, .int .i64 0, .bool false, .int .i64 0, .int .i64 0, .bool false, .int .i64 7, .int .i64 6, .bool true, .int .i64 5, .int .i64 8, .bool true, .int .i64 8, .int .i64 5, .bool true, .int .i64 6, .int .i64 7, .bool false] 0 .yes),
  (3118, .cells [.str [97, 97], .str [], .str [97, 98], .str [], .str [97, 99], .str [], .str [97, 100], .str [], .str [97, 101], .str [], .str [97, 102], .str [], .str [97, 103], .str [], .str [97, 104], .str [], .str [97, 105], .str []] 2 .yes)] }

noncomputable def hk24F (args : List AV) (M : AMem) : Option (AV × AMem) := match hk23 12 with
  | some h => h args M
  | none => acall Tryz.prog hk23 400 12 args M

noncomputable def hk24 : Hook := fun f => match f with
  | 12 => some (cutAt [cut24] hk24F)
  | _ => hk23 f

def cut25 : Cut := {
 args := [.agg [.int .i64 9, .int .i64 200, .int .i64 8, .int .i64 8, .int .i64 16, .int .i64 16, .int .i64 2, .int .i64 1], .agg [.int .i64 1, .slice (some (2423, 0)) 2 none, .slice (some (2433, 0)) 1 none, .slice (some (2573, 0)) 16 none, .slice none 0 (some 0)], .int .i64 0, .agg [.int .i64 0, .slice none 0 (some 0), .slice none 0 (some 0), .slice none 0 (some 0), .slice (some (3118, 0)) 9 none], .int .i64 1], nin := 3303,
 lin := [(1, .ro (by8 [0, 1, 56, 2, 57, 49, 28, 3, 61, 58, 42, 50, 38, 29, 17, 4, 62, 47, 59, 36, 45, 43, 51, 22, 53, 39, 33, 30, 24, 18, 12, 5, 63, 55, 48, 27, 60, 41, 37, 16, 46, 35, 44, 21, 52, 32, 23, 11, 54, 26, 40, 15, 34, 20, 31, 10, 25, 14, 19, 9, 13, 8, 7, 6])),
  (2423, .cells [.int .u32 1, .int .u32 2] 1 .yes),
  (2433, .cells [.str [105]] 1 .yes),
  (2573, .cells [.str [97], .bool false, .str [], .str [98], .bool false, .str [], .str [99], .bool false, .str [], .str [100], .bool false, .str [], .str [101], .bool false, .str [], .str [102], .bool false, .str [], .str [103], .bool false, .str [], .str [104], .bool false, .str [], .str [105], .bool false, .str [], .str [106], .bool false, .str [], .str [107], .bool false, .str [], .str [108], .bool false, .str [], .str [109], .bool false, .str [], .str [110], .bool false, .str [], .str [111], .bool false, .str [], .str [112], .bool false, .str []] 3 .yes),
  (3118, .cells [.str [97, 97], .str [], .str [97, 98], .str [], .str [97, 99], .str [], .str [97, 100], .str [], .str [97, 101], .str [], .str [97, 102], .str [], .str [97, 103], .str [], .str [97, 104], .str [], .str [97, 105], .str []] 2 .yes)],
 v := .tup [.agg [.int .i64 1, .slice (some (3311, 0)) 2 none, .slice (some (3313, 0)) 1 none, .slice (some (3347, 0)) 15 none, .slice none 0 (some 0)], .agg [.int .i64 0, .slice none 0 (some 0), .slice none 0 (some 0), .slice none 0 (some 0), .slice (some (3357, 0)) 10 none], .int .i64 1], nout := 3358, ldel := [],
 lset := [(3311, .cells [.int .u32 1, .int .u32 2] 1 .yes),
  (3313, .cells [.str [105]] 1 .yes),
  (3347, .cells [.str [98], .bool false, .str [], .str [99], .bool false, .str [], .str [100], .bool false, .str [], .str [101], .bool false, .str [], .str [102], .bool false, .str [], .str [103], .bool false, .str [], .str [104], .bool false, .str [], .str [105], .bool false, .str [], .str [106], .bool false, .str [], .str [107], .bool false, .str [], .str [108], .bool false, .str [], .str [109], .bool false, .str [], .str [110], .bool false, .str [], .str [111], .bool false, .str [], .str [112], .bool false, .str []] 3 .yes),
  (3357, .cells [.str [97], .str [], .str [97, 97], .str [], .str [97, 98], .str [], .str [97, 99], .str [], .str [97, 100], .str [], .str [97, 101], .str [], .str [97, 102], .str [], .str [97, 103], .str [], .str [97, 104], .str [], .str [97, 105], .str []] 2 .yes)] }

noncomputable def hk25F (args : List AV) (M : AMem) : Option (AV × AMem) := match hk24 97 with
  | some h => h args M
  | none => acall Tryz.prog hk24 400 97 args M

noncomputable def hk25 : Hook := fun f => match f with
  | 97 => some (cutAt [cut25] hk25F)
  | _ => hk24 f

def cut26 : Cut := {
 args := [.agg [.int .i64 9, .int .i64 200, .int .i64 8, .int .i64 8, .int .i64 16, .int .i64 16, .int .i64 2, .int .i64 1], .agg [.int .i64 0, .slice none 0 (some 0), .slice none 0 (some 0), .slice none 0 (some 0), .slice none 0 (some 0)]], nin := 3388,
 lin := [(1, .ro (by8 [0, 1, 56, 2, 57, 49, 28, 3, 61, 58, 42, 50, 38, 29, 17, 4, 62, 47, 59, 36, 45, 43, 51, 22, 53, 39, 33, 30, 24, 18, 12, 5, 63, 55, 48, 27, 60, 41, 37, 16, 46, 35, 44, 21, 52, 32, 23, 11, 54, 26, 40, 15, 34, 20, 31, 10, 25, 14, 19, 9, 13, 8, 7, 6]))],
 v := .tup [.slice (some (3429, 0)) 200 none, .int .i64 0], nout := 3430, ldel := [],
 lset := [(3429, .cells (by8 [1] ++ (nul 199)) 1 (.of 5))] }

noncomputable def hk26F (args : List AV) (M : AMem) : Option (AV × AMem) := match hk25 42 with
  | some h => h args M
  | none => acall Tryz.prog hk25 400 42 args M

noncomputable def hk26 : Hook := fun f => match f with
  | 42 => some (cutAt [cut26] hk26F)
  | _ => hk25 f

def cut27 : Cut := {
 args := [.agg [.int .i64 9, .int .i64 200, .int .i64 8, .int .i64 8, .int .i64 16, .int .i64 16, .int .i64 2, .int .i64 1], .slice (some (3363, 0)) 200 none], nin := 3365,
 lin := [(1, .ro (by8 [0, 1, 56, 2, 57, 49, 28, 3, 61, 58, 42, 50, 38, 29, 17, 4, 62, 47, 59, 36, 45, 43, 51, 22, 53, 39, 33, 30, 24, 18, 12, 5, 63, 55, 48, 27, 60, 41, 37, 16, 46, 35, 44, 21, 52, 32, 23, 11, 54, 26, 40, 15, 34, 20, 31, 10, 25, 14, 19, 9, 13, 8, 7, 6])),
  (3363, .cells (by8 [1] ++ (nul 199)) 1 (.of 5))],
 v := .tup [.agg [.int .i64 0, .slice none 0 (some 0), .slice none 0 (some 0), .slice none 0 (some 0), .slice none 0 (some 0)], .int .i64 0], nout := 3430, ldel := [],
 lset := [] }

noncomputable def hk27F (args : List AV) (M : AMem) : Option (AV × AMem) := match hk26 32 with
  | some h => h args M
  | none => acall Tryz.prog hk26 400 32 args M

noncomputable def hk27 : Hook := fun f => match f with
  | 32 => some (cutAt [cut27] hk27F)
  | _ => hk26 f

def cut28 : Cut := {
 args := [.ptr (some (39, 0)), .int .u32 2], nin := 3360,
 lin := [(1, .ro (by8 [0, 1, 56, 2, 57, 49, 28, 3, 61, 58, 42, 50, 38, 29, 17, 4, 62, 47, 59, 36, 45, 43, 51, 22, 53, 39, 33, 30, 24, 18, 12, 5, 63, 55, 48, 27, 60, 41, 37, 16, 46, 35, 44, 21, 52, 32, 23, 11, 54, 26, 40, 15, 34, 20, 31, 10, 25, 14, 19, 9, 13, 8, 7, 6])),
  (3, .cells (nul 1800) 0 .yes),
  (4, .cells [.int .i64 200, .slice (some (3, 0)) 1800 (some 1800), .int .u64 0, .int .u64 0] 0 .yes),
  (15, .cells [.int .i64 0, .int .i64 0, .bool false, .int .i64 0, .int .i64 0, .bool false, .int .i64 0, .int .i64 0, .bool false, .int .i64 0, .int .i64 0, .bool false, .int .i64 0, .int .i64 0, .bool false, .int .i64 7, .int .i64 6, .bool true, .int .i64 5, .int .i64 8, .bool true, .int .i64 8, .int .i64 5, .bool true, .int .i64 6, .int .i64 7, .bool false] 0 .yes),
  (16, .cells [.slice (some (15, 0)) 9 (some 9), .int .i64 3] 0 .yes),
  (17, .cells [.int .u32 0, .slice none 0 (some 0), .bool false, .int .i64 0, .int .u32 0, .slice none 0 (some 0), .bool false, .int .i64 0, .int .u32 0, .slice none 0 (some 0), .bool false, .int .i64 0, .int .u32 0, .slice none 0 (some 0), .bool false, .int .i64 0, .int .u32 0, .slice none 0 (some 0), .bool false, .int .i64 0, .int .u32 3, .slice (some (814, 0)) 200 none, .bool true, .int .i64 0, .int .u32 2, .slice (some (301, 0)) 200 none, .bool true, .int .i64 0, .int .u32 1, .slice (some (251, 0)) 200 none, .bool true, .int .i64 0] 0 .yes),
  (18, .map [(.int .u32 1, .int .i64 7, 0), (.int .u32 2, .int .i64 6, 1), (.int .u32 3, .int .i64 5, 2)] 3),
  (19, .cells [.ptr (some (4, 0)), .slice (some (17, 0)) 8 (some 8), .map (some 18), .slice (some (35, 0)) 5 none, .ptr (some (16, 0))] 0 .yes),
  (35, .cells [.int .i64 0, .int .i64 1, .int .i64 2, .int .i64 3, .int .i64 4, .int .i64 5, .int .i64 6, .int .i64 7] 1 .yes),
  (36, .cells [.int .u64 15] 0 .yes),
  (37, .cells [.int .i64 9, .int .i64 4, .slice (some (36, 0)) 1 (some 1)] 0 .yes),
  (38, .cells [.ptr (some (37, 0))] 0 .yes),
  (39, .cells [.int .i64 9, .int .i64 200, .int .i64 8, .int .i64 8, .int .i64 16, .int .i64 16, .int .i64 2, .int .i64 1, .ptr (some (4, 0)), .ptr (some (19, 0)), .ptr (some (38, 0)), .int .u32 0] 0 .yes),
  (251, .cells (by8 [1, 0, 0, 9, 0, 0, 0, 0, 2, 0, 0, 97, 97, 0, 2, 0, 0, 97, 98, 0, 2, 0, 0, 97, 99, 0, 2, 0, 0, 97, 100, 0, 2, 0, 0, 97, 101, 0, 2, 0, 0, 97, 102, 0, 2, 0, 0, 97, 103, 0, 2, 0, 0, 97, 104, 0, 2, 0, 0, 97, 105] ++ (nul 139)) 1 (.of 5)),
  (301, .cells (by8 [1] ++ (nul 199)) 1 (.of 5)),
  (814, .cells (by8 [2, 1, 0, 2, 0, 16, 0, 0, 0, 0, 0, 1, 0, 0, 0, 2] ++ (nul 24 ++ (by8 [1, 105, 0, 0, 0, 0, 0, 0, 0, 0, 0, 0, 0, 0, 0, 0, 0, 0, 0, 0, 0, 1, 1, 0, 0, 97, 0, 0, 1, 1, 0, 0, 98, 0, 0, 1, 1, 0, 0, 99, 0, 0, 1, 1, 0, 0, 100, 0, 0, 1, 1, 0, 0, 101, 0, 0, 1, 1, 0, 0, 102, 0, 0, 1, 1, 0, 0, 103, 0, 0, 1, 1, 0, 0, 104, 0, 0, 1, 1, 0, 0, 105, 0, 0, 1, 1, 0, 0, 106, 0, 0, 1, 1, 0, 0, 107, 0, 0, 1, 1, 0, 0, 108, 0, 0, 1, 1, 0, 0, 109, 0, 0, 1, 1, 0, 0, 110, 0, 0, 1, 1, 0, 0, 111, 0, 0, 1, 1, 0, 0, 112] ++ (nul 29)))) 1 (.of 5))],
 v := .tup [.agg [.int .i64 0, .slice none 0 (some 0), .slice none 0 (some 0), .slice none 0 (some 0), .slice none 0 (some 0)], .int .i64 0], nout := 3430, ldel := [],
 lset := [(15, .cells [.int .i64 0, .int .i64 0, .bool false, .int .i64 0, .int .i64 0, .bool false, .int .i64 0, .int .i64 0, .bool false, .int .i64 0, .int .i64 0, .bool false, .int .i64 0, .int .i64 0, .bool false, .int .i64 7, .int .i64 8, .bool true, .int .i64 8, .int .i64 7, .bool true, .int .i64 6, .int .i64 5, .bool true, .int .i64 5, .int .i64 6, .bool false] 0 .yes)] }

noncomputable def hk28F (args : List AV) (M : AMem) : Option (AV × AMem) := match hk27 12 with
  | some h => h args M
  | none => acall Tryz.prog hk27 400 12 args M

noncomputable def hk28 : Hook := fun f => match f with
  | 12 => some (cutAt [cut28] hk28F)
  | _ => hk27 f

def cut29 : Cut := {
 args := [.agg [.int .i64 9, .int .i64 200, .int .i64 8, .int .i64 8, .int .i64 16, .int .i64 16, .int .i64 2, .int .i64 1], .agg [.int .i64 0, .slice none 0 (some 0), .slice none 0 (some 0), .slice none 0 (some 0), .slice (some (3357, 0)) 10 none]], nin := 3438,
 lin := [(1, .ro (by8 [0, 1, 56, 2, 57, 49, 28, 3, 61, 58, 42, 50, 38, 29, 17, 4, 62, 47, 59, 36, 45, 43, 51, 22, 53, 39, 33, 30, 24, 18, 12, 5, 63, 55, 48, 27, 60, 41, 37, 16, 46, 35, 44, 21, 52, 32, 23, 11, 54, 26, 40, 15, 34, 20, 31, 10, 25, 14, 19, 9, 13, 8, 7, 6])),
  (3357, .cells [.str [97], .str [], .str [97, 97], .str [], .str [97, 98], .str [], .str [97, 99], .str [], .str [97, 100], .str [], .str [97, 101], .str [], .str [97, 102], .str [], .str [97, 103], .str [], .str [97, 104], .str [], .str [97, 105], .str []] 2 .yes)],
 v := .tup [.slice (some (3630, 0)) 200 none, .int .i64 0], nout := 3631, ldel := [],
 lset := [(3630, .cells (by8 [1, 0, 0, 10, 0, 0, 0, 0, 1, 0, 0, 97, 0, 0, 2, 0, 0, 97, 97, 0, 2, 0, 0, 97, 98, 0, 2, 0, 0, 97, 99, 0, 2, 0, 0, 97, 100, 0, 2, 0, 0, 97, 101, 0, 2, 0, 0, 97, 102, 0, 2, 0, 0, 97, 103, 0, 2, 0, 0, 97, 104, 0, 2, 0, 0, 97, 105] ++ (nul 133)) 1 (.of 5))] }

noncomputable def hk29F (args : List AV) (M : AMem) : Option (AV × AMem) := match hk28 42 with
  | some h => h args M
  | none => acall Tryz.prog hk28 400 42 args M

noncomputable def hk29 : Hook := fun f => match f with
  | 42 => some (cutAt [cut29] hk29F)
  | _ => hk28 f

def cut30 : Cut := {
 args := [.ptr (some (39, 0)), .int .u32 1, .agg [.int .i64 0, .slice none 0 (some 0), .slice none 0 (some 0), .slice none 0 (some 0), .slice (some (3357, 0)) 10 none]], nin := 3437,
 lin := [(1, .ro (by8 [0, 1, 56, 2, 57, 49, 28, 3, 61, 58, 42, 50, 38, 29, 17, 4, 62, 47, 59, 36, 45, 43, 51, 22, 53, 39, 33, 30, 24, 18, 12, 5, 63, 55, 48, 27, 60, 41, 37, 16, 46, 35, 44, 21, 52, 32, 23, 11, 54, 26, 40, 15, 34, 20, 31, 10, 25, 14, 19, 9, 13, 8, 7, 6])),
  (3, .cells (nul 1800) 0 .yes),
  (4, .cells [.int .i64 200, .slice (some (3, 0)) 1800 (some 1800), .int .u64 0, .int .u64 0] 0 .yes),
  (15, .cells [.int .i64 0, .int .i64 0, .bool false, .int .i64 0, .int .i64 0, .bool false, .int .i64 0, .int .i64 0, .bool false, .int .i64 0, .int .i64 0, .bool false, .int .i64 0, .int .i64 0, .bool false, .int .i64 7, .int .i64 8, .bool true, .int .i64 8, .int .i64 7, .bool true, .int .i64 6, .int .i64 5, .bool true, .int .i64 5, .int .i64 6, .bool false] 0 .yes),
  (16, .cells [.slice (some (15, 0)) 9 (some 9), .int .i64 3] 0 .yes),
  (17, .cells [.int .u32 0, .slice none 0 (some 0), .bool false, .int .i64 0, .int .u32 0, .slice none 0 (some 0), .bool false, .int .i64 0, .int .u32 0, .slice none 0 (some 0), .bool false, .int .i64 0, .int .u32 0, .slice none 0 (some 0), .bool false, .int .i64 0, .int .u32 0, .slice none 0 (some 0), .bool false, .int .i64 0, .int .u32 3, .slice (some (814, 0)) 200 none, .bool true, .int .i64 0, .int .u32 2, .slice (some (301, 0)) 200 none, .bool true, .int .i64 0, .int .u32 1, .slice (some (251, 0)) 200 none, .bool true, .int .i64 0] 0 .yes),
  (18, .map [(.int .u32 1, .int .i64 7, 0), (.int .u32 2, .int .i64 6, 1), (.int .u32 3, .int .i64 5, 2)] 3),
  (19, .cells [.ptr (some (4, 0)), .slice (some (17, 0)) 8 (some 8), .map (some 18), .slice (some (35, 0)) 5 none, .ptr (some (16, 0))] 0 .yes),
  (35, .cells [.int .i64 0, .int .i64 1, .int .i64 2, .int .i64 3, .int .i64 4, .int .i64 5, .int .i64 6, .int .i64 7] 1 .yes),
  (36, .cells [.int .u64 15] 0 .yes),
  (37, .cells [.int .i64 9, .int .i64 4, .slice (some (36, 0)) 1 (some 1)] 0 .yes),
  (38, .cells [.ptr (some (37, 0))] 0 .yes),
  (39, .cells [.int .i64 9, .int .i64 200, .int .i64 8, .int .i64 8, .int .i64 16, .int .i64 16, .int .i64 2, .int .i64 1, .ptr (some (4, 0)), .ptr (some (19, 0)), .ptr (some (38, 0)), .int .u32 0] 0 .yes),
  (251, .cells (by8 [1, 0, 0, 9, 0, 0, 0, 0, 2, 0, 0, 97, 97, 0, 2, 0, 0, 97, 98, 0, 2, 0, 0, 97, 99, 0, 2, 0, 0, 97, 100, 0, 2, 0, 0, 97, 101, 0, 2, 0, 0, 97, 102, 0, 2, 0, 0, 97, 103, 0, 2, 0, 0, 97, 104, 0, 2, 0, 0, 97, 105] ++ (nul 139)) 1 (.of 5)),
  (301, .cells (by8 [1] ++ (nul 199)) 1 (.of 5)),
  (814, .cells (by8 [2, 1, 0, 2, 0, 16, 0, 0, 0, 0, 0, 1, 0, 0, 0, 2] ++ (nul 24 ++ (by8 [1, 105, 0, 0, 0, 0, 0, 0, 0, 0, 0, 0, 0, 0, 0, 0, 0, 0, 0, 0, 0, 1, 1, 0, 0, 97, 0, 0, 1, 1, 0, 0, 98, 0, 0, 1, 1, 0, 0, 99, 0, 0, 1, 1, 0, 0, 100, 0, 0, 1, 1, 0, 0, 101, 0, 0, 1, 1, 0, 0, 102, 0, 0, 1, 1, 0, 0, 103, 0, 0, 1, 1, 0, 0, 104, 0, 0, 1, 1, 0, 0, 105, 0, 0, 1, 1, 0, 0, 106, 0, 0, 1, 1, 0, 0, 107, 0, 0, 1, 1, 0, 0, 108, 0, 0, 1, 1, 0, 0, 109, 0, 0, 1, 1, 0, 0, 110, 0, 0, 1, 1, 0, 0, 111, 0, 0, 1, 1, 0, 0, 112] ++ (nul 29)))) 1 (.of 5)),
  (3357, .cells [.str [97], .str [], .str [97, 97], .str [], .str [97, 98], .str [], .str [97, 99], .str [], .str [97, 100], .str [], .str [97, 101], .str [], .str [97, 102], .str [], .str [97, 103], .str [], .str [97, 104], .str [], .str [97, 105], .str []] 2 .yes)],
 v := .int .i64 0, nout := 3637, ldel := [],
 lset := [(15, .cells [.int .i64 0, .int .i64 0, .bool false, .int .i64 0, .int .i64 0, .bool false, .int .i64 0, .int .i64 0, .bool false, .int .i64 0, .int .i64 0, .bool false, .int .i64 0, .int .i64 0, .bool false, .int .i64 6, .int .i64 8, .bool true, .int .i64 7, .int .i64 5, .bool true, .int .i64 8, .int .i64 6, .bool true, .int .i64 5, .int .i64 7, .bool false] 0 .yes),
  (17, .cells [.int .u32 0, .slice none 0 (some 0), .bool false, .int .i64 0, .int .u32 0, .slice none 0 (some 0), .bool false, .int .i64 0, .int .u32 0, .slice none 0 (some 0), .bool false, .int .i64 0, .int .u32 0, .slice none 0 (some 0), .bool false, .int .i64 0, .int .u32 0, .slice none 0 (some 0), .bool false, .int .i64 0, .int .u32 3, .slice (some (814, 0)) 200 none, .bool true, .int .i64 0, .int .u32 2, .slice (some (301, 0)) 200 none, .bool true, .int .i64 0, .int .u32 1, .slice (some (3635, 0)) 200 none, .bool true, .int .i64 0] 0 .yes),
  (3635, .cells (by8 [1, 0, 0, 10, 0, 0, 0, 0, 1, 0, 0, 97, 0, 0, 2, 0, 0, 97, 97, 0, 2, 0, 0, 97, 98, 0, 2, 0, 0, 97, 99, 0, 2, 0, 0, 97, 100, 0, 2, 0, 0, 97, 101, 0, 2, 0, 0, 97, 102, 0, 2, 0, 0, 97, 103, 0, 2, 0, 0, 97, 104, 0, 2, 0, 0, 97, 105] ++ (nul 133)) 1 (.of 5))] }

noncomputable def hk30F (args : List AV) (M : AMem) : Option (AV × AMem) := match hk29 19 with
  | some h => h args M
  | none => acall Tryz.prog hk29 400 19 args M

noncomputable def hk30 : Hook := fun f => match f with
  | 19 => some (cutAt [cut30] hk30F)
  | _ => hk29 f

def cut31 : Cut := {
 args := [.agg [.int .i64 9, .int .i64 200, .int .i64 8, .int .i64 8, .int .i64 16, .int .i64 16, .int .i64 2, .int .i64 1], .agg [.int .i64 1, .slice (some (3311, 0)) 2 none, .slice (some (3313, 0)) 1 none, .slice (some (3347, 0)) 15 none, .slice none 0 (some 0)]], nin := 3638,
 lin := [(1, .ro (by8 [0, 1, 56, 2, 57, 49, 28, 3, 61, 58, 42, 50, 38, 29, 17, 4, 62, 47, 59, 36, 45, 43, 51, 22, 53, 39, 33, 30, 24, 18, 12, 5, 63, 55, 48, 27, 60, 41, 37, 16, 46, 35, 44, 21, 52, 32, 23, 11, 54, 26, 40, 15, 34, 20, 31, 10, 25, 14, 19, 9, 13, 8, 7, 6])),
  (3311, .cells [.int .u32 1, .int .u32 2] 1 .yes),
  (3313, .cells [.str [105]] 1 .yes),
  (3347, .cells [.str [98], .bool false, .str [], .str [99], .bool false, .str [], .str [100], .bool false, .str [], .str [101], .bool false, .str [], .str [102], .bool false, .str [], .str [103], .bool false, .str [], .str [104], .bool false, .str [], .str [105], .bool false, .str [], .str [106], .bool false, .str [], .str [107], .bool false, .str [], .str [108], .bool false, .str [], .str [109], .bool false, .str [], .str [110], .bool false, .str [], .str [111], .bool false, .str [], .str [112], .bool false, .str []] 3 .yes)],
 v := .tup [.slice (some (4071, 0)) 200 none, .int .i64 0], nout := 4072, ldel := [],
 lset := [(4071, .cells (by8 [2, 1, 0, 2, 0, 15, 0, 0, 0, 0, 0, 1, 0, 0, 0, 2] ++ (nul 24 ++ (by8 [1, 105, 0, 0, 0, 0, 0, 0, 0, 0, 0, 0, 0, 0, 0, 0, 0, 0, 0, 0, 0, 1, 1, 0, 0, 98, 0, 0, 1, 1, 0, 0, 99, 0, 0, 1, 1, 0, 0, 100, 0, 0, 1, 1, 0, 0, 101, 0, 0, 1, 1, 0, 0, 102, 0, 0, 1, 1, 0, 0, 103, 0, 0, 1, 1, 0, 0, 104, 0, 0, 1, 1, 0, 0, 105, 0, 0, 1, 1, 0, 0, 106, 0, 0, 1, 1, 0, 0, 107, 0, 0, 1, 1, 0, 0, 108, 0, 0, 1, 1, 0, 0, 109, 0, 0, 1, 1, 0, 0, 110, 0, 0, 1, 1, 0, 0, 111, 0, 0, 1, 1, 0, 0, 112] ++ (nul 36)))) 1 (.of 5))] }

noncomputable def hk31F (args : List AV) (M : AMem) : Option (AV × AMem) := match hk30 42 with
  | some h => h args M
  | none => acall Tryz.prog hk30 400 42 args M

noncomputable def hk31 : Hook := fun f => match f with
  | 42 => some (cutAt [cut31] hk31F)
  | _ => hk30 f

def cut32 : Cut := {
 args := [.ptr (some (39, 0)), .int .u32 3, .agg [.int .i64 1, .slice (some (3311, 0)) 2 none, .slice (some (3313, 0)) 1 none, .slice (some (3347, 0)) 15 none, .slice none 0 (some 0)]], nin := 3637,
 lin := [(1, .ro (by8 [0, 1, 56, 2, 57, 49, 28, 3, 61, 58, 42, 50, 38, 29, 17, 4, 62, 47, 59, 36, 45, 43, 51, 22, 53, 39, 33, 30, 24, 18, 12, 5, 63, 55, 48, 27, 60, 41, 37, 16, 46, 35, 44, 21, 52, 32, 23, 11, 54, 26, 40, 15, 34, 20, 31, 10, 25, 14, 19, 9, 13, 8, 7, 6])),
  (3, .cells (nul 1800) 0 .yes),
  (4, .cells [.int .i64 200, .slice (some (3, 0)) 1800 (some 1800), .int .u64 0, .int .u64 0] 0 .yes),
  (15, .cells [.int .i64 0, .int .i64 0, .bool false, .int .i64 0, .int .i64 0, .bool false, .int .i64 0, .int .i64 0, .bool false, .int .i64 0, .int .i64 0, .bool false, .int .i64 0, .int .i64 0, .bool false, .int .i64 6, .int .i64 8, .bool true, .int .i64 7, .int .i64 5, .bool true, .int .i64 8, .int .i64 6, .bool true, .int .i64 5, .int .i64 7, .bool false] 0 .yes),
  (16, .cells [.slice (some (15, 0)) 9 (some 9), .int .i64 3] 0 .yes),
  (17, .cells [.int .u32 0, .slice none 0 (some 0), .bool false, .int .i64 0, .int .u32 0, .slice none 0 (some 0), .bool false, .int .i64 0, .int .u32 0, .slice none 0 (some 0), .bool false, .int .i64 0, .int .u32 0, .slice none 0 (some 0), .bool false, .int .i64 0, .int .u32 0, .slice none 0 (some 0), .bool false, .int .i64 0, .int .u32 3, .slice (some (814, 0)) 200 none, .bool true, .int .i64 0, .int .u32 2, .slice (some (301, 0)) 200 none, .bool true, .int .i64 0, .int .u32 1, .slice (some (3635, 0)) 200 none, .bool true, .int .i64 0] 0 .yes),
  (18, .map [(.int .u32 1, .int .i64 7, 0), (.int .u32 2, .int .i64 6, 1), (.int .u32 3, .int .i64 5, 2)] 3),
  (19, .cells [.ptr (some (4, 0)), .slice (some (17, 0)) 8 (some 8), .map (some 18), .slice (some (35, 0)) 5 none, .ptr (some (16, 0))] 0 .yes),
  (35, .cells [.int .i64 0, .int .i64 1, .int .i64 2, .int .i64 3, .int .i64 4, .int .i64 5, .int .i64 6, .int .i64 7] 1 .yes),
  (36, .cells [.int .u64 15] 0 .yes),
  (37, .cells [.int .i64 9, .int .i64 4, .slice (some (36, 0)) 1 (some 1)] 0 .yes),
  (38, .cells [.ptr (some (37, 0))] 0 .yes),
  (39, .cells [.int .i64 9, .int .i64 200, .int .i64 8, .int .i64 8, .int .i64 16, .int .i64 16, .int .i64 2, .int .i64 1, .ptr (some (4, 0)), .ptr (some (19, 0)), .ptr (some (38, 0)), .int .u32 0] 0 .yes),
  (301, .cells (by8 [1] ++ (nul 199)) 1 (.of 5)),
  (814, .cells (by8 [2, 1, 0, 2, 0, 16, 0, 0, 0, 0, 0, 1, 0, 0, 0, 2] ++ (nul 24 ++ (by8 [1, 105, 0, 0, 0, 0, 0, 0, 0, 0, 0, 0, 0, 0, 0, 0, 0, 0, 0, 0, 0, 1, 1, 0, 0, 97, 0, 0, 1, 1, 0, 0, 98, 0, 0, 1, 1, 0, 0, 99, 0, 0, 1, 1, 0, 0, 100, 0, 0, 1, 1, 0, 0, 101, 0, 0, 1, 1, 0, 0, 102, 0, 0, 1, 1, 0, 0, 103, 0, 0, 1, 1, 0, 0, 104, 0, 0, 1, 1, 0, 0, 105, 0, 0, 1, 1, 0, 0, 106, 0, 0, 1, 1, 0, 0, 107, 0, 0, 1, 1, 0, 0, 108, 0, 0, 1, 1, 0, 0, 109, 0, 0, 1, 1, 0, 0, 110, 0, 0, 1, 1, 0, 0, 111, 0, 0, 1, 1, 0, 0, 112] ++ (nul 29)))) 1 (.of 5)),
  (3311, .cells [.int .u32 1, .int .u32 2] 1 .yes),
  (3313, .cells [.str [105]] 1 .yes),
  (3347, .cells [.str [98], .bool false, .str [], .str [99], .bool false, .str [], .str [100], .bool false, .str [], .str [101], .bool false, .str [], .str [102], .bool false, .str [], .str [103], .bool false, .str [], .str [104], .bool false, .str [], .str [105], .bool false, .str [], .str [106], .bool false, .str [], .str [107], .bool false, .str [], .str [108], .bool false, .str [], .str [109], .bool false, .str [], .str [110], .bool false, .str [], .str [111], .bool false, .str [], .str [112], .bool false, .str []] 3 .yes),
  (3635, .cells (by8 [1, 0, 0, 10, 0, 0, 0, 0, 1, 0, 0, 97, 0, 0, 2, 0, 0, 97, 97, 0, 2, 0, 0, 97, 98, 0, 2, 0, 0, 97, 99, 0, 2, 0, 0, 97, 100, 0, 2, 0, 0, 97, 101, 0, 2, 0, 0, 97, 102, 0, 2, 0, 0, 97, 103, 0, 2, 0, 0, 97, 104, 0, 2, 0, 0, 97, 105] ++ (nul 133)) 1 (.of 5))],
 v := .int .i64 0, nout := 4078, ldel := [],
 lset := [(15, .cells [.int .i64 0, .int .i64 0, .bool false, .int .i64 0, .int .i64 0, .bool false, .int .i64 0, .int .i64 0, .bool false, .int .i64 0, .int .i64 0, .bool false, .int .i64 0, .int .i64 0, .bool false, .int .i64 8, .int .i64 7, .bool true, .int .i64 7, .int .i64 8, .bool true, .int .i64 5, .int .i64 6, .bool true, .int .i64 6, .int .i64 5, .bool false] 0 .yes),
  (17, .cells [.int .u32 0, .slice none 0 (some 0), .bool false, .int .i64 0, .int .u32 0, .slice none 0 (some 0), .bool false, .int .i64 0, .int .u32 0, .slice none 0 (some 0), .bool false, .int .i64 0, .int .u32 0, .slice none 0 (some 0), .bool false, .int .i64 0, .int .u32 0, .slice none 0 (some 0), .bool false, .int .i64 0, .int .u32 3, .slice (some (4076, 0)) 200 none, .bool true, .int .i64 0, .int .u32 2, .slice (some (301, 0)) 200 none, .bool true, .int .i64 0, .int .u32 1, .slice (some (3635, 0)) 200 none, .bool true, .int .i64 0] 0 .yes),
  (4076, .cells (by8 [2, 1, 0, 2, 0, 15, 0, 0, 0, 0, 0, 1, 0, 0, 0, 2] ++ (nul 24 ++ (by8 [1, 105, 0, 0, 0, 0, 0, 0, 0, 0, 0, 0, 0, 0, 0, 0, 0, 0, 0, 0, 0, 1, 1, 0, 0, 98, 0, 0, 1, 1, 0, 0, 99, 0, 0, 1, 1, 0, 0, 100, 0, 0, 1, 1, 0, 0, 101, 0, 0, 1, 1, 0, 0, 102, 0, 0, 1, 1, 0, 0, 103, 0, 0, 1, 1, 0, 0, 104, 0, 0, 1, 1, 0, 0, 105, 0, 0, 1, 1, 0, 0, 106, 0, 0, 1, 1, 0, 0, 107, 0, 0, 1, 1, 0, 0, 108, 0, 0, 1, 1, 0, 0, 109, 0, 0, 1, 1, 0, 0, 110, 0, 0, 1, 1, 0, 0, 111, 0, 0, 1, 1, 0, 0, 112] ++ (nul 36)))) 1 (.of 5))] }

noncomputable def hk32F (args : List AV) (M : AMem) : Option (AV × AMem) := match hk31 19 with
  | some h => h args M
  | none => acall Tryz.prog hk31 400 19 args M

noncomputable def hk32 : Hook := fun f => match f with
  | 19 => some (cutAt [cut32] hk32F)
  | _ => hk31 f

def cut33 : Cut := {
 args := [.ptr (some (3298, 0)), .ptr (some (39, 0)), .int .u32 3, .int .u32 1], nin := 3437,
 lin := [(1, .ro (by8 [0, 1, 56, 2, 57, 49, 28, 3, 61, 58, 42, 50, 38, 29, 17, 4, 62, 47, 59, 36, 45, 43, 51, 22, 53, 39, 33, 30, 24, 18, 12, 5, 63, 55, 48, 27, 60, 41, 37, 16, 46, 35, 44, 21, 52, 32, 23, 11, 54, 26, 40, 15, 34, 20, 31, 10, 25, 14, 19, 9, 13, 8, 7, 6])),
  (3, .cells (nul 1800) 0 .yes),
  (4, .cells [.int .i64 200, .slice (some (3, 0)) 1800 (some 1800), .int .u64 0, .int .u64 0] 0 .yes),
  (15, .cells [.int .i64 0, .int .i64 0, .bool false, .int .i64 0, .int .i64 0, .bool false, .int .i64 0, .int .i64 0, .bool false, .int .i64 0, .int .i64 0, .bool false, .int .i64 0, .int .i64 0, .bool false, .int .i64 7, .int .i64 8, .bool true, .int .i64 8, .int .i64 7, .bool true, .int .i64 6, .int .i64 5, .bool true, .int .i64 5, .int .i64 6, .bool false] 0 .yes),
  (16, .cells [.slice (some (15, 0)) 9 (some 9), .int .i64 3] 0 .yes),
  (17, .cells [.int .u32 0, .slice none 0 (some 0), .bool false, .int .i64 0, .int .u32 0, .slice none 0 (some 0), .bool false, .int .i64 0, .int .u32 0, .slice none 0 (some 0), .bool false, .int .i64 0, .int .u32 0, .slice none 0 (some 0), .bool false, .int .i64 0, .int .u32 0, .slice none 0 (some 0), .bool false, .int .i64 0, .int .u32 3, .slice (some (814, 0)) 200 none, .bool true, .int .i64 0, .int .u32 2, .slice (some (301, 0)) 200 none, .bool true, .int .i64 0, .int .u32 1, .slice (some (251, 0)) 200 none, .bool true, .int .i64 0] 0 .yes),
  (18, .map [(.int .u32 1, .int .i64 7, 0), (.int .u32 2, .int .i64 6, 1), (.int .u32 3, .int .i64 5, 2)] 3),
  (19, .cells [.ptr (some (4, 0)), .slice (some (17, 0)) 8 (some 8), .map (some 18), .slice (some (35, 0)) 5 none, .ptr (some (16, 0))] 0 .yes),
  (35, .cells [.int .i64 0, .int .i64 1, .int .i64 2, .int .i64 3, .int .i64 4, .int .i64 5, .int .i64 6, .int .i64 7] 1 .yes),
  (36, .cells [.int .u64 15] 0 .yes),
  (37, .cells [.int .i64 9, .int .i64 4, .slice (some (36, 0)) 1 (some 1)] 0 .yes),
  (38, .cells [.ptr (some (37, 0))] 0 .yes),
  (39, .cells [.int .i64 9, .int .i64 200, .int .i64 8, .int .i64 8, .int .i64 16, .int .i64 16, .int .i64 2, .int .i64 1, .ptr (some (4, 0)), .ptr (some (19, 0)), .ptr (some (38, 0)), .int .u32 0] 0 .yes),
  (251, .cells (by8 [1, 0, 0, 9, 0, 0, 0, 0, 2, 0, 0, 97, 97, 0, 2, 0, 0, 97, 98, 0, 2, 0, 0, 97, 99, 0, 2, 0, 0, 97, 100, 0, 2, 0, 0, 97, 101, 0, 2, 0, 0, 97, 102, 0, 2, 0, 0, 97, 103, 0, 2, 0, 0, 97, 104, 0, 2, 0, 0, 97, 105] ++ (nul 139)) 1 (.of 5)),
  (301, .cells (by8 [1] ++ (nul 199)) 1 (.of 5)),
  (814, .cells (by8 [2, 1, 0, 2, 0, 16, 0, 0, 0, 0, 0, 1, 0, 0, 0, 2] ++ (nul 24 ++ (by8 [1, 105, 0, 0, 0, 0, 0, 0, 0, 0, 0, 0, 0, 0, 0, 0, 0, 0, 0, 0, 0, 1, 1, 0, 0, 97, 0, 0, 1, 1, 0, 0, 98, 0, 0, 1, 1, 0, 0, 99, 0, 0, 1, 1, 0, 0, 100, 0, 0, 1, 1, 0, 0, 101, 0, 0, 1, 1, 0, 0, 102, 0, 0, 1, 1, 0, 0, 103, 0, 0, 1, 1, 0, 0, 104, 0, 0, 1, 1, 0, 0, 105, 0, 0, 1, 1, 0, 0, 106, 0, 0, 1, 1, 0, 0, 107, 0, 0, 1, 1, 0, 0, 108, 0, 0, 1, 1, 0, 0, 109, 0, 0, 1, 1, 0, 0, 110, 0, 0, 1, 1, 0, 0, 111, 0, 0, 1, 1, 0, 0, 112] ++ (nul 29)))) 1 (.of 5)),
  (3298, .cells [.int .i64 1, .slice (some (3311, 0)) 2 none, .slice (some (3313, 0)) 1 none, .slice (some (3347, 0)) 15 none, .slice none 0 (some 0), .int .i64 0, .slice none 0 (some 0), .slice none 0 (some 0), .slice none 0 (some 0), .slice (some (3357, 0)) 10 none, .int .i64 0] 0 .yes),
  (3311, .cells [.int .u32 1, .int .u32 2] 1 .yes),
  (3313, .cells [.str [105]] 1 .yes),
  (3347, .cells [.str [98], .bool false, .str [], .str [99], .bool false, .str [], .str [100], .bool false, .str [], .str [101], .bool false, .str [], .str [102], .bool false, .str [], .str [103], .bool false, .str [], .str [104], .bool false, .str [], .str [105], .bool false, .str [], .str [106], .bool false, .str [], .str [107], .bool false, .str [], .str [108], .bool false, .str [], .str [109], .bool false, .str [], .str [110], .bool false, .str [], .str [111], .bool false, .str [], .str [112], .bool false, .str []] 3 .yes),
  (3357, .cells [.str [97], .str [], .str [97, 97], .str [], .str [97, 98], .str [], .str [97, 99], .str [], .str [97, 100], .str [], .str [97, 101], .str [], .str [97, 102], .str [], .str [97, 103], .str [], .str [97, 104], .str [], .str [97, 105], .str []] 2 .yes)],
 v := .int .i64 0, nout := 4078, ldel := [],
 lset := [(15, .cells [.int .i64 0, .int .i64 0, .bool false, .int .i64 0, .int .i64 0, .bool false, .int .i64 0, .int .i64 0, .bool false, .int .i64 0, .int .i64 0, .bool false, .int .i64 0, .int .i64 0, .bool false, .int .i64 8, .int .i64 7, .bool true, .int .i64 7, .int .i64 8, .bool true, .int .i64 5, .int .i64 6, .bool true, .int .i64 6, .int .i64 5, .bool false] 0 .yes),
  (17, .cells [.int .u32 0, .slice none 0 (some 0), .bool false, .int .i64 0, .int .u32 0, .slice none 0 (some 0), .bool false, .int .i64 0, .int .u32 0, .slice none 0 (some 0), .bool false, .int .i64 0, .int .u32 0, .slice none 0 (some 0), .bool false, .int .i64 0, .int .u32 0, .slice none 0 (some 0), .bool false, .int .i64 0, .int .u32 3, .slice (some (4076, 0)) 200 none, .bool true, .int .i64 0, .int .u32 2, .slice (some (301, 0)) 200 none, .bool true, .int .i64 0, .int .u32 1, .slice (some (3635, 0)) 200 none, .bool true, .int .i64 0] 0 .yes),
  (3635, .cells (by8 [1, 0, 0, 10, 0, 0, 0, 0, 1, 0, 0, 97, 0, 0, 2, 0, 0, 97, 97, 0, 2, 0, 0, 97, 98, 0, 2, 0, 0, 97, 99, 0, 2, 0, 0, 97, 100, 0, 2, 0, 0, 97, 101, 0, 2, 0, 0, 97, 102, 0, 2, 0, 0, 97, 103, 0, 2, 0, 0, 97, 104, 0, 2, 0, 0, 97, 105] ++ (nul 133)) 1 (.of 5)),
  (4076, .cells (by8 [2, 1, 0, 2, 0, 15, 0, 0, 0, 0, 0, 1, 0, 0, 0, 2] ++ (nul 24 ++ (by8 [1, 105, 0, 0, 0, 0, 0, 0, 0, 0, 0, 0, 0, 0, 0, 0, 0, 0, 0, 0, 0, 1, 1, 0, 0, 98, 0, 0, 1, 1, 0, 0, 99, 0, 0, 1, 1, 0, 0, 100, 0, 0, 1, 1, 0, 0, 101, 0, 0, 1, 1, 0, 0, 102, 0, 0, 1, 1, 0, 0, 103, 0, 0, 1, 1, 0, 0, 104, 0, 0, 1, 1, 0, 0, 105, 0, 0, 1, 1, 0, 0, 106, 0, 0, 1, 1, 0, 0, 107, 0, 0, 1, 1, 0, 0, 108, 0, 0, 1, 1, 0, 0, 109, 0, 0, 1, 1, 0, 0, 110, 0, 0, 1, 1, 0, 0, 111, 0, 0, 1, 1, 0, 0, 112] ++ (nul 36)))) 1 (.of 5))] }

noncomputable def hk33F (args : List AV) (M : AMem) : Option (AV × AMem) := match hk32 80 with
  | some h => h args M
  | none => acall Tryz.prog hk32 400 80 args M

noncomputable def hk33 : Hook := fun f => match f with
  | 80 => some (cutAt [cut33] hk33F)
  | _ => hk32 f

def cut34 : Cut := {
 args := [.agg [.int .i64 9, .int .i64 200, .int .i64 8, .int .i64 8, .int .i64 16, .int .i64 16, .int .i64 2, .int .i64 1], .agg [.int .i64 0, .slice none 0 (some 0), .slice none 0 (some 0), .slice none 0 (some 0), .slice (some (3357, 0)) 10 none]], nin := 3361,
 lin := [(1, .ro (by8 [0, 1, 56, 2, 57, 49, 28, 3, 61, 58, 42, 50, 38, 29, 17, 4, 62, 47, 59, 36, 45, 43, 51, 22, 53, 39, 33, 30, 24, 18, 12, 5, 63, 55, 48, 27, 60, 41, 37, 16, 46, 35, 44, 21, 52, 32, 23, 11, 54, 26, 40, 15, 34, 20, 31, 10, 25, 14, 19, 9, 13, 8, 7, 6])),
  (3357, .cells [.str [97], .str [], .str [97, 97], .str [], .str [97, 98], .str [], .str [97, 99], .str [], .str [97, 100], .str [], .str [97, 101], .str [], .str [97, 102], .str [], .str [97, 103], .str [], .str [97, 104], .str [], .str [97, 105], .str []] 2 .yes)],
 v := .tup [.slice (some (3553, 0)) 200 none, .int .i64 0], nout := 3554, ldel := [],
 lset := [(3553, .cells (by8 [1, 0, 0, 10, 0, 0, 0, 0, 1, 0, 0, 97, 0, 0, 2, 0, 0, 97, 97, 0, 2, 0, 0, 97, 98, 0, 2, 0, 0, 97, 99, 0, 2, 0, 0, 97, 100, 0, 2, 0, 0, 97, 101, 0, 2, 0, 0, 97, 102, 0, 2, 0, 0, 97, 103, 0, 2, 0, 0, 97, 104, 0, 2, 0, 0, 97, 105] ++ (nul 133)) 1 (.of 5))] }

noncomputable def hk34F (args : List AV) (M : AMem) : Option (AV × AMem) := match hk33 42 with
  | some h => h args M
  | none => acall Tryz.prog hk33 400 42 args M

noncomputable def hk34 : Hook := fun f => match f with
  | 42 => some (cutAt [cut34] hk34F)
  | _ => hk33 f

def cut35 : Cut := {
 args := [.ptr (some (39, 0)), .int .u32 1, .agg [.int .i64 0, .slice none 0 (some 0), .slice none 0 (some 0), .slice none 0 (some 0), .slice (some (3357, 0)) 10 none]], nin := 3360,
 lin := [(1, .ro (by8 [0, 1, 56, 2, 57, 49, 28, 3, 61, 58, 42, 50, 38, 29, 17, 4, 62, 47, 59, 36, 45, 43, 51, 22, 53, 39, 33, 30, 24, 18, 12, 5, 63, 55, 48, 27, 60, 41, 37, 16, 46, 35, 44, 21, 52, 32, 23, 11, 54, 26, 40, 15, 34, 20, 31, 10, 25, 14, 19, 9, 13, 8, 7, 6])),
  (3, .cells (nul 1800) 0 .yes),
  (4, .cells [.int .i64 200, .slice (some (3, 0)) 1800 (some 1800), .int .u64 0, .int .u64 0] 0 .yes),
  (15, .cells [.int .i64 0, .int .i64 0, .bool false, .int .i64 0, .int .i64 0, .bool false, .int .i64 0, .int .i64 0, .bool false, .int .i64 0, .int .i64 0, .bool false, .int .i64 0, .int .i64 0, .bool false, .int .i64 7, .int .i64 6, .bool true, .int .i64 5, .int .i64 8, .bool true, .int .i64 8, .int .i64 5, .bool true, .int .i64 6, .int .i64 7, .bool false] 0 .yes),
  (16, .cells [.slice (some (15, 0)) 9 (some 9), .int .i64 3] 0 .yes),
  (17, .cells [.int .u32 0, .slice none 0 (some 0), .bool false, .int .i64 0, .int .u32 0, .slice none 0 (some 0), .bool false, .int .i64 0, .int .u32 0, .slice none 0 (some 0), .bool false, .int .i64 0, .int .u32 0, .slice none 0 (some 0), .bool false, .int .i64 0, .int .u32 0, .slice none 0 (some 0), .bool false, .int .i64 0, .int .u32 3, .slice (some (814, 0)) 200 none, .bool true, .int .i64 0, .int .u32 2, .slice (some (301, 0)) 200 none, .bool true, .int .i64 0, .int .u32 1, .slice (some (251, 0)) 200 none, .bool true, .int .i64 0] 0 .yes),
  (18, .map [(.int .u32 1, .int .i64 7, 0), (.int .u32 2, .int .i64 6, 1), (.int .u32 3, .int .i64 5, 2)] 3),
  (19, .cells [.ptr (some (4, 0)), .slice (some (17, 0)) 8 (some 8), .map (some 18), .slice (some (35, 0)) 5 none, .ptr (some (16, 0))] 0 .yes),
  (35, .cells [.int .i64 0, .int .i64 1, .int .i64 2, .int .i64 3, .int .i64 4, .int .i64 5, .int .i64 6, .int .i64 7] 1 .yes),
  (36, .cells [.int .u64 15] 0 .yes),
  (37, .cells [.int .i64 9, .int .i64 4, .slice (some (36, 0)) 1 (some 1)] 0 .yes),
  (38, .cells [.ptr (some (37, 0))] 0 .yes),
  (39, .cells [.int .i64 9, .int .i64 200, .int .i64 8, .int .i64 8, .int .i64 16, .int .i64 16, .int .i64 2, .int .i64 1, .ptr (some (4, 0)), .ptr (some (19, 0)), .ptr (some (38, 0)), .int .u32 0] 0 .yes),
  (251, .cells (by8 [1, 0, 0, 9, 0, 0, 0, 0, 2, 0, 0, 97, 97, 0, 2, 0, 0, 97, 98, 0, 2, 0, 0, 97, 99, 0, 2, 0, 0, 97, 100, 0, 2, 0, 0, 97, 101, 0, 2, 0, 0, 97, 102, 0, 2, 0, 0, 97, 103, 0, 2, 0, 0, 97, 104, 0, 2, 0, 0, 97, 105] ++ (nul 139)) 1 (.of 5)),
  (301, .cells (by8 [1] ++ (nul 199)) 1 (.of 5)),
  (814, .cells (by8 [2, 1, 0, 2, 0, 16, 0, 0, 0, 0, 0, 1, 0, 0, 0, 2] ++ (nul 24 ++ (by8 [1, 105, 0, 0, 0, 0, 0, 0, 0, 0, 0, 0, 0, 0, 0, 0, 0, 0, 0, 0, 0, 1, 1, 0, 0, 97, 0, 0, 1, 1, 0, 0, 98, 0, 0, 1, 1, 0, 0, 99, 0, 0, 1, 1, 0, 0, 100, 0, 0, 1, 1, 0, 0, 101, 0, 0, 1, 1, 0, 0, 102, 0, 0, 1, 1, 0, 0, 103, 0, 0, 1, 1, 0, 0, 104, 0, 0, 1, 1, 0, 0, 105, 0, 0, 1, 1, 0, 0, 106, 0, 0, 1, 1, 0, 0, 107, 0, 0, 1, 1, 0, 0, 108, 0, 0, 1, 1, 0, 0, 109, 0, 0, 1, 1, 0, 0, 110, 0, 0, 1, 1, 0, 0, 111, 0, 0, 1, 1, 0, 0, 112] ++ (nul 29)))) 1 (.of 5)),
  (3357, .cells [.str [97], .str [], .str [97, 97], .str [], .str [97, 98], .str [], .str [97, 99], .str [], .str [97, 100], .str [], .str [97, 101], .str [], .str [97, 102], .str [], .str [97, 103], .str [], .str [97, 104], .str [], .str [97, 105], .str []] 2 .yes)],
 v := .int .i64 0, nout := 3560, ldel := [],
 lset := [(17, .cells [.int .u32 0, .slice none 0 (some 0), .bool false, .int .i64 0, .int .u32 0, .slice none 0 (some 0), .bool false, .int .i64 0, .int .u32 0, .slice none 0 (some 0), .bool false, .int .i64 0, .int .u32 0, .slice none 0 (some 0), .bool false, .int .i64 0, .int .u32 0, .slice none 0 (some 0), .bool false, .int .i64 0, .int .u32 3, .slice (some (814, 0)) 200 none, .bool true, .int .i64 0, .int .u32 2, .slice (some (301, 0)) 200 none, .bool true, .int .i64 0, .int .u32 1, .slice (some (3558, 0)) 200 none, .bool true, .int .i64 0] 0 .yes),
  (3558, .cells (by8 [1, 0, 0, 10, 0, 0, 0, 0, 1, 0, 0, 97, 0, 0, 2, 0, 0, 97, 97, 0, 2, 0, 0, 97, 98, 0, 2, 0, 0, 97, 99, 0, 2, 0, 0, 97, 100, 0, 2, 0, 0, 97, 101, 0, 2, 0, 0, 97, 102, 0, 2, 0, 0, 97, 103, 0, 2, 0, 0, 97, 104, 0, 2, 0, 0, 97, 105] ++ (nul 133)) 1 (.of 5))] }

noncomputable def hk35F (args : List AV) (M : AMem) : Option (AV × AMem) := match hk34 19 with
  | some h => h args M
  | none => acall Tryz.prog hk34 400 19 args M

noncomputable def hk35 : Hook := fun f => match f with
  | 19 => some (cutAt [cut35] hk35F)
  | _ => hk34 f

def cut36 : Cut := {
 args := [.agg [.int .i64 9, .int .i64 200, .int .i64 8, .int .i64 8, .int .i64 16, .int .i64 16, .int .i64 2, .int .i64 1], .agg [.int .i64 1, .slice (some (3311, 0)) 2 none, .slice (some (3313, 0)) 1 none, .slice (some (3347, 0)) 15 none, .slice none 0 (some 0)]], nin := 3561,
 lin := [(1, .ro (by8 [0, 1, 56, 2, 57, 49, 28, 3, 61, 58, 42, 50, 38, 29, 17, 4, 62, 47, 59, 36, 45, 43, 51, 22, 53, 39, 33, 30, 24, 18, 12, 5, 63, 55, 48, 27, 60, 41, 37, 16, 46, 35, 44, 21, 52, 32, 23, 11, 54, 26, 40, 15, 34, 20, 31, 10, 25, 14, 19, 9, 13, 8, 7, 6])),
  (3311, .cells [.int .u32 1, .int .u32 2] 1 .yes),
  (3313, .cells [.str [105]] 1 .yes),
  (3347, .cells [.str [98], .bool false, .str [], .str [99], .bool false, .str [], .str [100], .bool false, .str [], .str [101], .bool false, .str [], .str [102], .bool false, .str [], .str [103], .bool false, .str [], .str [104], .bool false, .str [], .str [105], .bool false, .str [], .str [106], .bool false, .str [], .str [107], .bool false, .str [], .str [108], .bool false, .str [], .str [109], .bool false, .str [], .str [110], .bool false, .str [], .str [111], .bool false, .str [], .str [112], .bool false, .str []] 3 .yes)],
 v := .tup [.slice (some (3994, 0)) 200 none, .int .i64 0], nout := 3995, ldel := [],
 lset := [(3994, .cells (by8 [2, 1, 0, 2, 0, 15, 0, 0, 0, 0, 0, 1, 0, 0, 0, 2] ++ (nul 24 ++ (by8 [1, 105, 0, 0, 0, 0, 0, 0, 0, 0, 0, 0, 0, 0, 0, 0, 0, 0, 0, 0, 0, 1, 1, 0, 0, 98, 0, 0, 1, 1, 0, 0, 99, 0, 0, 1, 1, 0, 0, 100, 0, 0, 1, 1, 0, 0, 101, 0, 0, 1, 1, 0, 0, 102, 0, 0, 1, 1, 0, 0, 103, 0, 0, 1, 1, 0, 0, 104, 0, 0, 1, 1, 0, 0, 105, 0, 0, 1, 1, 0, 0, 106, 0, 0, 1, 1, 0, 0, 107, 0, 0, 1, 1, 0, 0, 108, 0, 0, 1, 1, 0, 0, 109, 0, 0, 1, 1, 0, 0, 110, 0, 0, 1, 1, 0, 0, 111, 0, 0, 1, 1, 0, 0, 112] ++ (nul 36)))) 1 (.of 5))] }

noncomputable def hk36F (args : List AV) (M : AMem) : Option (AV × AMem) := match hk35 42 with
  | some h => h args M
  | none => acall Tryz.prog hk35 400 42 args M

noncomputable def hk36 : Hook := fun f => match f with
  | 42 => some (cutAt [cut36] hk36F)
  | _ => hk35 f

def cut37 : Cut := {
 args := [.ptr (some (39, 0)), .int .u32 3, .agg [.int .i64 1, .slice (some (3311, 0)) 2 none, .slice (some (3313, 0)) 1 none, .slice (some (3347, 0)) 15 none, .slice none 0 (some 0)]], nin := 3560,
 lin := [(1, .ro (by8 [0, 1, 56, 2, 57, 49, 28, 3, 61, 58, 42, 50, 38, 29, 17, 4, 62, 47, 59, 36, 45, 43, 51, 22, 53, 39, 33, 30, 24, 18, 12, 5, 63, 55, 48, 27, 60, 41, 37, 16, 46, 35, 44, 21, 52, 32, 23, 11, 54, 26, 40, 15, 34, 20, 31, 10, 25, 14, 19, 9, 13, 8, 7, 6])),
  (3, .cells (nul 1800) 0 .yes),
  (4, .cells [.int .i64 200, .slice (some (3, 0)) 1800 (some 1800), .int .u64 0, .int .u64 0] 0 .yes),
  (15, .cells [.int .i64 0, .int .i64 0, .bool false, .int .i64 0, .int .i64 0, .bool false, .int .i64 0, .int .i64 0, .bool false, .int .i64 0, .int .i64 0, .bool false, .int .i64 0, .int .i64 0, .bool false, .int .i64 7, .int .i64 6, .bool true, .int .i64 5, .int .i64 8, .bool true, .int .i64 8, .int .i64 5, .bool true, .int .i64 6, .int .i64 7, .bool false] 0 .yes),
  (16, .cells [.slice (some (15, 0)) 9 (some 9), .int .i64 3] 0 .yes),
  (17, .cells [.int .u32 0, .slice none 0 (some 0), .bool false, .int .i64 0, .int .u32 0, .slice none 0 (some 0), .bool false, .int .i64 0, .int .u32 0, .slice none 0 (some 0), .bool false, .int .i64 0, .int .u32 0, .slice none 0 (some 0), .bool false, .int .i64 0, .int .u32 0, .slice none 0 (some 0), .bool false, .int .i64 0, .int .u32 3, .slice (some (814, 0)) 200 none, .bool true, .int .i64 0, .int .u32 2, .slice (some (301, 0)) 200 none, .bool true, .int .i64 0, .int .u32 1, .slice (some (3558, 0)) 200 none, .bool true, .int .i64 0] 0 .yes),
  (18, .map [(.int .u32 1, .int .i64 7, 0), (.int .u32 2, .int .i64 6, 1), (.int .u32 3, .int .i64 5, 2)] 3),
  (19, .cells [.ptr (some (4, 0)), .slice (some (17, 0)) 8 (some 8), .map (some 18), .slice (some (35, 0)) 5 none, .ptr (some (16, 0))] 0 .yes),
  (35, .cells [.int .i64 0, .int .i64 1, .int .i64 2, .int .i64 3, .int .i64 4, .int .i64 5, .int .i64 6, .int .i64 7] 1 .yes),
  (36, .cells [.int .u64 15] 0 .yes),
  (37, .cells [.int .i64 9, .int .i64 4, .slice (some (36, 0)) 1 (some 1)] 0 .yes),
  (38, .cells [.ptr (some (37, 0))] 0 .yes),
  (39, .cells [.int .i64 9, .int .i64 200, .int .i64 8, .int .i64 8, .int .i64 16, .int .i64 16, .int .i64 2, .int .i64 1, .ptr (some (4, 0)), .ptr (some (19, 0)), .ptr (some (38, 0)), .int .u32 0] 0 .yes),
  (301, .cells (by8 [1] ++ (nul 199)) 1 (.of 5)),
  (814, .cells (by8 [2, 1, 0, 2, 0, 16, 0, 0, 0, 0, 0, 1, 0, 0, 0, 2] ++ (nul 24 ++ (by8 [1, 105, 0, 0, 0, 0, 0, 0, 0, 0, 0, 0, 0, 0, 0, 0, 0, 0, 0, 0, 0, 1, 1, 0, 0, 97, 0, 0, 1, 1, 0, 0, 98, 0, 0, 1, 1, 0, 0, 99, 0, 0, 1, 1, 0, 0, 100, 0, 0, 1, 1, 0, 0, 101, 0, 0, 1, 1, 0, 0, 102, 0, 0, 1, 1, 0, 0, 103, 0, 0, 1, 1, 0, 0, 104, 0, 0, 1, 1, 0, 0, 105, 0, 0, 1, 1, 0, 0, 106, 0, 0, 1, 1, 0, 0, 107, 0, 0, 1, 1, 0, 0, 108, 0, 0, 1, 1, 0, 0, 109, 0, 0, 1, 1, 0, 0, 110, 0, 0, 1, 1, 0, 0, 111, 0, 0, 1, 1, 0, 0, 112] ++ (nul 29)))) 1 (.of 5)),
  (3311, .cells [.int .u32 1, .int .u32 2] 1 .yes),
  (3313, .cells [.str [105]] 1 .yes),
  (3347, .cells [.str [98], .bool false, .str [], .str [99], .bool false, .str [], .str [100], .bool false, .str [], .str [101], .bool false, .str [], .str [102], .bool false, .str [], .str [103], .bool false, .str [], .str [104], .bool false, .str [], .str [105], .bool false, .str [], .str [106], .bool false, .str [], .str [107], .bool false, .str [], .str [108], .bool false, .str [], .str [109], .bool false, .str [], .str [110], .bool false, .str [], .str [111], .bool false, .str [], .str [112], .bool false, .str []] 3 .yes),
  (3558, .cells (by8 [1, 0, 0, 10, 0, 0, 0, 0, 1, 0, 0, 97, 0, 0, 2, 0, 0, 97, 97, 0, 2, 0, 0, 97, 98, 0, 2, 0, 0, 97, 99, 0, 2, 0, 0, 97, 100, 0, 2, 0, 0, 97, 101, 0, 2, 0, 0, 97, 102, 0, 2, 0, 0, 97, 103, 0, 2, 0, 0, 97, 104, 0, 2, 0, 0, 97, 105] ++ (nul 133)) 1 (.of 5))],
 v := .int .i64 0, nout := 4001, ldel := [],
 lset := [(15, .cells [.int .i64 0, .int .i64 0, .bool false, .int .i64 0, .int .i64 0, .bool false, .int .i64 0, .int .i64 0, .bool false, .int .i64 0, .int .i64 0, .bool false, .int .i64 0, .int .i64 0, .bool false, .int .i64 8, .int .i64 7, .bool true, .int .i64 7, .int .i64 8, .bool true, .int .i64 5, .int .i64 6, .bool true, .int .i64 6, .int .i64 5, .bool false] 0 .yes),
  (17, .cells [.int .u32 0, .slice none 0 (some 0), .bool false, .int .i64 0, .int .u32 0, .slice none 0 (some 0), .bool false, .int .i64 0, .int .u32 0, .slice none 0 (some 0), .bool false, .int .i64 0, .int .u32 0, .slice none 0 (some 0), .bool false, .int .i64 0, .int .u32 0, .slice none 0 (some 0), .bool false, .int .i64 0, .int .u32 3, .slice (some (3999, 0)) 200 none, .bool true, .int .i64 0, .int .u32 2, .slice (some (301, 0)) 200 none, .bool true, .int .i64 0, .int .u32 1, .slice (some (3558, 0)) 200 none, .bool true, .int .i64 0] 0 .yes),
  (3999, .cells (by8 [2, 1, 0, 2, 0, 15, 0, 0, 0, 0, 0, 1, 0, 0, 0, 2] ++ (nul 24 ++ (by8 [1, 105, 0, 0, 0, 0, 0, 0, 0, 0, 0, 0, 0, 0, 0, 0, 0, 0, 0, 0, 0, 1, 1, 0, 0, 98, 0, 0, 1, 1, 0, 0, 99, 0, 0, 1, 1, 0, 0, 100, 0, 0, 1, 1, 0, 0, 101, 0, 0, 1, 1, 0, 0, 102, 0, 0, 1, 1, 0, 0, 103, 0, 0, 1, 1, 0, 0, 104, 0, 0, 1, 1, 0, 0, 105, 0, 0, 1, 1, 0, 0, 106, 0, 0, 1, 1, 0, 0, 107, 0, 0, 1, 1, 0, 0, 108, 0, 0, 1, 1, 0, 0, 109, 0, 0, 1, 1, 0, 0, 110, 0, 0, 1, 1, 0, 0, 111, 0, 0, 1, 1, 0, 0, 112] ++ (nul 36)))) 1 (.of 5))] }

noncomputable def hk37F (args : List AV) (M : AMem) : Option (AV × AMem) := match hk36 19 with
  | some h => h args M
  | none => acall Tryz.prog hk36 400 19 args M

noncomputable def hk37 : Hook := fun f => match f with
  | 19 => some (cutAt [cut37] hk37F)
  | _ => hk36 f

def cut38 : Cut := {
 args := [.ptr (some (3298, 0)), .ptr (some (39, 0)), .int .u32 3, .int .u32 1], nin := 3360,
 lin := [(1, .ro (by8 [0, 1, 56, 2, 57, 49, 28, 3, 61, 58, 42, 50, 38, 29, 17, 4, 62, 47, 59, 36, 45, 43, 51, 22, 53, 39, 33, 30, 24, 18, 12, 5, 63, 55, 48, 27, 60, 41, 37, 16, 46, 35, 44, 21, 52, 32, 23, 11, 54, 26, 40, 15, 34, 20, 31, 10, 25, 14, 19, 9, 13, 8, 7, 6])),
  (3, .cells (nul 1800) 0 .yes),
  (4, .cells [.int .i64 200, .slice (some (3, 0)) 1800 (some 1800), .int .u64 0, .int .u64 0] 0 .yes),
  (15, .cells [.int .i64 0, .int .i64 0, .bool false, .int .i64 0, .int .i64 0, .bool false, .int .i64 0, .int .i64 0, .bool false, .int .i64 0, .int .i64 0, .bool false, .int .i64 0, .int .i64 0, .bool false, .int .i64 7, .int .i64 6, .bool true, .int .i64 5, .int .i64 8, .bool true, .int .i64 8, .int .i64 5, .bool true, .int .i64 6, .int .i64 7, .bool false] 0 .yes),
  (16, .cells [.slice (some (15, 0)) 9 (some 9), .int .i64 3] 0 .yes),
  (17, .cells [.int .u32 0, .slice none 0 (some 0), .bool false, .int .i64 0, .int .u32 0, .slice none 0 (some 0), .bool false, .int .i64 0, .int .u32 0, .slice none 0 (some 0), .bool false, .int .i64 0, .int .u32 0, .slice none 0 (some 0), .bool false, .int .i64 0, .int .u32 0, .slice none 0 (some 0), .bool false, .int .i64 0, .int .u32 3, .slice (some (814, 0)) 200 none, .bool true, .int .i64 0, .int .u32 2, .slice (some (301, 0)) 200 none, .bool true, .int .i64 0, .int .u32 1, .slice (some (251, 0)) 200 none, .bool true, .int .i64 0] 0 .yes),
  (18, .map [(.int .u32 1, .int .i64 7, 0), (.int .u32 2, .int .i64 6, 1), (.int .u32 3, .int .i64 5, 2)] 3),
  (19, .cells [.ptr (some (4, 0)), .slice (some (17, 0)) 8 (some 8), .map (some 18), .slice (some (35, 0)) 5 none, .ptr (some (16, 0))] 0 .yes),
  (35, .cells [.int .i64 0, .int .i64 1, .int .i64 2, .int .i64 3, .int .i64 4, .int .i64 5, .int .i64 6, .int .i64 7] 1 .yes),
  (36, .cells [.int .u64 15] 0 .yes),
  (37, .cells [.int .i64 9, .int .i64 4, .slice (some (36, 0)) 1 (some 1)] 0 .yes),
  (38, .cells [.ptr (some (37, 0))] 0 .yes),
  (39, .cells [.int .i64 9, .int .i64 200, .int .i64 8, .int .i64 8, .int .i64 16, .int .i64 16, .int .i64 2, .int .i64 1, .ptr (some (4, 0)), .ptr (some (19, 0)), .ptr (some (38, 0)), .int .u32 0] 0 .yes),
  (251, .cells (by8 [1, 0, 0, 9, 0, 0, 0, 0, 2, 0, 0, 97, 97, 0, 2, 0, 0, 97, 98, 0, 2, 0, 0, 97, 99, 0, 2, 0, 0, 97, 100, 0, 2, 0, 0, 97, 101, 0, 2, 0, 0, 97, 102, 0, 2, 0, 0, 97, 103, 0, 2, 0, 0, 97, 104, 0, 2, 0, 0, 97, 105] ++ (nul 139)) 1 (.of 5)),
  (301, .cells (by8 [1] ++ (nul 199)) 1 (.of 5)),
  (814, .cells (by8 [2, 1, 0, 2, 0, 16, 0, 0, 0, 0, 0, 1, 0, 0, 0, 2] ++ (nul 24 ++ (by8 [1, 105, 0, 0, 0, 0, 0, 0, 0, 0, 0, 0, 0, 0, 0, 0, 0, 0, 0, 0, 0, 1, 1, 0, 0, 97, 0, 0, 1, 1, 0, 0, 98, 0, 0, 1, 1, 0, 0, 99, 0, 0, 1, 1, 0, 0, 100, 0, 0, 1, 1, 0, 0, 101, 0, 0, 1, 1, 0, 0, 102, 0, 0, 1, 1, 0, 0, 103, 0, 0, 1, 1, 0, 0, 104, 0, 0, 1, 1, 0, 0, 105, 0, 0, 1, 1, 0, 0, 106, 0, 0, 1, 1, 0, 0, 107, 0, 0, 1, 1, 0, 0, 108, 0, 0, 1, 1, 0, 0, 109, 0, 0, 1, 1, 0, 0, 110, 0, 0, 1, 1, 0, 0, 111, 0, 0, 1, 1, 0, 0, 112] ++ (nul 29)))) 1 (.of 5)),
  (3298, .cells [.int .i64 1, .slice (some (3311, 0)) 2 none, .slice (some (3313, 0)) 1 none, .slice (some (3347, 0)) 15 none, .slice none 0 (some 0), .int .i64 0, .slice none 0 (some 0), .slice none 0 (some 0), .slice none 0 (some 0), .slice (some (3357, 0)) 10 none, .int .i64 0] 0 .yes),
  (3311, .cells [.int .u32 1, .int .u32 2] 1 .yes),
  (3313, .cells [.str [105]] 1 .yes),
  (3347, .cells [.str [98], .bool false, .str [], .str [99], .bool false, .str [], .str [100], .bool false, .str [], .str [101], .bool false, .str [], .str [102], .bool false, .str [], .str [103], .bool false, .str [], .str [104], .bool false, .str [], .str [105], .bool false, .str [], .str [106], .bool false, .str [], .str [107], .bool false, .str [], .str [108], .bool false, .str [], .str [109], .bool false, .str [], .str [110], .bool false, .str [], .str [111], .bool false, .str [], .str [112], .bool false, .str []] 3 .yes),
  (3357, .cells [.str [97], .str [], .str [97, 97], .str [], .str [97, 98], .str [], .str [97, 99], .str [], .str [97, 100], .str [], .str [97, 101], .str [], .str [97, 102], .str [], .str [97, 103], .str [], .str [97, 104], .str [], .str [97, 105], .str []] 2 .yes)],
 v := .int .i64 0, nout := 4001, ldel := [],
 lset := [(15, .cells [.int .i64 0, .int .i64 0, .bool false, .int .i64 0, .int .i64 0, .bool false, .int .i64 0, .int .i64 0, .bool false, .int .i64 0, .int .i64 0, .bool false, .int .i64 0, .int .i64 0, .bool false, .int .i64 8, .int .i64 7, .bool true, .int .i64 7, .int .i64 8, .bool true, .int .i64 5, .int .i64 6, .bool true, .int .i64 6, .int .i64 5, .bool false] 0 .yes),
  (17, .cells [.int .u32 0, .slice none 0 (some 0), .bool false, .int .i64 0, .int .u32 0, .slice none 0 (some 0), .bool false, .int .i64 0, .int .u32 0, .slice none 0 (some 0), .bool false, .int .i64 0, .int .u32 0, .slice none 0 (some 0), .bool false, .int .i64 0, .int .u32 0, .slice none 0 (some 0), .bool false, .int .i64 0, .int .u32 3, .slice (some (3999, 0)) 200 none, .bool true, .int .i64 0, .int .u32 2, .slice (some (301, 0)) 200 none, .bool true, .int .i64 0, .int .u32 1, .slice (some (3558, 0)) 200 none, .bool true, .int .i64 0] 0 .yes),
  (3558, .cells (by8 [1, 0, 0, 10, 0, 0, 0, 0, 1, 0, 0, 97, 0, 0, 2, 0, 0, 97, 97, 0, 2, 0, 0, 97, 98, 0, 2, 0, 0, 97, 99, 0, 2, 0, 0, 97, 100, 0, 2, 0, 0, 97, 101, 0, 2, 0, 0, 97, 102, 0, 2, 0, 0, 97, 103, 0, 2, 0, 0, 97, 104, 0, 2, 0, 0, 97, 105] ++ (nul 133)) 1 (.of 5)),
  (3999, .cells (by8 [2, 1, 0, 2, 0, 15, 0, 0, 0, 0, 0, 1, 0, 0, 0, 2] ++ (nul 24 ++ (by8 [1, 105, 0, 0, 0, 0, 0, 0, 0, 0, 0, 0, 0, 0, 0, 0, 0, 0, 0, 0, 0, 1, 1, 0, 0, 98, 0, 0, 1, 1, 0, 0, 99, 0, 0, 1, 1, 0, 0, 100, 0, 0, 1, 1, 0, 0, 101, 0, 0, 1, 1, 0, 0, 102, 0, 0, 1, 1, 0, 0, 103, 0, 0, 1, 1, 0, 0, 104, 0, 0, 1, 1, 0, 0, 105, 0, 0, 1, 1, 0, 0, 106, 0, 0, 1, 1, 0, 0, 107, 0, 0, 1, 1, 0, 0, 108, 0, 0, 1, 1, 0, 0, 109, 0, 0, 1, 1, 0, 0, 110, 0, 0, 1, 1, 0, 0, 111, 0, 0, 1, 1, 0, 0, 112] ++ (nul 36)))) 1 (.of 5))] }

noncomputable def hk38F (args : List AV) (M : AMem) : Option (AV × AMem) := match hk37 80 with
  | some h => h args M
  | none => acall Tryz.prog hk37 400 80 args M

noncomputable def hk38 : Hook := fun f => match f with
  | 80 => some (cutAt [cut38] hk38F)
  | _ => hk37 f

def cut39 : Cut := {
 args := [.ptr (some (39, 0)), .int .u32 3, .int .u32 1], nin := 2389,
 lin := [(1, .ro (by8 [0, 1, 56, 2, 57, 49, 28, 3, 61, 58, 42, 50, 38, 29, 17, 4, 62, 47, 59, 36, 45, 43, 51, 22, 53, 39, 33, 30, 24, 18, 12, 5, 63, 55, 48, 27, 60, 41, 37, 16, 46, 35, 44, 21, 52, 32, 23, 11, 54, 26, 40, 15, 34, 20, 31, 10, 25, 14, 19, 9, 13, 8, 7, 6])),
  (3, .cells (nul 1800) 0 .yes),
  (4, .cells [.int .i64 200, .slice (some (3, 0)) 1800 (some 1800), .int .u64 0, .int .u64 0] 0 .yes),
  (15, .cells [.int .i64 0, .int .i64 0, .bool false, .int .i64 0, .int .i64 0, .bool false, .int .i64 0, .int .i64 0, .bool false, .int .i64 0, .int .i64 0, .bool false, .int .i64 0, .int .i64 0, .bool false, .int .i64 7, .int .i64 6, .bool true, .int .i64 5, .int .i64 8, .bool true, .int .i64 8, .int .i64 5, .bool true, .int .i64 6, .int .i64 7, .bool false] 0 .yes),
  (16, .cells [.slice (some (15, 0)) 9 (some 9), .int .i64 3] 0 .yes),
  (17, .cells [.int .u32 0, .slice none 0 (some 0), .bool false, .int .i64 0, .int .u32 0, .slice none 0 (some 0), .bool false, .int .i64 0, .int .u32 0, .slice none 0 (some 0), .bool false, .int .i64 0, .int .u32 0, .slice none 0 (some 0), .bool false, .int .i64 0, .int .u32 0, .slice none 0 (some 0), .bool false, .int .i64 0, .int .u32 3, .slice (some (814, 0)) 200 none, .bool true, .int .i64 0, .int .u32 2, .slice (some (301, 0)) 200 none, .bool true, .int .i64 0, .int .u32 1, .slice (some (251, 0)) 200 none, .bool true, .int .i64 0] 0 .yes),
  (18, .map [(.int .u32 1, .int .i64 7, 0), (.int .u32 2, .int .i64 6, 1), (.int .u32 3, .int .i64 5, 2)] 3),
  (19, .cells [.ptr (some (4, 0)), .slice (some (17, 0)) 8 (some 8), .map (some 18), .slice (some (35, 0)) 5 none, .ptr (some (16, 0))] 0 .yes),
  (35, .cells [.int .i64 0, .int .i64 1, .int .i64 2, .int .i64 3, .int .i64 4, .int .i64 5, .int .i64 6, .int .i64 7] 1 .yes),
  (36, .cells [.int .u64 15] 0 .yes),
  (37, .cells [.int .i64 9, .int .i64 4, .slice (some (36, 0)) 1 (some 1)] 0 .yes),
  (38, .cells [.ptr (some (37, 0))] 0 .yes),
  (39, .cells [.int .i64 9, .int .i64 200, .int .i64 8, .int .i64 8, .int .i64 16, .int .i64 16, .int .i64 2, .int .i64 1, .ptr (some (4, 0)), .ptr (some (19, 0)), .ptr (some (38, 0)), .int .u32 0] 0 .yes),
  (251, .cells (by8 [1, 0, 0, 9, 0, 0, 0, 0, 2, 0, 0, 97, 97, 0, 2, 0, 0, 97, 98, 0, 2, 0, 0, 97, 99, 0, 2, 0, 0, 97, 100, 0, 2, 0, 0, 97, 101, 0, 2, 0, 0, 97, 102, 0, 2, 0, 0, 97, 103, 0, 2, 0, 0, 97, 104, 0, 2, 0, 0, 97, 105] ++ (nul 139)) 1 (.of 5)),
  (301, .cells (by8 [1] ++ (nul 199)) 1 (.of 5)),
  (814, .cells (by8 [2, 1, 0, 2, 0, 16, 0, 0, 0, 0, 0, 1, 0, 0, 0, 2] ++ (nul 24 ++ (by8 [1, 105, 0, 0, 0, 0, 0, 0, 0, 0, 0, 0, 0, 0, 0, 0, 0, 0, 0, 0, 0, 1, 1, 0, 0, 97, 0, 0, 1, 1, 0, 0, 98, 0, 0, 1, 1, 0, 0, 99, 0, 0, 1, 1, 0, 0, 100, 0, 0, 1, 1, 0, 0, 101, 0, 0, 1, 1, 0, 0, 102, 0, 0, 1, 1, 0, 0, 103, 0, 0, 1, 1, 0, 0, 104, 0, 0, 1, 1, 0, 0, 105, 0, 0, 1, 1, 0, 0, 106, 0, 0, 1, 1, 0, 0, 107, 0, 0, 1, 1, 0, 0, 108, 0, 0, 1, 1, 0, 0, 109, 0, 0, 1, 1, 0, 0, 110, 0, 0, 1, 1, 0, 0, 111, 0, 0, 1, 1, 0, 0, 112] ++ (nul 29)))) 1 (.of 5))],
 v := .tup [.int .i64 1, .int .i64 0], nout := 4001, ldel := [],
 lset := [(15, .cells [.int .i64 0, .int .i64 0, .bool false, .int .i64 0, .int .i64 0, .bool false, .int .i64 0, .int .i64 0, .bool false, .int .i64 0, .int .i64 0, .bool false, .int .i64 0, .int .i64 0, .bool false, .int .i64 8, .int .i64 7, .bool true, .int .i64 7, .int .i64 8, .bool true, .int .i64 5, .int .i64 6, .bool true, .int .i64 6, .int .i64 5, .bool false] 0 .yes),
  (17, .cells [.int .u32 0, .slice none 0 (some 0), .bool false, .int .i64 0, .int .u32 0, .slice none 0 (some 0), .bool false, .int .i64 0, .int .u32 0, .slice none 0 (some 0), .bool false, .int .i64 0, .int .u32 0, .slice none 0 (some 0), .bool false, .int .i64 0, .int .u32 0, .slice none 0 (some 0), .bool false, .int .i64 0, .int .u32 3, .slice (some (3999, 0)) 200 none, .bool true, .int .i64 0, .int .u32 2, .slice (some (301, 0)) 200 none, .bool true, .int .i64 0, .int .u32 1, .slice (some (3558, 0)) 200 none, .bool true, .int .i64 0] 0 .yes),
  (3558, .cells (by8 [1, 0, 0, 10, 0, 0, 0, 0, 1, 0, 0, 97, 0, 0, 2, 0, 0, 97, 97, 0, 2, 0, 0, 97, 98, 0, 2, 0, 0, 97, 99, 0, 2, 0, 0, 97, 100, 0, 2, 0, 0, 97, 101, 0, 2, 0, 0, 97, 102, 0, 2, 0, 0, 97, 103, 0, 2, 0, 0, 97, 104, 0, 2, 0, 0, 97, 105] ++ (nul 133)) 1 (.of 5)),
  (3999, .cells (by8 [2, 1, 0, 2, 0, 15, 0, 0, 0, 0, 0, 1, 0, 0, 0, 2] ++ (nul 24 ++ (by8 [1, 105, 0, 0, 0, 0, 0, 0, 0, 0, 0, 0, 0, 0, 0, 0, 0, 0, 0, 0, 0, 1, 1, 0, 0, 98, 0, 0, 1, 1, 0, 0, 99, 0, 0, 1, 1, 0, 0, 100, 0, 0, 1, 1, 0, 0, 101, 0, 0, 1, 1, 0, 0, 102, 0, 0, 1, 1, 0, 0, 103, 0, 0, 1, 1, 0, 0, 104, 0, 0, 1, 1, 0, 0, 105, 0, 0, 1, 1, 0, 0, 106, 0, 0, 1, 1, 0, 0, 107, 0, 0, 1, 1, 0, 0, 108, 0, 0, 1, 1, 0, 0, 109, 0, 0, 1, 1, 0, 0, 110, 0, 0, 1, 1, 0, 0, 111, 0, 0, 1, 1, 0, 0, 112] ++ (nul 36)))) 1 (.of 5))] }

noncomputable def hk39F (args : List AV) (M : AMem) : Option (AV × AMem) := match hk38 47 with
  | some h => h args M
  | none => acall Tryz.prog hk38 400 47 args M

noncomputable def hk39 : Hook := fun f => match f with
  | 47 => some (cutAt [cut39] hk39F)
  | _ => hk38 f

def cut40 : Cut := {
 args := [.agg [.int .i64 9, .int .i64 200, .int .i64 8, .int .i64 8, .int .i64 16, .int .i64 16, .int .i64 2, .int .i64 1], .agg [.int .i64 1, .slice (some (4035, 0)) 2 none, .slice (some (4045, 0)) 1 none, .slice (some (4177, 0)) 15 none, .slice none 0 (some 0)]], nin := 4178,
 lin := [(1, .ro (by8 [0, 1, 56, 2, 57, 49, 28, 3, 61, 58, 42, 50, 38, 29, 17, 4, 62, 47, 59, 36, 45, 43, 51, 22, 53, 39, 33, 30, 24, 18, 12, 5, 63, 55, 48, 27, 60, 41, 37, 16, 46, 35, 44, 21, 52, 32, 23, 11, 54, 26, 40, 15, 34, 20, 31, 10, 25, 14, 19, 9, 13, 8, 7, 6])),
  (4035, .cells [.int .u32 1, .int .u32 2] 1 .yes),
  (4045, .cells [.str [105]] 1 .yes),
  (4177, .cells [.str [98], .bool false, .str [], .str [99], .bool false, .str [], .str [100], .bool false, .str [], .str [101], .bool false, .str [], .str [102], .bool false, .str [], .str [103], .bool false, .str [], .str [104], .bool false, .str [], .str [105], .bool false, .str [], .str [106], .bool false, .str [], .str [107], .bool false, .str [], .str [108], .bool false, .str [], .str [109], .bool false, .str [], .str [110], .bool false, .str [], .str [111], .bool false, .str [], .str [112], .bool false, .str []] 3 .yes)],
 v := .tup [.slice (some (4611, 0)) 200 none, .int .i64 0], nout := 4612, ldel := [],
 lset := [(4611, .cells (by8 [2, 1, 0, 2, 0, 15, 0, 0, 0, 0, 0, 1, 0, 0, 0, 2] ++ (nul 24 ++ (by8 [1, 105, 0, 0, 0, 0, 0, 0, 0, 0, 0, 0, 0, 0, 0, 0, 0, 0, 0, 0, 0, 1, 1, 0, 0, 98, 0, 0, 1, 1, 0, 0, 99, 0, 0, 1, 1, 0, 0, 100, 0, 0, 1, 1, 0, 0, 101, 0, 0, 1, 1, 0, 0, 102, 0, 0, 1, 1, 0, 0, 103, 0, 0, 1, 1, 0, 0, 104, 0, 0, 1, 1, 0, 0, 105, 0, 0, 1, 1, 0, 0, 106, 0, 0, 1, 1, 0, 0, 107, 0, 0, 1, 1, 0, 0, 108, 0, 0, 1, 1, 0, 0, 109, 0, 0, 1, 1, 0, 0, 110, 0, 0, 1, 1, 0, 0, 111, 0, 0, 1, 1, 0, 0, 112] ++ (nul 36)))) 1 (.of 5))] }

noncomputable def hk40F (args : List AV) (M : AMem) : Option (AV × AMem) := match hk39 42 with
  | some h => h args M
  | none => acall Tryz.prog hk39 400 42 args M

noncomputable def hk40 : Hook := fun f => match f with
  | 42 => some (cutAt [cut40] hk40F)
  | _ => hk39 f

def cut41 : Cut := {
 args := [.agg [.int .i64 9, .int .i64 200, .int .i64 8, .int .i64 8, .int .i64 16, .int .i64 16, .int .i64 2, .int .i64 1], .slice (some (4006, 0)) 200 none], nin := 4007,
 lin := [(1, .ro (by8 [0, 1, 56, 2, 57, 49, 28, 3, 61, 58, 42, 50, 38, 29, 17, 4, 62, 47, 59, 36, 45, 43, 51, 22, 53, 39, 33, 30, 24, 18, 12, 5, 63, 55, 48, 27, 60, 41, 37, 16, 46, 35, 44, 21, 52, 32, 23, 11, 54, 26, 40, 15, 34, 20, 31, 10, 25, 14, 19, 9, 13, 8, 7, 6])),
  (4006, .cells (by8 [2, 1, 0, 2, 0, 15, 0, 0, 0, 0, 0, 1, 0, 0, 0, 2] ++ (nul 24 ++ (by8 [1, 105, 0, 0, 0, 0, 0, 0, 0, 0, 0, 0, 0, 0, 0, 0, 0, 0, 0, 0, 0, 1, 1, 0, 0, 98, 0, 0, 1, 1, 0, 0, 99, 0, 0, 1, 1, 0, 0, 100, 0, 0, 1, 1, 0, 0, 101, 0, 0, 1, 1, 0, 0, 102, 0, 0, 1, 1, 0, 0, 103, 0, 0, 1, 1, 0, 0, 104, 0, 0, 1, 1, 0, 0, 105, 0, 0, 1, 1, 0, 0, 106, 0, 0, 1, 1, 0, 0, 107, 0, 0, 1, 1, 0, 0, 108, 0, 0, 1, 1, 0, 0, 109, 0, 0, 1, 1, 0, 0, 110, 0, 0, 1, 1, 0, 0, 111, 0, 0, 1, 1, 0, 0, 112] ++ (nul 36)))) 1 (.of 5))],
 v := .tup [.agg [.int .i64 1, .slice (some (4035, 0)) 2 none, .slice (some (4045, 0)) 1 none, .slice (some (4177, 0)) 15 none, .slice none 0 (some 0)], .int .i64 0], nout := 4612, ldel := [],
 lset := [(4035, .cells [.int .u32 1, .int .u32 2] 1 .yes),
  (4045, .cells [.str [105]] 1 .yes),
  (4177, .cells [.str [98], .bool false, .str [], .str [99], .bool false, .str [], .str [100], .bool false, .str [], .str [101], .bool false, .str [], .str [102], .bool false, .str [], .str [103], .bool false, .str [], .str [104], .bool false, .str [], .str [105], .bool false, .str [], .str [106], .bool false, .str [], .str [107], .bool false, .str [], .str [108], .bool false, .str [], .str [109], .bool false, .str [], .str [110], .bool false, .str [], .str [111], .bool false, .str [], .str [112], .bool false, .str []] 3 .yes)] }

noncomputable def hk41F (args : List AV) (M : AMem) : Option (AV × AMem) := match hk40 32 with
  | some h => h args M
  | none => acall Tryz.prog hk40 400 32 args M

noncomputable def hk41 : Hook := fun f => match f with
  | 32 => some (cutAt [cut41] hk41F)
  | _ => hk40 f

def cut42 : Cut := {
 args := [.ptr (some (39, 0)), .int .u32 3], nin := 4004,
 lin := [(1, .ro (by8 [0, 1, 56, 2, 57, 49, 28, 3, 61, 58, 42, 50, 38, 29, 17, 4, 62, 47, 59, 36, 45, 43, 51, 22, 53, 39, 33, 30, 24, 18, 12, 5, 63, 55, 48, 27, 60, 41, 37, 16, 46, 35, 44, 21, 52, 32, 23, 11, 54, 26, 40, 15, 34, 20, 31, 10, 25, 14, 19, 9, 13, 8, 7, 6])),
  (3, .cells (nul 1800) 0 .yes),
  (4, .cells [.int .i64 200, .slice (some (3, 0)) 1800 (some 1800), .int .u64 0, .int .u64 0] 0 .yes),
  (15, .cells [.int .i64 0, .int .i64 0, .bool false, .int .i64 0, .int .i64 0, .bool false, .int .i64 0, .int .i64 0, .bool false, .int .i64 0, .int .i64 0, .bool false, .int .i64 0, .int .i64 0, .bool false, .int .i64 0, .int .i64 0, .bool false, .int .i64 7, .int .i64 8, .bool true, .int .i64 8, .int .i64 6, .bool true, .int .i64 6, .int .i64 7, .bool false] 0 .yes),
  (16, .cells [.slice (some (15, 0)) 9 (some 9), .int .i64 2] 0 .yes),
  (17, .cells [.int .u32 0, .slice none 0 (some 0), .bool false, .int .i64 0, .int .u32 0, .slice none 0 (some 0), .bool false, .int .i64 0, .int .u32 0, .slice none 0 (some 0), .bool false, .int .i64 0, .int .u32 0, .slice none 0 (some 0), .bool false, .int .i64 0, .int .u32 0, .slice none 0 (some 0), .bool false, .int .i64 0, .int .u32 3, .slice (some (3999, 0)) 200 none, .bool true, .int .i64 1, .int .u32 2, .slice (some (301, 0)) 200 none, .bool true, .int .i64 0, .int .u32 1, .slice (some (3558, 0)) 200 none, .bool true, .int .i64 0] 0 .yes),
  (18, .map [(.int .u32 1, .int .i64 7, 0), (.int .u32 2, .int .i64 6, 1), (.int .u32 3, .int .i64 5, 2)] 3),
  (19, .cells [.ptr (some (4, 0)), .slice (some (17, 0)) 8 (some 8), .map (some 18), .slice (some (35, 0)) 5 none, .ptr (some (16, 0))] 0 .yes),
  (35, .cells [.int .i64 0, .int .i64 1, .int .i64 2, .int .i64 3, .int .i64 4, .int .i64 5, .int .i64 6, .int .i64 7] 1 .yes),
  (36, .cells [.int .u64 15] 0 .yes),
  (37, .cells [.int .i64 9, .int .i64 4, .slice (some (36, 0)) 1 (some 1)] 0 .yes),
  (38, .cells [.ptr (some (37, 0))] 0 .yes),
  (39, .cells [.int .i64 9, .int .i64 200, .int .i64 8, .int .i64 8, .int .i64 16, .int .i64 16, .int .i64 2, .int .i64 1, .ptr (some (4, 0)), .ptr (some (19, 0)), .ptr (some (38, 0)), .int .u32 3] 0 .yes),
  (301, .cells (by8 [1] ++ (nul 199)) 1 (.of 5)),
  (3558, .cells (by8 [1, 0, 0, 10, 0, 0, 0, 0, 1, 0, 0, 97, 0, 0, 2, 0, 0, 97, 97, 0, 2, 0, 0, 97, 98, 0, 2, 0, 0, 97, 99, 0, 2, 0, 0, 97, 100, 0, 2, 0, 0, 97, 101, 0, 2, 0, 0, 97, 102, 0, 2, 0, 0, 97, 103, 0, 2, 0, 0, 97, 104, 0, 2, 0, 0, 97, 105] ++ (nul 133)) 1 (.of 5)),
  (3999, .cells (by8 [2, 1, 0, 2, 0, 15, 0, 0, 0, 0, 0, 1, 0, 0, 0, 2] ++ (nul 24 ++ (by8 [1, 105, 0, 0, 0, 0, 0, 0, 0, 0, 0, 0, 0, 0, 0, 0, 0, 0, 0, 0, 0, 1, 1, 0, 0, 98, 0, 0, 1, 1, 0, 0, 99, 0, 0, 1, 1, 0, 0, 100, 0, 0, 1, 1, 0, 0, 101, 0, 0, 1, 1, 0, 0, 102, 0, 0, 1, 1, 0, 0, 103, 0, 0, 1, 1, 0, 0, 104, 0, 0, 1, 1, 0, 0, 105, 0, 0, 1, 1, 0, 0, 106, 0, 0, 1, 1, 0, 0, 107, 0, 0, 1, 1, 0, 0, 108, 0, 0, 1, 1, 0, 0, 109, 0, 0, 1, 1, 0, 0, 110, 0, 0, 1, 1, 0, 0, 111, 0, 0, 1, 1, 0, 0, 112] ++ (nul 36)))) 1 (.of 5))],
 v := .tup [.agg [.int .i64 1, .slice (some (4035, 0)) 2 none, .slice (some (4045, 0)) 1 none, .slice (some (4177, 0)) 15 none, .slice none 0 (some 0)], .int .i64 0], nout := 4612, ldel := [],
 lset := [(4035, .cells [.int .u32 1, .int .u32 2] 1 .yes),
  (4045, .cells [.str [105]] 1 .yes),
  (4177, .cells [.str [98], .bool false, .str [], .str [99], .bool false, .str [], .str [100], .bool false, .str [], .str [101], .bool false, .str [], .str [102], .bool false, .str [], .str [103], .bool false, .str [], .str [104], .bool false, .str [], .str [105], .bool false, .str [], .str [106], .bool false, .str [], .str [107], .bool false, .str [], .str [108], .bool false, .str [], .str [109], .bool false, .str [], .str [110], .bool false, .str [], .str [111], .bool false, .str [], .str [112], .bool false, .str []] 3 .yes)] }

noncomputable def hk42F (args : List AV) (M : AMem) : Option (AV × AMem) := match hk41 12 with
  | some h => h args M
  | none => acall Tryz.prog hk41 400 12 args M

noncomputable def hk42 : Hook := fun f => match f with
  | 12 => some (cutAt [cut42] hk42F)
  | _ => hk41 f

def cut43 : Cut := {
 args := [.ptr (some (39, 0)), .int .u32 3], nin := 816,
 lin := [(1, .ro (by8 [0, 1, 56, 2, 57, 49, 28, 3, 61, 58, 42, 50, 38, 29, 17, 4, 62, 47, 59, 36, 45, 43, 51, 22, 53, 39, 33, 30, 24, 18, 12, 5, 63, 55, 48, 27, 60, 41, 37, 16, 46, 35, 44, 21, 52, 32, 23, 11, 54, 26, 40, 15, 34, 20, 31, 10, 25, 14, 19, 9, 13, 8, 7, 6])),
  (3, .cells (nul 1800) 0 .yes),
  (4, .cells [.int .i64 200, .slice (some (3, 0)) 1800 (some 1800), .int .u64 0, .int .u64 0] 0 .yes),
  (15, .cells [.int .i64 0, .int .i64 0, .bool false, .int .i64 0, .int .i64 0, .bool false, .int .i64 0, .int .i64 0, .bool false, .int .i64 0, .int .i64 0, .bool false, .int .i64 0, .int .i64 0, .bool false, .int .i64 8, .int .i64 6, .bool true, .int .i64 5, .int .i64 7, .bool true, .int .i64 6, .int .i64 8, .bool true, .int .i64 7, .int .i64 5, .bool false] 0 .yes),
  (16, .cells [.slice (some (15, 0)) 9 (some 9), .int .i64 3] 0 .yes),
  (17, .cells [.int .u32 0, .slice none 0 (some 0), .bool false, .int .i64 0, .int .u32 0, .slice none 0 (some 0), .bool false, .int .i64 0, .int .u32 0, .slice none 0 (some 0), .bool false, .int .i64 0, .int .u32 0, .slice none 0 (some 0), .bool false, .int .i64 0, .int .u32 0, .slice none 0 (some 0), .bool false, .int .i64 0, .int .u32 3, .slice (some (814, 0)) 200 none, .bool true, .int .i64 0, .int .u32 2, .slice (some (301, 0)) 200 none, .bool true, .int .i64 0, .int .u32 1, .slice (some (251, 0)) 200 none, .bool true, .int .i64 0] 0 .yes),
  (18, .map [(.int .u32 1, .int .i64 7, 0), (.int .u32 2, .int .i64 6, 1), (.int .u32 3, .int .i64 5, 2)] 3),
  (19, .cells [.ptr (some (4, 0)), .slice (some (17, 0)) 8 (some 8), .map (some 18), .slice (some (35, 0)) 5 none, .ptr (some (16, 0))] 0 .yes),
  (35, .cells [.int .i64 0, .int .i64 1, .int .i64 2, .int .i64 3, .int .i64 4, .int .i64 5, .int .i64 6, .int .i64 7] 1 .yes),
  (36, .cells [.int .u64 15] 0 .yes),
  (37, .cells [.int .i64 9, .int .i64 4, .slice (some (36, 0)) 1 (some 1)] 0 .yes),
  (38, .cells [.ptr (some (37, 0))] 0 .yes),
  (39, .cells [.int .i64 9, .int .i64 200, .int .i64 8, .int .i64 8, .int .i64 16, .int .i64 16, .int .i64 2, .int .i64 1, .ptr (some (4, 0)), .ptr (some (19, 0)), .ptr (some (38, 0)), .int .u32 0] 0 .yes),
  (251, .cells (by8 [1, 0, 0, 9, 0, 0, 0, 0, 2, 0, 0, 97, 97, 0, 2, 0, 0, 97, 98, 0, 2, 0, 0, 97, 99, 0, 2, 0, 0, 97, 100, 0, 2, 0, 0, 97, 101, 0, 2, 0, 0, 97, 102, 0, 2, 0, 0, 97, 103, 0, 2, 0, 0, 97, 104, 0, 2, 0, 0, 97, 105] ++ (nul 139)) 1 (.of 5)),
  (301, .cells (by8 [1] ++ (nul 199)) 1 (.of 5)),
  (814, .cells (by8 [2, 1, 0, 2, 0, 16, 0, 0, 0, 0, 0, 1, 0, 0, 0, 2] ++ (nul 24 ++ (by8 [1, 105, 0, 0, 0, 0, 0, 0, 0, 0, 0, 0, 0, 0, 0, 0, 0, 0, 0, 0, 0, 1, 1, 0, 0, 97, 0, 0, 1, 1, 0, 0, 98, 0, 0, 1, 1, 0, 0, 99, 0, 0, 1, 1, 0, 0, 100, 0, 0, 1, 1, 0, 0, 101, 0, 0, 1, 1, 0, 0, 102, 0, 0, 1, 1, 0, 0, 103, 0, 0, 1, 1, 0, 0, 104, 0, 0, 1, 1, 0, 0, 105, 0, 0, 1, 1, 0, 0, 106, 0, 0, 1, 1, 0, 0, 107, 0, 0, 1, 1, 0, 0, 108, 0, 0, 1, 1, 0, 0, 109, 0, 0, 1, 1, 0, 0, 110, 0, 0, 1, 1, 0, 0, 111, 0, 0, 1, 1, 0, 0, 112] ++ (nul 29)))) 1 (.of 5))],
 v := .tup [.int .u32 3, .int .i64 1, .int .i64 0], nout := 4613, ldel := [],
 lset := [(15, .cells [.int .i64 0, .int .i64 0, .bool false, .int .i64 0, .int .i64 0, .bool false, .int .i64 0, .int .i64 0, .bool false, .int .i64 0, .int .i64 0, .bool false, .int .i64 0, .int .i64 0, .bool false, .int .i64 0, .int .i64 0, .bool false, .int .i64 7, .int .i64 8, .bool true, .int .i64 8, .int .i64 6, .bool true, .int .i64 6, .int .i64 7, .bool false] 0 .yes),
  (16, .cells [.slice (some (15, 0)) 9 (some 9), .int .i64 2] 0 .yes),
  (17, .cells [.int .u32 0, .slice none 0 (some 0), .bool false, .int .i64 0, .int .u32 0, .slice none 0 (some 0), .bool false, .int .i64 0, .int .u32 0, .slice none 0 (some 0), .bool false, .int .i64 0, .int .u32 0, .slice none 0 (some 0), .bool false, .int .i64 0, .int .u32 0, .slice none 0 (some 0), .bool false, .int .i64 0, .int .u32 3, .slice (some (3999, 0)) 200 none, .bool true, .int .i64 1, .int .u32 2, .slice (some (301, 0)) 200 none, .bool true, .int .i64 0, .int .u32 1, .slice (some (3558, 0)) 200 none, .bool true, .int .i64 0] 0 .yes),
  (39, .cells [.int .i64 9, .int .i64 200, .int .i64 8, .int .i64 8, .int .i64 16, .int .i64 16, .int .i64 2, .int .i64 1, .ptr (some (4, 0)), .ptr (some (19, 0)), .ptr (some (38, 0)), .int .u32 3] 0 .yes),
  (3558, .cells (by8 [1, 0, 0, 10, 0, 0, 0, 0, 1, 0, 0, 97, 0, 0, 2, 0, 0, 97, 97, 0, 2, 0, 0, 97, 98, 0, 2, 0, 0, 97, 99, 0, 2, 0, 0, 97, 100, 0, 2, 0, 0, 97, 101, 0, 2, 0, 0, 97, 102, 0, 2, 0, 0, 97, 103, 0, 2, 0, 0, 97, 104, 0, 2, 0, 0, 97, 105] ++ (nul 133)) 1 (.of 5)),
  (3999, .cells (by8 [2, 1, 0, 2, 0, 15, 0, 0, 0, 0, 0, 1, 0, 0, 0, 2] ++ (nul 24 ++ (by8 [1, 105, 0, 0, 0, 0, 0, 0, 0, 0, 0, 0, 0, 0, 0, 0, 0, 0, 0, 0, 0, 1, 1, 0, 0, 98, 0, 0, 1, 1, 0, 0, 99, 0, 0, 1, 1, 0, 0, 100, 0, 0, 1, 1, 0, 0, 101, 0, 0, 1, 1, 0, 0, 102, 0, 0, 1, 1, 0, 0, 103, 0, 0, 1, 1, 0, 0, 104, 0, 0, 1, 1, 0, 0, 105, 0, 0, 1, 1, 0, 0, 106, 0, 0, 1, 1, 0, 0, 107, 0, 0, 1, 1, 0, 0, 108, 0, 0, 1, 1, 0, 0, 109, 0, 0, 1, 1, 0, 0, 110, 0, 0, 1, 1, 0, 0, 111, 0, 0, 1, 1, 0, 0, 112] ++ (nul 36)))) 1 (.of 5))] }

noncomputable def hk43F (args : List AV) (M : AMem) : Option (AV × AMem) := match hk42 6 with
  | some h => h args M
  | none => acall Tryz.prog hk42 400 6 args M

noncomputable def hk43 : Hook := fun f => match f with
  | 6 => some (cutAt [cut43] hk43F)
  | _ => hk42 f

def cut44 : Cut := {
 args := [.agg [.int .i64 9, .int .i64 200, .int .i64 8, .int .i64 8, .int .i64 16, .int .i64 16, .int .i64 2, .int .i64 1], .agg [.int .i64 1, .slice (some (4644, 0)) 2 none, .slice (some (4654, 0)) 1 none, .slice (some (4786, 0)) 15 none, .slice none 0 (some 0)]], nin := 4787,
 lin := [(1, .ro (by8 [0, 1, 56, 2, 57, 49, 28, 3, 61, 58, 42, 50, 38, 29, 17, 4, 62, 47, 59, 36, 45, 43, 51, 22, 53, 39, 33, 30, 24, 18, 12, 5, 63, 55, 48, 27, 60, 41, 37, 16, 46, 35, 44, 21, 52, 32, 23, 11, 54, 26, 40, 15, 34, 20, 31, 10, 25, 14, 19, 9, 13, 8, 7, 6])),
  (4644, .cells [.int .u32 1, .int .u32 2] 1 .yes),
  (4654, .cells [.str [105]] 1 .yes),
  (4786, .cells [.str [98], .bool false, .str [], .str [99], .bool false, .str [], .str [100], .bool false, .str [], .str [101], .bool false, .str [], .str [102], .bool false, .str [], .str [103], .bool false, .str [], .str [104], .bool false, .str [], .str [105], .bool false, .str [], .str [106], .bool false, .str [], .str [107], .bool false, .str [], .str [108], .bool false, .str [], .str [109], .bool false, .str [], .str [110], .bool false, .str [], .str [111], .bool false, .str [], .str [112], .bool false, .str []] 3 .yes)],
 v := .tup [.slice (some (5220, 0)) 200 none, .int .i64 0], nout := 5221, ldel := [],
 lset := [(5220, .cells (by8 [2, 1, 0, 2, 0, 15, 0, 0, 0, 0, 0, 1, 0, 0, 0, 2] ++ (nul 24 ++ (by8 [1, 105, 0, 0, 0, 0, 0, 0, 0, 0, 0, 0, 0, 0, 0, 0, 0, 0, 0, 0, 0, 1, 1, 0, 0, 98, 0, 0, 1, 1, 0, 0, 99, 0, 0, 1, 1, 0, 0, 100, 0, 0, 1, 1, 0, 0, 101, 0, 0, 1, 1, 0, 0, 102, 0, 0, 1, 1, 0, 0, 103, 0, 0, 1, 1, 0, 0, 104, 0, 0, 1, 1, 0, 0, 105, 0, 0, 1, 1, 0, 0, 106, 0, 0, 1, 1, 0, 0, 107, 0, 0, 1, 1, 0, 0, 108, 0, 0, 1, 1, 0, 0, 109, 0, 0, 1, 1, 0, 0, 110, 0, 0, 1, 1, 0, 0, 111, 0, 0, 1, 1, 0, 0, 112] ++ (nul 36)))) 1 (.of 5))] }

noncomputable def hk44F (args : List AV) (M : AMem) : Option (AV × AMem) := match hk43 42 with
  | some h => h args M
  | none => acall Tryz.prog hk43 400 42 args M

noncomputable def hk44 : Hook := fun f => match f with
  | 42 => some (cutAt [cut44] hk44F)
  | _ => hk43 f

def cut45 : Cut := {
 args := [.agg [.int .i64 9, .int .i64 200, .int .i64 8, .int .i64 8, .int .i64 16, .int .i64 16, .int .i64 2, .int .i64 1], .slice (some (4615, 0)) 200 none], nin := 4616,
 lin := [(1, .ro (by8 [0, 1, 56, 2, 57, 49, 28, 3, 61, 58, 42, 50, 38, 29, 17, 4, 62, 47, 59, 36, 45, 43, 51, 22, 53, 39, 33, 30, 24, 18, 12, 5, 63, 55, 48, 27, 60, 41, 37, 16, 46, 35, 44, 21, 52, 32, 23, 11, 54, 26, 40, 15, 34, 20, 31, 10, 25, 14, 19, 9, 13, 8, 7, 6])),
  (4615, .cells (by8 [2, 1, 0, 2, 0, 15, 0, 0, 0, 0, 0, 1, 0, 0, 0, 2] ++ (nul 24 ++ (by8 [1, 105, 0, 0, 0, 0, 0, 0, 0, 0, 0, 0, 0, 0, 0, 0, 0, 0, 0, 0, 0, 1, 1, 0, 0, 98, 0, 0, 1, 1, 0, 0, 99, 0, 0, 1, 1, 0, 0, 100, 0, 0, 1, 1, 0, 0, 101, 0, 0, 1, 1, 0, 0, 102, 0, 0, 1, 1, 0, 0, 103, 0, 0, 1, 1, 0, 0, 104, 0, 0, 1, 1, 0, 0, 105, 0, 0, 1, 1, 0, 0, 106, 0, 0, 1, 1, 0, 0, 107, 0, 0, 1, 1, 0, 0, 108, 0, 0, 1, 1, 0, 0, 109, 0, 0, 1, 1, 0, 0, 110, 0, 0, 1, 1, 0, 0, 111, 0, 0, 1, 1, 0, 0, 112] ++ (nul 36)))) 1 (.of 5))],
 v := .tup [.agg [.int .i64 1, .slice (some (4644, 0)) 2 none, .slice (some (4654, 0)) 1 none, .slice (some (4786, 0)) 15 none, .slice none 0 (some 0)], .int .i64 0], nout := 5221, ldel := [],
 lset := [(4644, .cells [.int .u32 1, .int .u32 2] 1 .yes),
  (4654, .cells [.str [105]] 1 .yes),
  (4786, .cells [.str [98], .bool false, .str [], .str [99], .bool false, .str [], .str [100], .bool false, .str [], .str [101], .bool false, .str [], .str [102], .bool false, .str [], .str [103], .bool false, .str [], .str [104], .bool false, .str [], .str [105], .bool false, .str [], .str [106], .bool false, .str [], .str [107], .bool false, .str [], .str [108], .bool false, .str [], .str [109], .bool false, .str [], .str [110], .bool false, .str [], .str [111], .bool false, .str [], .str [112], .bool false, .str []] 3 .yes)] }

noncomputable def hk45F (args : List AV) (M : AMem) : Option (AV × AMem) := match hk44 32 with
  | some h => h args M
  | none => acall Tryz.prog hk44 400 32 args M

noncomputable def hk45 : Hook := fun f => match f with
  | 32 => some (cutAt [cut45] hk45F)
  | _ => hk44 f

def cut46 : Cut := {
 args := [.ptr (some (39, 0)), .int .u32 3], nin := 4613,
 lin := [(1, .ro (by8 [0, 1, 56, 2, 57, 49, 28, 3, 61, 58, 42, 50, 38, 29, 17, 4, 62, 47, 59, 36, 45, 43, 51, 22, 53, 39, 33, 30, 24, 18, 12, 5, 63, 55, 48, 27, 60, 41, 37, 16, 46, 35, 44, 21, 52, 32, 23, 11, 54, 26, 40, 15, 34, 20, 31, 10, 25, 14, 19, 9, 13, 8, 7, 6])),
  (3, .cells (nul 1800) 0 .yes),
  (4, .cells [.int .i64 200, .slice (some (3, 0)) 1800 (some 1800), .int .u64 0, .int .u64 0] 0 .yes),
  (15, .cells [.int .i64 0, .int .i64 0, .bool false, .int .i64 0, .int .i64 0, .bool false, .int .i64 0, .int .i64 0, .bool false, .int .i64 0, .int .i64 0, .bool false, .int .i64 0, .int .i64 0, .bool false, .int .i64 0, .int .i64 0, .bool false, .int .i64 7, .int .i64 8, .bool true, .int .i64 8, .int .i64 6, .bool true, .int .i64 6, .int .i64 7, .bool false] 0 .yes),
  (16, .cells [.slice (some (15, 0)) 9 (some 9), .int .i64 2] 0 .yes),
  (17, .cells [.int .u32 0, .slice none 0 (some 0), .bool false, .int .i64 0, .int .u32 0, .slice none 0 (some 0), .bool false, .int .i64 0, .int .u32 0, .slice none 0 (some 0), .bool false, .int .i64 0, .int .u32 0, .slice none 0 (some 0), .bool false, .int .i64 0, .int .u32 0, .slice none 0 (some 0), .bool false, .int .i64 0, .int .u32 3, .slice (some (3999, 0)) 200 none, .bool true, .int .i64 1, .int .u32 2, .slice (some (301, 0)) 200 none, .bool true, .int .i64 0, .int .u32 1, .slice (some (3558, 0)) 200 none, .bool true, .int .i64 0] 0 .yes),
  (18, .map [(.int .u32 1, .int .i64 7, 0), (.int .u32 2, .int .i64 6, 1), (.int .u32 3, .int .i64 5, 2)] 3),
  (19, .cells [.ptr (some (4, 0)), .slice (some (17, 0)) 8 (some 8), .map (some 18), .slice (some (35, 0)) 5 none, .ptr (some (16, 0))] 0 .yes),
  (35, .cells [.int .i64 0, .int .i64 1, .int .i64 2, .int .i64 3, .int .i64 4, .int .i64 5, .int .i64 6, .int .i64 7] 1 .yes),
  (36, .cells [.int .u64 15] 0 .yes),
  (37, .cells [.int .i64 9, .int .i64 4, .slice (some (36, 0)) 1 (some 1)] 0 .yes),
  (38, .cells [.ptr (some (37, 0))] 0 .yes),
  (39, .cells [.int .i64 9, .int .i64 200, .int .i64 8, .int .i64 8, .int .i64 16, .int .i64 16, .int .i64 2, .int .i64 1, .ptr (some (4, 0)), .ptr (some (19, 0)), .ptr (some (38, 0)), .int .u32 3] 0 .yes),
  (301, .cells (by8 [1] ++ (nul 199)) 1 (.of 5)),
  (3558, .cells (by8 [1, 0, 0, 10, 0, 0, 0, 0, 1, 0, 0, 97, 0, 0, 2, 0, 0, 97, 97, 0, 2, 0, 0, 97, 98, 0, 2, 0, 0, 97, 99, 0, 2, 0, 0, 97, 100, 0, 2, 0, 0, 97, 101, 0, 2, 0, 0, 97, 102, 0, 2, 0, 0, 97, 103, 0, 2, 0, 0, 97, 104, 0, 2, 0, 0, 97, 105] ++ (nul 133)) 1 (.of 5)),
  (3999, .cells (by8 [2, 1, 0, 2, 0, 15, 0, 0, 0, 0, 0, 1, 0, 0, 0, 2] ++ (nul 24 ++ (by8 [1, 105, 0, 0, 0, 0, 0, 0, 0, 0, 0, 0, 0, 0, 0, 0, 0, 0, 0, 0, 0, 1, 1, 0, 0, 98, 0, 0, 1, 1, 0, 0, 99, 0, 0, 1, 1, 0, 0, 100, 0, 0, 1, 1, 0, 0, 101, 0, 0, 1, 1, 0, 0, 102, 0, 0, 1, 1, 0, 0, 103, 0, 0, 1, 1, 0, 0, 104, 0, 0, 1, 1, 0, 0, 105, 0, 0, 1, 1, 0, 0, 106, 0, 0, 1, 1, 0, 0, 107, 0, 0, 1, 1, 0, 0, 108, 0, 0, 1, 1, 0, 0, 109, 0, 0, 1, 1, 0, 0, 110, 0, 0, 1, 1, 0, 0, 111, 0, 0, 1, 1, 0, 0, 112] ++ (nul 36)))) 1 (.of 5))],
 v := .tup [.agg [.int .i64 1, .slice (some (4644, 0)) 2 none, .slice (some (4654, 0)) 1 none, .slice (some (4786, 0)) 15 none, .slice none 0 (some 0)], .int .i64 0], nout := 5221, ldel := [],
 lset := [(4644, .cells [.int .u32 1, .int .u32 2] 1 .yes),
  (4654, .cells [.str [105]] 1 .yes),
  (4786, .cells [.str [98], .bool false, .str [], .str [99], .bool false, .str [], .str [100], .bool false, .str [], .str [101], .bool false, .str [], .str [102], .bool false, .str [], .str [103], .bool false, .str [], .str [104], .bool false, .str [], .str [105], .bool false, .str [], .str [106], .bool false, .str [], .str [107], .bool false, .str [], .str [108], .bool false, .str [], .str [109], .bool false, .str [], .str [110], .bool false, .str [], .str [111], .bool false, .str [], .str [112], .bool false, .str []] 3 .yes)] }

noncomputable def hk46F (args : List AV) (M : AMem) : Option (AV × AMem) := match hk45 12 with
  | some h => h args M
  | none => acall Tryz.prog hk45 400 12 args M

noncomputable def hk46 : Hook := fun f => match f with
  | 12 => some (cutAt [cut46] hk46F)
  | _ => hk45 f

def cut47 : Cut := {
 args := [.agg [.int .i64 9, .int .i64 200, .int .i64 8, .int .i64 8, .int .i64 16, .int .i64 16, .int .i64 2, .int .i64 1], .agg [.int .i64 0, .slice none 0 (some 0), .slice none 0 (some 0), .slice none 0 (some 0), .slice (some (5319, 0)) 10 none]], nin := 5320,
 lin := [(1, .ro (by8 [0, 1, 56, 2, 57, 49, 28, 3, 61, 58, 42, 50, 38, 29, 17, 4, 62, 47, 59, 36, 45, 43, 51, 22, 53, 39, 33, 30, 24, 18, 12, 5, 63, 55, 48, 27, 60, 41, 37, 16, 46, 35, 44, 21, 52, 32, 23, 11, 54, 26, 40, 15, 34, 20, 31, 10, 25, 14, 19, 9, 13, 8, 7, 6])),
  (5319, .cells [.str [97], .str [], .str [97, 97], .str [], .str [97, 98], .str [], .str [97, 99], .str [], .str [97, 100], .str [], .str [97, 101], .str [], .str [97, 102], .str [], .str [97, 103], .str [], .str [97, 104], .str [], .str [97, 105], .str []] 2 .yes)],
 v := .tup [.slice (some (5512, 0)) 200 none, .int .i64 0], nout := 5513, ldel := [],
 lset := [(5512, .cells (by8 [1, 0, 0, 10, 0, 0, 0, 0, 1, 0, 0, 97, 0, 0, 2, 0, 0, 97, 97, 0, 2, 0, 0, 97, 98, 0, 2, 0, 0, 97, 99, 0, 2, 0, 0, 97, 100, 0, 2, 0, 0, 97, 101, 0, 2, 0, 0, 97, 102, 0, 2, 0, 0, 97, 103, 0, 2, 0, 0, 97, 104, 0, 2, 0, 0, 97, 105] ++ (nul 133)) 1 (.of 5))] }

noncomputable def hk47F (args : List AV) (M : AMem) : Option (AV × AMem) := match hk46 42 with
  | some h => h args M
  | none => acall Tryz.prog hk46 400 42 args M

noncomputable def hk47 : Hook := fun f => match f with
  | 42 => some (cutAt [cut47] hk47F)
  | _ => hk46 f

def cut48 : Cut := {
 args := [.agg [.int .i64 9, .int .i64 200, .int .i64 8, .int .i64 8, .int .i64 16, .int .i64 16, .int .i64 2, .int .i64 1], .slice (some (5225, 0)) 200 none], nin := 5227,
 lin := [(1, .ro (by8 [0, 1, 56, 2, 57, 49, 28, 3, 61, 58, 42, 50, 38, 29, 17, 4, 62, 47, 59, 36, 45, 43, 51, 22, 53, 39, 33, 30, 24, 18, 12, 5, 63, 55, 48, 27, 60, 41, 37, 16, 46, 35, 44, 21, 52, 32, 23, 11, 54, 26, 40, 15, 34, 20, 31, 10, 25, 14, 19, 9, 13, 8, 7, 6])),
  (5225, .cells (by8 [1, 0, 0, 10, 0, 0, 0, 0, 1, 0, 0, 97, 0, 0, 2, 0, 0, 97, 97, 0, 2, 0, 0, 97, 98, 0, 2, 0, 0, 97, 99, 0, 2, 0, 0, 97, 100, 0, 2, 0, 0, 97, 101, 0, 2, 0, 0, 97, 102, 0, 2, 0, 0, 97, 103, 0, 2, 0, 0, 97, 104, 0, 2, 0, 0, 97, 105] ++ (nul 133)) 1 (.of 5))],
 v := .tup [.agg [.int .i64 0, .slice none 0 (some 0), .slice none 0 (some 0), .slice none 0 (some 0), .slice (some (5319, 0)) 10 none], .int .i64 0], nout := 5513, ldel := [],
 lset := [(5319, .cells [.str [97], .str [], .str [97, 97], .str [], .str [97, 98], .str [], .str [97, 99], .str [], .str [97, 100], .str [], .str [97, 101], .str [], .str [97, 102], .str [], .str [97, 103], .str [], .str [97, 104], .str [], .str [97, 105], .str []] 2 .yes)] }

noncomputable def hk48F (args : List AV) (M : AMem) : Option (AV × AMem) := match hk47 32 with
  | some h => h args M
  | none => acall Tryz.prog hk47 400 32 args M

noncomputable def hk48 : Hook := fun f => match f with
  | 32 => some (cutAt [cut48] hk48F)
  | _ => hk47 f

def cut49 : Cut := {
 args := [.ptr (some (39, 0)), .int .u32 1], nin := 5222,
 lin := [(1, .ro (by8 [0, 1, 56, 2, 57, 49, 28, 3, 61, 58, 42, 50, 38, 29, 17, 4, 62, 47, 59, 36, 45, 43, 51, 22, 53, 39, 33, 30, 24, 18, 12, 5, 63, 55, 48, 27, 60, 41, 37, 16, 46, 35, 44, 21, 52, 32, 23, 11, 54, 26, 40, 15, 34, 20, 31, 10, 25, 14, 19, 9, 13, 8, 7, 6])),
  (3, .cells (nul 1800) 0 .yes),
  (4, .cells [.int .i64 200, .slice (some (3, 0)) 1800 (some 1800), .int .u64 0, .int .u64 0] 0 .yes),
  (15, .cells [.int .i64 0, .int .i64 0, .bool false, .int .i64 0, .int .i64 0, .bool false, .int .i64 0, .int .i64 0, .bool false, .int .i64 0, .int .i64 0, .bool false, .int .i64 0, .int .i64 0, .bool false, .int .i64 0, .int .i64 0, .bool false, .int .i64 7, .int .i64 8, .bool true, .int .i64 8, .int .i64 6, .bool true, .int .i64 6, .int .i64 7, .bool false] 0 .yes),
  (16, .cells [.slice (some (15, 0)) 9 (some 9), .int .i64 2] 0 .yes),
  (17, .cells [.int .u32 0, .slice none 0 (some 0), .bool false, .int .i64 0, .int .u32 0, .slice none 0 (some 0), .bool false, .int .i64 0, .int .u32 0, .slice none 0 (some 0), .bool false, .int .i64 0, .int .u32 0, .slice none 0 (some 0), .bool false, .int .i64 0, .int .u32 0, .slice none 0 (some 0), .bool false, .int .i64 0, .int .u32 3, .slice (some (3999, 0)) 200 none, .bool true, .int .i64 1, .int .u32 2, .slice (some (301, 0)) 200 none, .bool true, .int .i64 0, .int .u32 1, .slice (some (3558, 0)) 200 none, .bool true, .int .i64 0] 0 .yes),
  (18, .map [(.int .u32 1, .int .i64 7, 0), (.int .u32 2, .int .i64 6, 1), (.int .u32 3, .int .i64 5, 2)] 3),
  (19, .cells [.ptr (some (4, 0)), .slice (some (17, 0)) 8 (some 8), .map (some 18), .slice (some (35, 0)) 5 none, .ptr (some (16, 0))] 0 .yes),
  (35, .cells [.int .i64 0, .int .i64 1, .int .i64 2, .int .i64 3, .int .i64 4, .int .i64 5, .int .i64 6, .int .i64 7] 1 .yes),
  (36, .cells [.int .u64 15] 0 .yes),
  (37, .cells [.int .i64 9, .int .i64 4, .slice (some (36, 0)) 1 (some 1)] 0 .yes),
  (38, .cells [.ptr (some (37, 0))] 0 .yes),
  (39, .cells [.int .i64 9, .int .i64 200, .int .i64 8, .int .i64 8, .int .i64 16, .int .i64 16, .int .i64 2, .int .i64 1, .ptr (some (4, 0)), .ptr (some (19, 0)), .ptr (some (38, 0)), .int .u32 3] 0 .yes),
  (301, .cells (by8 [1] ++ (nul 199)) 1 (.of 5)),
  (3558, .cells (by8 [1, 0, 0, 10, 0, 0, 0, 0, 1, 0, 0, 97, 0, 0, 2, 0, 0, 97, 97, 0, 2, 0, 0, 97, 98, 0, 2, 0, 0, 97, 99, 0, 2, 0, 0, 97, 100, 0, 2, 0, 0, 97, 101, 0, 2, 0, 0, 97, 102, 0, 2, 0, 0, 97, 103, 0, 2, 0, 0, 97, 104, 0, 2, 0, 0, 97, 105] ++ (nul 133)) 1 (.of 5)),
  (3999, .cells (by8 [2, 1, 0, 2, 0, 15, 0, 0, 0, 0, 0, 1, 0, 0, 0, 2] ++ (nul 24 ++ (by8 [1, 105, 0, 0, 0, 0, 0, 0, 0, 0, 0, 0, 0, 0, 0, 0, 0, 0, 0, 0, 0, 1, 1, 0, 0, 98, 0, 0, 1, 1, 0, 0, 99, 0, 0, 1, 1, 0, 0, 100, 0, 0, 1, 1, 0, 0, 101, 0, 0, 1, 1, 0, 0, 102, 0, 0, 1, 1, 0, 0, 103, 0, 0, 1, 1, 0, 0, 104, 0, 0, 1, 1, 0, 0, 105, 0, 0, 1, 1, 0, 0, 106, 0, 0, 1, 1, 0, 0, 107, 0, 0, 1, 1, 0, 0, 108, 0, 0, 1, 1, 0, 0, 109, 0, 0, 1, 1, 0, 0, 110, 0, 0, 1, 1, 0, 0, 111, 0, 0, 1, 1, 0, 0, 112] ++ (nul 36)))) 1 (.of 5))],
 v := .tup [.agg [.int .i64 0, .slice none 0 (some 0), .slice none 0 (some 0), .slice none 0 (some 0), .slice (some (5319, 0)) 10 none], .int .i64 0], nout := 5513, ldel := [],
 lset := [(5319, .cells [.str [97], .str [], .str [97, 97], .str [], .str [97, 98], .str [], .str [97, 99], .str [], .str [97, 100], .str [], .str [97, 101], .str [], .str [97, 102], .str [], .str [97, 103], .str [], .str [97, 104], .str [], .str [97, 105], .str []] 2 .yes)] }

noncomputable def hk49F (args : List AV) (M : AMem) : Option (AV × AMem) := match hk48 12 with
  | some h => h args M
  | none => acall Tryz.prog hk48 400 12 args M

noncomputable def hk49 : Hook := fun f => match f with
  | 12 => some (cutAt [cut49] hk49F)
  | _ => hk48 f

end Go.Proofs.YtfpgakjikmakkaaGreatDoor
