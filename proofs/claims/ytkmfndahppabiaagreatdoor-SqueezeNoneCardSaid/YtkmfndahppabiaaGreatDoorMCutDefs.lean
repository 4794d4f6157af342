/-
  9 cuts and their hooks. Printed by wip/tool/mkcuts5.py.
-/
import Derived.Test.YtkmfndahppabiaaGreatDoorWake
namespace Go.Proofs.YtkmfndahppabiaaGreatDoor
open Go Go.Ab Go.Proofs
set_option linter.unusedVariables false
set_option maxRecDepth 100000

def mcut1 : Cut := {
 args := [.ptr (some (85, 0))], nin := 86,
 lin := [(1, .ro (by8 [0, 1, 56, 2, 57, 49, 28, 3, 61, 58, 42, 50, 38, 29, 17, 4, 62, 47, 59, 36, 45, 43, 51, 22, 53, 39, 33, 30, 24, 18, 12, 5, 63, 55, 48, 27, 60, 41, 37, 16, 46, 35, 44, 21, 52, 32, 23, 11, 54, 26, 40, 15, 34, 20, 31, 10, 25, 14, 19, 9, 13, 8, 7, 6])),
  (49, .cells (nul 1800) 0 .yes),
  (50, .cells [.int .i64 200, .slice (some (49, 0)) 1800 (some 1800), .int .u64 0, .int .u64 0] 0 .yes),
  (61, .cells [.int .i64 0, .int .i64 0, .bool false, .int .i64 0, .int .i64 0, .bool false, .int .i64 0, .int .i64 0, .bool false, .int .i64 0, .int .i64 0, .bool false, .int .i64 0, .int .i64 0, .bool false, .int .i64 0, .int .i64 0, .bool false, .int .i64 0, .int .i64 0, .bool false, .int .i64 0, .int .i64 0, .bool false, .int .i64 8, .int .i64 8, .bool false] 0 .yes),
  (62, .cells [.slice (some (61, 0)) 9 (some 9), .int .i64 0] 0 .yes),
  (63, .cells [.int .u32 0, .slice none 0 (some 0), .bool false, .int .i64 0, .int .u32 0, .slice none 0 (some 0), .bool false, .int .i64 0, .int .u32 0, .slice none 0 (some 0), .bool false, .int .i64 0, .int .u32 0, .slice none 0 (some 0), .bool false, .int .i64 0, .int .u32 0, .slice none 0 (some 0), .bool false, .int .i64 0, .int .u32 0, .slice none 0 (some 0), .bool false, .int .i64 0, .int .u32 0, .slice none 0 (some 0), .bool false, .int .i64 0, .int .u32 0, .slice none 0 (some 0), .bool false, .int .i64 0] 0 .yes),
  (64, .map [] 0),
  (65, .cells [.ptr (some (50, 0)), .slice (some (63, 0)) 8 (some 8), .map (some 64), .slice (some (81, 0)) 8 none, .ptr (some (62, 0))] 0 .yes),
  (81, .cells [.int .i64 0, .int .i64 1, .int .i64 2, .int .i64 3, .int .i64 4, .int .i64 5, .int .i64 6, .int .i64 7] 1 .yes),
  (82, .cells [.int .u64 1] 0 .yes),
  (83, .cells [.int .i64 9, .int .i64 1, .slice (some (82, 0)) 1 (some 1)] 0 .yes),
  (84, .cells [.ptr (some (83, 0))] 0 .yes),
  (85, .cells [.int .i64 9, .int .i64 200, .int .i64 8, .int .i64 8, .int .i64 16, .int .i64 16, .int .i64 2, .int .i64 1, .ptr (some (50, 0)), .ptr (some (65, 0)), .ptr (some (84, 0)), .int .u32 0] 0 .yes)],
 v := .tup [.ptr (some (136, 0)), .int .i64 0], nout := 138, ldel := [],
 lset := [(63, .cells [.int .u32 0, .slice none 0 (some 0), .bool false, .int .i64 0, .int .u32 0, .slice none 0 (some 0), .bool false, .int .i64 0, .int .u32 0, .slice none 0 (some 0), .bool false, .int .i64 0, .int .u32 0, .slice none 0 (some 0), .bool false, .int .i64 0, .int .u32 0, .slice none 0 (some 0), .bool false, .int .i64 0, .int .u32 0, .slice none 0 (some 0), .bool false, .int .i64 0, .int .u32 0, .slice none 0 (some 0), .bool false, .int .i64 0, .int .u32 1, .slice (some (134, 0)) 200 none, .bool true, .int .i64 1] 0 .yes),
  (64, .map [(.int .u32 1, .int .i64 7, 0)] 1),
  (65, .cells [.ptr (some (50, 0)), .slice (some (63, 0)) 8 (some 8), .map (some 64), .slice (some (81, 0)) 7 none, .ptr (some (62, 0))] 0 .yes),
  (82, .cells [.int .u64 3] 0 .yes),
  (83, .cells [.int .i64 9, .int .i64 2, .slice (some (82, 0)) 1 (some 1)] 0 .yes),
  (85, .cells [.int .i64 9, .int .i64 200, .int .i64 8, .int .i64 8, .int .i64 16, .int .i64 16, .int .i64 2, .int .i64 1, .ptr (some (50, 0)), .ptr (some (65, 0)), .ptr (some (84, 0)), .int .u32 1] 0 .yes),
  (134, .cells (by8 [1] ++ (nul 199)) 1 (.of 5)),
  (136, .cells [.ptr (some (85, 0)), .int .u32 1, .int .i64 0, .int .i64 0, .int .i64 0, .int .i64 0] 0 .yes)] }

noncomputable def mhk1F (args : List AV) (M : AMem) : Option (AV × AMem) := match hkW 91 with
  | some h => h args M
  | none => acall Tryz.prog hkW 1000 91 args M

noncomputable def mhk1 : Hook := fun f => match f with
  | 91 => some (cutAt [mcut1] mhk1F)
  | _ => hkW f

def mcut2 : Cut := {
 args := [.ptr (some (138, 0))], nin := 139,
 lin := [(1, .ro (by8 [0, 1, 56, 2, 57, 49, 28, 3, 61, 58, 42, 50, 38, 29, 17, 4, 62, 47, 59, 36, 45, 43, 51, 22, 53, 39, 33, 30, 24, 18, 12, 5, 63, 55, 48, 27, 60, 41, 37, 16, 46, 35, 44, 21, 52, 32, 23, 11, 54, 26, 40, 15, 34, 20, 31, 10, 25, 14, 19, 9, 13, 8, 7, 6])),
  (49, .cells (nul 1800) 0 .yes),
  (50, .cells [.int .i64 200, .slice (some (49, 0)) 1800 (some 1800), .int .u64 0, .int .u64 0] 0 .yes),
  (61, .cells [.int .i64 0, .int .i64 0, .bool false, .int .i64 0, .int .i64 0, .bool false, .int .i64 0, .int .i64 0, .bool false, .int .i64 0, .int .i64 0, .bool false, .int .i64 0, .int .i64 0, .bool false, .int .i64 0, .int .i64 0, .bool false, .int .i64 0, .int .i64 0, .bool false, .int .i64 0, .int .i64 0, .bool false, .int .i64 8, .int .i64 8, .bool false] 0 .yes),
  (62, .cells [.slice (some (61, 0)) 9 (some 9), .int .i64 0] 0 .yes),
  (63, .cells [.int .u32 0, .slice none 0 (some 0), .bool false, .int .i64 0, .int .u32 0, .slice none 0 (some 0), .bool false, .int .i64 0, .int .u32 0, .slice none 0 (some 0), .bool false, .int .i64 0, .int .u32 0, .slice none 0 (some 0), .bool false, .int .i64 0, .int .u32 0, .slice none 0 (some 0), .bool false, .int .i64 0, .int .u32 0, .slice none 0 (some 0), .bool false, .int .i64 0, .int .u32 0, .slice none 0 (some 0), .bool false, .int .i64 0, .int .u32 1, .slice (some (134, 0)) 200 none, .bool true, .int .i64 1] 0 .yes),
  (64, .map [(.int .u32 1, .int .i64 7, 0)] 1),
  (65, .cells [.ptr (some (50, 0)), .slice (some (63, 0)) 8 (some 8), .map (some 64), .slice (some (81, 0)) 7 none, .ptr (some (62, 0))] 0 .yes),
  (81, .cells [.int .i64 0, .int .i64 1, .int .i64 2, .int .i64 3, .int .i64 4, .int .i64 5, .int .i64 6, .int .i64 7] 1 .yes),
  (82, .cells [.int .u64 3] 0 .yes),
  (83, .cells [.int .i64 9, .int .i64 2, .slice (some (82, 0)) 1 (some 1)] 0 .yes),
  (84, .cells [.ptr (some (83, 0))] 0 .yes),
  (85, .cells [.int .i64 9, .int .i64 200, .int .i64 8, .int .i64 8, .int .i64 16, .int .i64 16, .int .i64 2, .int .i64 1, .ptr (some (50, 0)), .ptr (some (65, 0)), .ptr (some (84, 0)), .int .u32 1] 0 .yes),
  (134, .cells (by8 [1] ++ (nul 199)) 1 (.of 5)),
  (136, .cells [.ptr (some (85, 0)), .int .u32 1, .int .i64 0, .int .i64 0, .int .i64 0, .int .i64 0] 0 .yes),
  (138, .cells [.ptr (some (50, 0)), .ptr (some (136, 0))] 0 .yes)],
 v := .int .i64 0, nout := 272, ldel := [],
 lset := [(49, .cells (by8 [83, 76, 85, 73, 67, 69, 48, 49, 0, 0, 0, 9, 0, 0, 0, 200, 0, 0, 0, 8, 0, 0, 0, 8, 0, 0, 0, 16, 0, 0, 0, 16, 0, 0, 0, 2, 0, 0, 0, 1, 0, 0, 0, 1, 0, 0, 0, 1, 0, 0, 0, 0, 0, 0, 0, 0, 0, 0, 0, 0, 166, 13, 3, 45] ++ (nul 136 ++ (by8 [1] ++ (nul 1599)))) 0 .yes),
  (50, .cells [.int .i64 200, .slice (some (49, 0)) 1800 (some 1800), .int .u64 0, .int .u64 2] 0 .yes),
  (63, .cells [.int .u32 0, .slice none 0 (some 0), .bool false, .int .i64 0, .int .u32 0, .slice none 0 (some 0), .bool false, .int .i64 0, .int .u32 0, .slice none 0 (some 0), .bool false, .int .i64 0, .int .u32 0, .slice none 0 (some 0), .bool false, .int .i64 0, .int .u32 0, .slice none 0 (some 0), .bool false, .int .i64 0, .int .u32 0, .slice none 0 (some 0), .bool false, .int .i64 0, .int .u32 0, .slice none 0 (some 0), .bool false, .int .i64 0, .int .u32 1, .slice (some (134, 0)) 200 none, .bool false, .int .i64 1] 0 .yes)] }

noncomputable def mhk2F (args : List AV) (M : AMem) : Option (AV × AMem) := match mhk1 26 with
  | some h => h args M
  | none => acall Tryz.prog mhk1 1000 26 args M

noncomputable def mhk2 : Hook := fun f => match f with
  | 26 => some (cutAt [mcut2] mhk2F)
  | _ => mhk1 f

def mcut3 : Cut := {
 args := [.agg [.int .i64 9, .int .i64 200, .int .i64 8, .int .i64 8, .int .i64 16, .int .i64 16, .int .i64 2, .int .i64 1]], nin := 38,
 lin := [(1, .ro (by8 [0, 1, 56, 2, 57, 49, 28, 3, 61, 58, 42, 50, 38, 29, 17, 4, 62, 47, 59, 36, 45, 43, 51, 22, 53, 39, 33, 30, 24, 18, 12, 5, 63, 55, 48, 27, 60, 41, 37, 16, 46, 35, 44, 21, 52, 32, 23, 11, 54, 26, 40, 15, 34, 20, 31, 10, 25, 14, 19, 9, 13, 8, 7, 6]))],
 v := .tup [.ptr (some (274, 0)), .int .i64 0], nout := 275, ldel := [],
 lset := [(49, .cells (by8 [83, 76, 85, 73, 67, 69, 48, 49, 0, 0, 0, 9, 0, 0, 0, 200, 0, 0, 0, 8, 0, 0, 0, 8, 0, 0, 0, 16, 0, 0, 0, 16, 0, 0, 0, 2, 0, 0, 0, 1, 0, 0, 0, 1, 0, 0, 0, 1, 0, 0, 0, 0, 0, 0, 0, 0, 0, 0, 0, 0, 166, 13, 3, 45] ++ (nul 136 ++ (by8 [1] ++ (nul 1599)))) 0 .yes),
  (50, .cells [.int .i64 200, .slice (some (49, 0)) 1800 (some 1800), .int .u64 0, .int .u64 2] 0 .yes),
  (61, .cells [.int .i64 0, .int .i64 0, .bool false, .int .i64 0, .int .i64 0, .bool false, .int .i64 0, .int .i64 0, .bool false, .int .i64 0, .int .i64 0, .bool false, .int .i64 0, .int .i64 0, .bool false, .int .i64 0, .int .i64 0, .bool false, .int .i64 0, .int .i64 0, .bool false, .int .i64 0, .int .i64 0, .bool false, .int .i64 8, .int .i64 8, .bool false] 0 .yes),
  (62, .cells [.slice (some (61, 0)) 9 (some 9), .int .i64 0] 0 .yes),
  (63, .cells [.int .u32 0, .slice none 0 (some 0), .bool false, .int .i64 0, .int .u32 0, .slice none 0 (some 0), .bool false, .int .i64 0, .int .u32 0, .slice none 0 (some 0), .bool false, .int .i64 0, .int .u32 0, .slice none 0 (some 0), .bool false, .int .i64 0, .int .u32 0, .slice none 0 (some 0), .bool false, .int .i64 0, .int .u32 0, .slice none 0 (some 0), .bool false, .int .i64 0, .int .u32 0, .slice none 0 (some 0), .bool false, .int .i64 0, .int .u32 1, .slice (some (134, 0)) 200 none, .bool false, .int .i64 1] 0 .yes),
  (64, .map [(.int .u32 1, .int .i64 7, 0)] 1),
  (65, .cells [.ptr (some (50, 0)), .slice (some (63, 0)) 8 (some 8), .map (some 64), .slice (some (81, 0)) 7 none, .ptr (some (62, 0))] 0 .yes),
  (81, .cells [.int .i64 0, .int .i64 1, .int .i64 2, .int .i64 3, .int .i64 4, .int .i64 5, .int .i64 6, .int .i64 7] 1 .yes),
  (82, .cells [.int .u64 3] 0 .yes),
  (83, .cells [.int .i64 9, .int .i64 2, .slice (some (82, 0)) 1 (some 1)] 0 .yes),
  (84, .cells [.ptr (some (83, 0))] 0 .yes),
  (85, .cells [.int .i64 9, .int .i64 200, .int .i64 8, .int .i64 8, .int .i64 16, .int .i64 16, .int .i64 2, .int .i64 1, .ptr (some (50, 0)), .ptr (some (65, 0)), .ptr (some (84, 0)), .int .u32 1] 0 .yes),
  (134, .cells (by8 [1] ++ (nul 199)) 1 (.of 5)),
  (136, .cells [.ptr (some (85, 0)), .int .u32 1, .int .i64 0, .int .i64 0, .int .i64 0, .int .i64 0] 0 .yes),
  (138, .cells [.ptr (some (50, 0)), .ptr (some (136, 0))] 0 .yes),
  (274, .cells [.int .i64 9, .int .i64 200, .int .i64 8, .int .i64 8, .int .i64 16, .int .i64 16, .int .i64 2, .int .i64 1, .ptr (some (138, 0)), .bool true, .int .u64 0, .int .u64 0, .int .u64 0, .int .u64 0] 0 .yes)] }

noncomputable def mhk3F (args : List AV) (M : AMem) : Option (AV × AMem) := match mhk2 19 with
  | some h => h args M
  | none => acall Tryz.prog mhk2 1000 19 args M

noncomputable def mhk3 : Hook := fun f => match f with
  | 19 => some (cutAt [mcut3] mhk3F)
  | _ => mhk2 f

def mcut4 : Cut := {
 args := [.agg [.int .i64 9, .int .i64 200, .int .i64 8, .int .i64 8, .int .i64 16, .int .i64 16, .int .i64 2, .int .i64 1], .slice none 0 (some 0)], nin := 30,
 lin := [(1, .ro (by8 [0, 1, 56, 2, 57, 49, 28, 3, 61, 58, 42, 50, 38, 29, 17, 4, 62, 47, 59, 36, 45, 43, 51, 22, 53, 39, 33, 30, 24, 18, 12, 5, 63, 55, 48, 27, 60, 41, 37, 16, 46, 35, 44, 21, 52, 32, 23, 11, 54, 26, 40, 15, 34, 20, 31, 10, 25, 14, 19, 9, 13, 8, 7, 6]))],
 v := .tup [.ptr (some (274, 0)), .slice (some (275, 0)) 0 (some 0)], nout := 276, ldel := [],
 lset := [(49, .cells (by8 [83, 76, 85, 73, 67, 69, 48, 49, 0, 0, 0, 9, 0, 0, 0, 200, 0, 0, 0, 8, 0, 0, 0, 8, 0, 0, 0, 16, 0, 0, 0, 16, 0, 0, 0, 2, 0, 0, 0, 1, 0, 0, 0, 1, 0, 0, 0, 1, 0, 0, 0, 0, 0, 0, 0, 0, 0, 0, 0, 0, 166, 13, 3, 45] ++ (nul 136 ++ (by8 [1] ++ (nul 1599)))) 0 .yes),
  (50, .cells [.int .i64 200, .slice (some (49, 0)) 1800 (some 1800), .int .u64 0, .int .u64 2] 0 .yes),
  (61, .cells [.int .i64 0, .int .i64 0, .bool false, .int .i64 0, .int .i64 0, .bool false, .int .i64 0, .int .i64 0, .bool false, .int .i64 0, .int .i64 0, .bool false, .int .i64 0, .int .i64 0, .bool false, .int .i64 0, .int .i64 0, .bool false, .int .i64 0, .int .i64 0, .bool false, .int .i64 0, .int .i64 0, .bool false, .int .i64 8, .int .i64 8, .bool false] 0 .yes),
  (62, .cells [.slice (some (61, 0)) 9 (some 9), .int .i64 0] 0 .yes),
  (63, .cells [.int .u32 0, .slice none 0 (some 0), .bool false, .int .i64 0, .int .u32 0, .slice none 0 (some 0), .bool false, .int .i64 0, .int .u32 0, .slice none 0 (some 0), .bool false, .int .i64 0, .int .u32 0, .slice none 0 (some 0), .bool false, .int .i64 0, .int .u32 0, .slice none 0 (some 0), .bool false, .int .i64 0, .int .u32 0, .slice none 0 (some 0), .bool false, .int .i64 0, .int .u32 0, .slice none 0 (some 0), .bool false, .int .i64 0, .int .u32 1, .slice (some (134, 0)) 200 none, .bool false, .int .i64 1] 0 .yes),
  (64, .map [(.int .u32 1, .int .i64 7, 0)] 1),
  (65, .cells [.ptr (some (50, 0)), .slice (some (63, 0)) 8 (some 8), .map (some 64), .slice (some (81, 0)) 7 none, .ptr (some (62, 0))] 0 .yes),
  (81, .cells [.int .i64 0, .int .i64 1, .int .i64 2, .int .i64 3, .int .i64 4, .int .i64 5, .int .i64 6, .int .i64 7] 1 .yes),
  (82, .cells [.int .u64 3] 0 .yes),
  (83, .cells [.int .i64 9, .int .i64 2, .slice (some (82, 0)) 1 (some 1)] 0 .yes),
  (84, .cells [.ptr (some (83, 0))] 0 .yes),
  (85, .cells [.int .i64 9, .int .i64 200, .int .i64 8, .int .i64 8, .int .i64 16, .int .i64 16, .int .i64 2, .int .i64 1, .ptr (some (50, 0)), .ptr (some (65, 0)), .ptr (some (84, 0)), .int .u32 1] 0 .yes),
  (134, .cells (by8 [1] ++ (nul 199)) 1 (.of 5)),
  (136, .cells [.ptr (some (85, 0)), .int .u32 1, .int .i64 0, .int .i64 0, .int .i64 0, .int .i64 0] 0 .yes),
  (138, .cells [.ptr (some (50, 0)), .ptr (some (136, 0))] 0 .yes),
  (274, .cells [.int .i64 9, .int .i64 200, .int .i64 8, .int .i64 8, .int .i64 16, .int .i64 16, .int .i64 2, .int .i64 1, .ptr (some (138, 0)), .bool true, .int .u64 0, .int .u64 0, .int .u64 0, .int .u64 0] 0 .yes),
  (275, .cells [] 0 .yes)] }

noncomputable def mhk4F (args : List AV) (M : AMem) : Option (AV × AMem) := match mhk3 7 with
  | some h => h args M
  | none => acall Tryz.prog mhk3 1000 7 args M

noncomputable def mhk4 : Hook := fun f => match f with
  | 7 => some (cutAt [mcut4] mhk4F)
  | _ => mhk3 f

def mcut5 : Cut := {
 args := [.agg [.int .i64 9, .int .i64 200, .int .i64 8, .int .i64 8, .int .i64 16, .int .i64 16, .int .i64 2, .int .i64 1], .slice (some (298, 0)) 200 none], nin := 299,
 lin := [(1, .ro (by8 [0, 1, 56, 2, 57, 49, 28, 3, 61, 58, 42, 50, 38, 29, 17, 4, 62, 47, 59, 36, 45, 43, 51, 22, 53, 39, 33, 30, 24, 18, 12, 5, 63, 55, 48, 27, 60, 41, 37, 16, 46, 35, 44, 21, 52, 32, 23, 11, 54, 26, 40, 15, 34, 20, 31, 10, 25, 14, 19, 9, 13, 8, 7, 6])),
  (298, .cells (by8 [1] ++ (nul 199)) 1 (.of 5))],
 v := .tup [.agg [.int .i64 0, .slice none 0 (some 0), .slice none 0 (some 0), .slice none 0 (some 0), .slice none 0 (some 0)], .int .i64 0], nout := 364, ldel := [],
 lset := [] }

noncomputable def mhk5F (args : List AV) (M : AMem) : Option (AV × AMem) := match mhk4 215 with
  | some h => h args M
  | none => acall Tryz.prog mhk4 1000 215 args M

noncomputable def mhk5 : Hook := fun f => match f with
  | 215 => some (cutAt [mcut5] mhk5F)
  | _ => mhk4 f

def mcut6 : Cut := {
 args := [.ptr (some (85, 0)), .int .u32 1, .agg [.str [], .str [255, 255, 255], .bool false], .int .i64 64], nin := 292,
 lin := [(1, .ro (by8 [0, 1, 56, 2, 57, 49, 28, 3, 61, 58, 42, 50, 38, 29, 17, 4, 62, 47, 59, 36, 45, 43, 51, 22, 53, 39, 33, 30, 24, 18, 12, 5, 63, 55, 48, 27, 60, 41, 37, 16, 46, 35, 44, 21, 52, 32, 23, 11, 54, 26, 40, 15, 34, 20, 31, 10, 25, 14, 19, 9, 13, 8, 7, 6])),
  (49, .cells (by8 [83, 76, 85, 73, 67, 69, 48, 49, 0, 0, 0, 9, 0, 0, 0, 200, 0, 0, 0, 8, 0, 0, 0, 8, 0, 0, 0, 16, 0, 0, 0, 16, 0, 0, 0, 2, 0, 0, 0, 1, 0, 0, 0, 1, 0, 0, 0, 1, 0, 0, 0, 0, 0, 0, 0, 0, 0, 0, 0, 0, 166, 13, 3, 45] ++ (nul 136 ++ (by8 [1] ++ (nul 1599)))) 0 .yes),
  (50, .cells [.int .i64 200, .slice (some (49, 0)) 1800 (some 1800), .int .u64 0, .int .u64 2] 0 .yes),
  (61, .cells [.int .i64 0, .int .i64 0, .bool false, .int .i64 0, .int .i64 0, .bool false, .int .i64 0, .int .i64 0, .bool false, .int .i64 0, .int .i64 0, .bool false, .int .i64 0, .int .i64 0, .bool false, .int .i64 0, .int .i64 0, .bool false, .int .i64 0, .int .i64 0, .bool false, .int .i64 0, .int .i64 0, .bool false, .int .i64 8, .int .i64 8, .bool false] 0 .yes),
  (62, .cells [.slice (some (61, 0)) 9 (some 9), .int .i64 0] 0 .yes),
  (63, .cells [.int .u32 0, .slice none 0 (some 0), .bool false, .int .i64 0, .int .u32 0, .slice none 0 (some 0), .bool false, .int .i64 0, .int .u32 0, .slice none 0 (some 0), .bool false, .int .i64 0, .int .u32 0, .slice none 0 (some 0), .bool false, .int .i64 0, .int .u32 0, .slice none 0 (some 0), .bool false, .int .i64 0, .int .u32 0, .slice none 0 (some 0), .bool false, .int .i64 0, .int .u32 0, .slice none 0 (some 0), .bool false, .int .i64 0, .int .u32 1, .slice (some (134, 0)) 200 none, .bool false, .int .i64 1] 0 .yes),
  (64, .map [(.int .u32 1, .int .i64 7, 0)] 1),
  (65, .cells [.ptr (some (50, 0)), .slice (some (63, 0)) 8 (some 8), .map (some 64), .slice (some (81, 0)) 7 none, .ptr (some (62, 0))] 0 .yes),
  (81, .cells [.int .i64 0, .int .i64 1, .int .i64 2, .int .i64 3, .int .i64 4, .int .i64 5, .int .i64 6, .int .i64 7] 1 .yes),
  (82, .cells [.int .u64 3] 0 .yes),
  (83, .cells [.int .i64 9, .int .i64 2, .slice (some (82, 0)) 1 (some 1)] 0 .yes),
  (84, .cells [.ptr (some (83, 0))] 0 .yes),
  (85, .cells [.int .i64 9, .int .i64 200, .int .i64 8, .int .i64 8, .int .i64 16, .int .i64 16, .int .i64 2, .int .i64 1, .ptr (some (50, 0)), .ptr (some (65, 0)), .ptr (some (84, 0)), .int .u32 1] 0 .yes),
  (134, .cells (by8 [1] ++ (nul 199)) 1 (.of 5))],
 v := .tup [.slice none 0 (some 0), .int .i64 0], nout := 367, ldel := [],
 lset := [] }

noncomputable def mhk6F (args : List AV) (M : AMem) : Option (AV × AMem) := match mhk5 97 with
  | some h => h args M
  | none => acall Tryz.prog mhk5 1000 97 args M

noncomputable def mhk6 : Hook := fun f => match f with
  | 97 => some (cutAt [mcut6] mhk6F)
  | _ => mhk5 f

def mcut7 : Cut := {
 args := [.ptr (some (274, 0)), .ptr none], nin := 276,
 lin := [(1, .ro (by8 [0, 1, 56, 2, 57, 49, 28, 3, 61, 58, 42, 50, 38, 29, 17, 4, 62, 47, 59, 36, 45, 43, 51, 22, 53, 39, 33, 30, 24, 18, 12, 5, 63, 55, 48, 27, 60, 41, 37, 16, 46, 35, 44, 21, 52, 32, 23, 11, 54, 26, 40, 15, 34, 20, 31, 10, 25, 14, 19, 9, 13, 8, 7, 6])),
  (49, .cells (by8 [83, 76, 85, 73, 67, 69, 48, 49, 0, 0, 0, 9, 0, 0, 0, 200, 0, 0, 0, 8, 0, 0, 0, 8, 0, 0, 0, 16, 0, 0, 0, 16, 0, 0, 0, 2, 0, 0, 0, 1, 0, 0, 0, 1, 0, 0, 0, 1, 0, 0, 0, 0, 0, 0, 0, 0, 0, 0, 0, 0, 166, 13, 3, 45] ++ (nul 136 ++ (by8 [1] ++ (nul 1599)))) 0 .yes),
  (50, .cells [.int .i64 200, .slice (some (49, 0)) 1800 (some 1800), .int .u64 0, .int .u64 2] 0 .yes),
  (61, .cells [.int .i64 0, .int .i64 0, .bool false, .int .i64 0, .int .i64 0, .bool false, .int .i64 0, .int .i64 0, .bool false, .int .i64 0, .int .i64 0, .bool false, .int .i64 0, .int .i64 0, .bool false, .int .i64 0, .int .i64 0, .bool false, .int .i64 0, .int .i64 0, .bool false, .int .i64 0, .int .i64 0, .bool false, .int .i64 8, .int .i64 8, .bool false] 0 .yes),
  (62, .cells [.slice (some (61, 0)) 9 (some 9), .int .i64 0] 0 .yes),
  (63, .cells [.int .u32 0, .slice none 0 (some 0), .bool false, .int .i64 0, .int .u32 0, .slice none 0 (some 0), .bool false, .int .i64 0, .int .u32 0, .slice none 0 (some 0), .bool false, .int .i64 0, .int .u32 0, .slice none 0 (some 0), .bool false, .int .i64 0, .int .u32 0, .slice none 0 (some 0), .bool false, .int .i64 0, .int .u32 0, .slice none 0 (some 0), .bool false, .int .i64 0, .int .u32 0, .slice none 0 (some 0), .bool false, .int .i64 0, .int .u32 1, .slice (some (134, 0)) 200 none, .bool false, .int .i64 1] 0 .yes),
  (64, .map [(.int .u32 1, .int .i64 7, 0)] 1),
  (65, .cells [.ptr (some (50, 0)), .slice (some (63, 0)) 8 (some 8), .map (some 64), .slice (some (81, 0)) 7 none, .ptr (some (62, 0))] 0 .yes),
  (81, .cells [.int .i64 0, .int .i64 1, .int .i64 2, .int .i64 3, .int .i64 4, .int .i64 5, .int .i64 6, .int .i64 7] 1 .yes),
  (82, .cells [.int .u64 3] 0 .yes),
  (83, .cells [.int .i64 9, .int .i64 2, .slice (some (82, 0)) 1 (some 1)] 0 .yes),
  (84, .cells [.ptr (some (83, 0))] 0 .yes),
  (85, .cells [.int .i64 9, .int .i64 200, .int .i64 8, .int .i64 8, .int .i64 16, .int .i64 16, .int .i64 2, .int .i64 1, .ptr (some (50, 0)), .ptr (some (65, 0)), .ptr (some (84, 0)), .int .u32 1] 0 .yes),
  (134, .cells (by8 [1] ++ (nul 199)) 1 (.of 5)),
  (136, .cells [.ptr (some (85, 0)), .int .u32 1, .int .i64 0, .int .i64 0, .int .i64 0, .int .i64 0] 0 .yes),
  (138, .cells [.ptr (some (50, 0)), .ptr (some (136, 0))] 0 .yes),
  (274, .cells [.int .i64 9, .int .i64 200, .int .i64 8, .int .i64 8, .int .i64 16, .int .i64 16, .int .i64 2, .int .i64 1, .ptr (some (138, 0)), .bool true, .int .u64 0, .int .u64 0, .int .u64 0, .int .u64 0] 0 .yes)],
 v := .tup [.slice none 0 (some 0), .int .i64 1], nout := 376, ldel := [],
 lset := [] }

noncomputable def mhk7F (args : List AV) (M : AMem) : Option (AV × AMem) := match mhk6 8 with
  | some h => h args M
  | none => acall Tryz.prog mhk6 1000 8 args M

noncomputable def mhk7 : Hook := fun f => match f with
  | 8 => some (cutAt [mcut7] mhk7F)
  | _ => mhk6 f

def mcut8 : Cut := {
 args := [.ptr (some (138, 0))], nin := 380,
 lin := [(1, .ro (by8 [0, 1, 56, 2, 57, 49, 28, 3, 61, 58, 42, 50, 38, 29, 17, 4, 62, 47, 59, 36, 45, 43, 51, 22, 53, 39, 33, 30, 24, 18, 12, 5, 63, 55, 48, 27, 60, 41, 37, 16, 46, 35, 44, 21, 52, 32, 23, 11, 54, 26, 40, 15, 34, 20, 31, 10, 25, 14, 19, 9, 13, 8, 7, 6])),
  (49, .cells (by8 [83, 76, 85, 73, 67, 69, 48, 49, 0, 0, 0, 9, 0, 0, 0, 200, 0, 0, 0, 8, 0, 0, 0, 8, 0, 0, 0, 16, 0, 0, 0, 16, 0, 0, 0, 2, 0, 0, 0, 1, 0, 0, 0, 1, 0, 0, 0, 1, 0, 0, 0, 0, 0, 0, 0, 0, 0, 0, 0, 0, 166, 13, 3, 45] ++ (nul 136 ++ (by8 [1] ++ (nul 1599)))) 0 .yes),
  (50, .cells [.int .i64 200, .slice (some (49, 0)) 1800 (some 1800), .int .u64 0, .int .u64 2] 0 .yes),
  (61, .cells [.int .i64 0, .int .i64 0, .bool false, .int .i64 0, .int .i64 0, .bool false, .int .i64 0, .int .i64 0, .bool false, .int .i64 0, .int .i64 0, .bool false, .int .i64 0, .int .i64 0, .bool false, .int .i64 0, .int .i64 0, .bool false, .int .i64 0, .int .i64 0, .bool false, .int .i64 0, .int .i64 0, .bool false, .int .i64 8, .int .i64 8, .bool false] 0 .yes),
  (62, .cells [.slice (some (61, 0)) 9 (some 9), .int .i64 0] 0 .yes),
  (63, .cells [.int .u32 0, .slice none 0 (some 0), .bool false, .int .i64 0, .int .u32 0, .slice none 0 (some 0), .bool false, .int .i64 0, .int .u32 0, .slice none 0 (some 0), .bool false, .int .i64 0, .int .u32 0, .slice none 0 (some 0), .bool false, .int .i64 0, .int .u32 0, .slice none 0 (some 0), .bool false, .int .i64 0, .int .u32 0, .slice none 0 (some 0), .bool false, .int .i64 0, .int .u32 0, .slice none 0 (some 0), .bool false, .int .i64 0, .int .u32 1, .slice (some (134, 0)) 200 none, .bool false, .int .i64 1] 0 .yes),
  (64, .map [(.int .u32 1, .int .i64 7, 0)] 1),
  (65, .cells [.ptr (some (50, 0)), .slice (some (63, 0)) 8 (some 8), .map (some 64), .slice (some (81, 0)) 7 none, .ptr (some (62, 0))] 0 .yes),
  (81, .cells [.int .i64 0, .int .i64 1, .int .i64 2, .int .i64 3, .int .i64 4, .int .i64 5, .int .i64 6, .int .i64 7] 1 .yes),
  (82, .cells [.int .u64 3] 0 .yes),
  (83, .cells [.int .i64 9, .int .i64 2, .slice (some (82, 0)) 1 (some 1)] 0 .yes),
  (84, .cells [.ptr (some (83, 0))] 0 .yes),
  (85, .cells [.int .i64 9, .int .i64 200, .int .i64 8, .int .i64 8, .int .i64 16, .int .i64 16, .int .i64 2, .int .i64 1, .ptr (some (50, 0)), .ptr (some (65, 0)), .ptr (some (84, 0)), .int .u32 1] 0 .yes),
  (134, .cells (by8 [1] ++ (nul 199)) 1 (.of 5)),
  (136, .cells [.ptr (some (85, 0)), .int .u32 1, .int .i64 0, .int .i64 0, .int .i64 0, .int .i64 0] 0 .yes),
  (138, .cells [.ptr (some (50, 0)), .ptr (some (136, 0))] 0 .yes)],
 v := .int .i64 0, nout := 511, ldel := [],
 lset := [(50, .cells [.int .i64 200, .slice (some (49, 0)) 1800 (some 1800), .int .u64 0, .int .u64 3] 0 .yes)] }

noncomputable def mhk8F (args : List AV) (M : AMem) : Option (AV × AMem) := match mhk7 26 with
  | some h => h args M
  | none => acall Tryz.prog mhk7 1000 26 args M

noncomputable def mhk8 : Hook := fun f => match f with
  | 26 => some (cutAt [mcut8] mhk8F)
  | _ => mhk7 f

def mcut9 : Cut := {
 args := [.ptr (some (274, 0))], nin := 376,
 lin := [(1, .ro (by8 [0, 1, 56, 2, 57, 49, 28, 3, 61, 58, 42, 50, 38, 29, 17, 4, 62, 47, 59, 36, 45, 43, 51, 22, 53, 39, 33, 30, 24, 18, 12, 5, 63, 55, 48, 27, 60, 41, 37, 16, 46, 35, 44, 21, 52, 32, 23, 11, 54, 26, 40, 15, 34, 20, 31, 10, 25, 14, 19, 9, 13, 8, 7, 6])),
  (49, .cells (by8 [83, 76, 85, 73, 67, 69, 48, 49, 0, 0, 0, 9, 0, 0, 0, 200, 0, 0, 0, 8, 0, 0, 0, 8, 0, 0, 0, 16, 0, 0, 0, 16, 0, 0, 0, 2, 0, 0, 0, 1, 0, 0, 0, 1, 0, 0, 0, 1, 0, 0, 0, 0, 0, 0, 0, 0, 0, 0, 0, 0, 166, 13, 3, 45] ++ (nul 136 ++ (by8 [1] ++ (nul 1599)))) 0 .yes),
  (50, .cells [.int .i64 200, .slice (some (49, 0)) 1800 (some 1800), .int .u64 0, .int .u64 2] 0 .yes),
  (61, .cells [.int .i64 0, .int .i64 0, .bool false, .int .i64 0, .int .i64 0, .bool false, .int .i64 0, .int .i64 0, .bool false, .int .i64 0, .int .i64 0, .bool false, .int .i64 0, .int .i64 0, .bool false, .int .i64 0, .int .i64 0, .bool false, .int .i64 0, .int .i64 0, .bool false, .int .i64 0, .int .i64 0, .bool false, .int .i64 8, .int .i64 8, .bool false] 0 .yes),
  (62, .cells [.slice (some (61, 0)) 9 (some 9), .int .i64 0] 0 .yes),
  (63, .cells [.int .u32 0, .slice none 0 (some 0), .bool false, .int .i64 0, .int .u32 0, .slice none 0 (some 0), .bool false, .int .i64 0, .int .u32 0, .slice none 0 (some 0), .bool false, .int .i64 0, .int .u32 0, .slice none 0 (some 0), .bool false, .int .i64 0, .int .u32 0, .slice none 0 (some 0), .bool false, .int .i64 0, .int .u32 0, .slice none 0 (some 0), .bool false, .int .i64 0, .int .u32 0, .slice none 0 (some 0), .bool false, .int .i64 0, .int .u32 1, .slice (some (134, 0)) 200 none, .bool false, .int .i64 1] 0 .yes),
  (64, .map [(.int .u32 1, .int .i64 7, 0)] 1),
  (65, .cells [.ptr (some (50, 0)), .slice (some (63, 0)) 8 (some 8), .map (some 64), .slice (some (81, 0)) 7 none, .ptr (some (62, 0))] 0 .yes),
  (81, .cells [.int .i64 0, .int .i64 1, .int .i64 2, .int .i64 3, .int .i64 4, .int .i64 5, .int .i64 6, .int .i64 7] 1 .yes),
  (82, .cells [.int .u64 3] 0 .yes),
  (83, .cells [.int .i64 9, .int .i64 2, .slice (some (82, 0)) 1 (some 1)] 0 .yes),
  (84, .cells [.ptr (some (83, 0))] 0 .yes),
  (85, .cells [.int .i64 9, .int .i64 200, .int .i64 8, .int .i64 8, .int .i64 16, .int .i64 16, .int .i64 2, .int .i64 1, .ptr (some (50, 0)), .ptr (some (65, 0)), .ptr (some (84, 0)), .int .u32 1] 0 .yes),
  (134, .cells (by8 [1] ++ (nul 199)) 1 (.of 5)),
  (136, .cells [.ptr (some (85, 0)), .int .u32 1, .int .i64 0, .int .i64 0, .int .i64 0, .int .i64 0] 0 .yes),
  (138, .cells [.ptr (some (50, 0)), .ptr (some (136, 0))] 0 .yes),
  (274, .cells [.int .i64 9, .int .i64 200, .int .i64 8, .int .i64 8, .int .i64 16, .int .i64 16, .int .i64 2, .int .i64 1, .ptr (some (138, 0)), .bool true, .int .u64 0, .int .u64 0, .int .u64 0, .int .u64 0] 0 .yes)],
 v := .tup [.slice (some (512, 0)) 1800 none, .int .i64 0], nout := 520, ldel := [],
 lset := [(50, .cells [.int .i64 200, .slice (some (49, 0)) 1800 (some 1800), .int .u64 0, .int .u64 3] 0 .yes),
  (274, .cells [.int .i64 9, .int .i64 200, .int .i64 8, .int .i64 8, .int .i64 16, .int .i64 16, .int .i64 2, .int .i64 1, .ptr none, .bool true, .int .u64 0, .int .u64 1, .int .u64 0, .int .u64 1] 0 .yes),
  (512, .cells (by8 [83, 76, 85, 73, 67, 69, 48, 49, 0, 0, 0, 9, 0, 0, 0, 200, 0, 0, 0, 8, 0, 0, 0, 8, 0, 0, 0, 16, 0, 0, 0, 16, 0, 0, 0, 2, 0, 0, 0, 1, 0, 0, 0, 1, 0, 0, 0, 1, 0, 0, 0, 0, 0, 0, 0, 0, 0, 0, 0, 0, 166, 13, 3, 45] ++ (nul 136 ++ (by8 [1] ++ (nul 1599)))) 1 (.of 5))] }

noncomputable def mhk9F (args : List AV) (M : AMem) : Option (AV × AMem) := match mhk8 9 with
  | some h => h args M
  | none => acall Tryz.prog mhk8 1000 9 args M

noncomputable def mhk9 : Hook := fun f => match f with
  | 9 => some (cutAt [mcut9] mhk9F)
  | _ => mhk8 f

end Go.Proofs.YtkmfndahppabiaaGreatDoor
