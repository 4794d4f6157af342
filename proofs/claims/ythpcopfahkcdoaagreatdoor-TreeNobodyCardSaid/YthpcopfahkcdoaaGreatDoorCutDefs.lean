/-
  5 cuts and their hooks. Printed by wip/tool/mkcuts5.py.
-/
import Derived.Test.YthpcopfahkcdoaaGreatDoorPre
namespace Go.Proofs.YthpcopfahkcdoaaGreatDoor
open Go Go.Ab Go.Proofs
set_option linter.unusedVariables false
set_option maxRecDepth 100000

def by8 (l : List Int) : List AV := l.map (AV.int .u8)
def nul (n : Nat) : List AV := List.replicate n (.int .u8 0)

def cut1 : Cut := {
 args := [.ptr (some (40, 0))], nin := 41,
 lin := [(1, .ro (by8 [0, 1, 56, 2, 57, 49, 28, 3, 61, 58, 42, 50, 38, 29, 17, 4, 62, 47, 59, 36, 45, 43, 51, 22, 53, 39, 33, 30, 24, 18, 12, 5, 63, 55, 48, 27, 60, 41, 37, 16, 46, 35, 44, 21, 52, 32, 23, 11, 54, 26, 40, 15, 34, 20, 31, 10, 25, 14, 19, 9, 13, 8, 7, 6])),
  (4, .cells (nul 1800) 0 .yes),
  (5, .cells [.int .i64 200, .slice (some (4, 0)) 1800 (some 1800), .int .u64 0, .int .u64 0] 0 .yes),
  (16, .cells [.int .i64 0, .int .i64 0, .bool false, .int .i64 0, .int .i64 0, .bool false, .int .i64 0, .int .i64 0, .bool false, .int .i64 0, .int .i64 0, .bool false, .int .i64 0, .int .i64 0, .bool false, .int .i64 0, .int .i64 0, .bool false, .int .i64 0, .int .i64 0, .bool false, .int .i64 0, .int .i64 0, .bool false, .int .i64 8, .int .i64 8, .bool false] 0 .yes),
  (17, .cells [.slice (some (16, 0)) 9 (some 9), .int .i64 0] 0 .yes),
  (18, .cells [.int .u32 0, .slice none 0 (some 0), .bool false, .int .i64 0, .int .u32 0, .slice none 0 (some 0), .bool false, .int .i64 0, .int .u32 0, .slice none 0 (some 0), .bool false, .int .i64 0, .int .u32 0, .slice none 0 (some 0), .bool false, .int .i64 0, .int .u32 0, .slice none 0 (some 0), .bool false, .int .i64 0, .int .u32 0, .slice none 0 (some 0), .bool false, .int .i64 0, .int .u32 0, .slice none 0 (some 0), .bool false, .int .i64 0, .int .u32 0, .slice none 0 (some 0), .bool false, .int .i64 0] 0 .yes),
  (19, .map [] 0),
  (20, .cells [.ptr (some (5, 0)), .slice (some (18, 0)) 8 (some 8), .map (some 19), .slice (some (36, 0)) 8 none, .ptr (some (17, 0))] 0 .yes),
  (36, .cells [.int .i64 0, .int .i64 1, .int .i64 2, .int .i64 3, .int .i64 4, .int .i64 5, .int .i64 6, .int .i64 7] 1 .yes),
  (37, .cells [.int .u64 1] 0 .yes),
  (38, .cells [.int .i64 9, .int .i64 1, .slice (some (37, 0)) 1 (some 1)] 0 .yes),
  (39, .cells [.ptr (some (38, 0))] 0 .yes),
  (40, .cells [.int .i64 9, .int .i64 200, .int .i64 8, .int .i64 8, .int .i64 16, .int .i64 16, .int .i64 2, .int .i64 1, .ptr (some (5, 0)), .ptr (some (20, 0)), .ptr (some (39, 0)), .int .u32 0] 0 .yes)],
 v := .tup [.ptr (some (91, 0)), .int .i64 0], nout := 93, ldel := [],
 lset := [(18, .cells [.int .u32 0, .slice none 0 (some 0), .bool false, .int .i64 0, .int .u32 0, .slice none 0 (some 0), .bool false, .int .i64 0, .int .u32 0, .slice none 0 (some 0), .bool false, .int .i64 0, .int .u32 0, .slice none 0 (some 0), .bool false, .int .i64 0, .int .u32 0, .slice none 0 (some 0), .bool false, .int .i64 0, .int .u32 0, .slice none 0 (some 0), .bool false, .int .i64 0, .int .u32 0, .slice none 0 (some 0), .bool false, .int .i64 0, .int .u32 1, .slice (some (89, 0)) 200 none, .bool true, .int .i64 1] 0 .yes),
  (19, .map [(.int .u32 1, .int .i64 7, 0)] 1),
  (20, .cells [.ptr (some (5, 0)), .slice (some (18, 0)) 8 (some 8), .map (some 19), .slice (some (36, 0)) 7 none, .ptr (some (17, 0))] 0 .yes),
  (37, .cells [.int .u64 3] 0 .yes),
  (38, .cells [.int .i64 9, .int .i64 2, .slice (some (37, 0)) 1 (some 1)] 0 .yes),
  (40, .cells [.int .i64 9, .int .i64 200, .int .i64 8, .int .i64 8, .int .i64 16, .int .i64 16, .int .i64 2, .int .i64 1, .ptr (some (5, 0)), .ptr (some (20, 0)), .ptr (some (39, 0)), .int .u32 1] 0 .yes),
  (89, .cells (by8 [1] ++ (nul 199)) 1 (.of 5)),
  (91, .cells [.ptr (some (40, 0)), .int .u32 1, .int .i64 0, .int .i64 0, .int .i64 0, .int .i64 0] 0 .yes)] }

noncomputable def hk1F (args : List AV) (M : AMem) : Option (AV × AMem) := match hkB 10 with
  | some h => h args M
  | none => acall Tryz.prog hkB 400 10 args M

noncomputable def hk1 : Hook := fun f => match f with
  | 10 => some (cutAt [cut1] hk1F)
  | _ => hkB f

def cut2 : Cut := {
 args := [.agg [.int .i64 9, .int .i64 200, .int .i64 8, .int .i64 8, .int .i64 16, .int .i64 16, .int .i64 2, .int .i64 1]], nin := 2,
 lin := [(1, .ro (by8 [0, 1, 56, 2, 57, 49, 28, 3, 61, 58, 42, 50, 38, 29, 17, 4, 62, 47, 59, 36, 45, 43, 51, 22, 53, 39, 33, 30, 24, 18, 12, 5, 63, 55, 48, 27, 60, 41, 37, 16, 46, 35, 44, 21, 52, 32, 23, 11, 54, 26, 40, 15, 34, 20, 31, 10, 25, 14, 19, 9, 13, 8, 7, 6]))],
 v := .ptr (some (91, 0)), nout := 93, ldel := [],
 lset := [(4, .cells (nul 1800) 0 .yes),
  (5, .cells [.int .i64 200, .slice (some (4, 0)) 1800 (some 1800), .int .u64 0, .int .u64 0] 0 .yes),
  (16, .cells [.int .i64 0, .int .i64 0, .bool false, .int .i64 0, .int .i64 0, .bool false, .int .i64 0, .int .i64 0, .bool false, .int .i64 0, .int .i64 0, .bool false, .int .i64 0, .int .i64 0, .bool false, .int .i64 0, .int .i64 0, .bool false, .int .i64 0, .int .i64 0, .bool false, .int .i64 0, .int .i64 0, .bool false, .int .i64 8, .int .i64 8, .bool false] 0 .yes),
  (17, .cells [.slice (some (16, 0)) 9 (some 9), .int .i64 0] 0 .yes),
  (18, .cells [.int .u32 0, .slice none 0 (some 0), .bool false, .int .i64 0, .int .u32 0, .slice none 0 (some 0), .bool false, .int .i64 0, .int .u32 0, .slice none 0 (some 0), .bool false, .int .i64 0, .int .u32 0, .slice none 0 (some 0), .bool false, .int .i64 0, .int .u32 0, .slice none 0 (some 0), .bool false, .int .i64 0, .int .u32 0, .slice none 0 (some 0), .bool false, .int .i64 0, .int .u32 0, .slice none 0 (some 0), .bool false, .int .i64 0, .int .u32 1, .slice (some (89, 0)) 200 none, .bool true, .int .i64 1] 0 .yes),
  (19, .map [(.int .u32 1, .int .i64 7, 0)] 1),
  (20, .cells [.ptr (some (5, 0)), .slice (some (18, 0)) 8 (some 8), .map (some 19), .slice (some (36, 0)) 7 none, .ptr (some (17, 0))] 0 .yes),
  (36, .cells [.int .i64 0, .int .i64 1, .int .i64 2, .int .i64 3, .int .i64 4, .int .i64 5, .int .i64 6, .int .i64 7] 1 .yes),
  (37, .cells [.int .u64 3] 0 .yes),
  (38, .cells [.int .i64 9, .int .i64 2, .slice (some (37, 0)) 1 (some 1)] 0 .yes),
  (39, .cells [.ptr (some (38, 0))] 0 .yes),
  (40, .cells [.int .i64 9, .int .i64 200, .int .i64 8, .int .i64 8, .int .i64 16, .int .i64 16, .int .i64 2, .int .i64 1, .ptr (some (5, 0)), .ptr (some (20, 0)), .ptr (some (39, 0)), .int .u32 1] 0 .yes),
  (89, .cells (by8 [1] ++ (nul 199)) 1 (.of 5)),
  (91, .cells [.ptr (some (40, 0)), .int .u32 1, .int .i64 0, .int .i64 0, .int .i64 0, .int .i64 0] 0 .yes)] }

noncomputable def hk2F (args : List AV) (M : AMem) : Option (AV × AMem) := match hk1 29 with
  | some h => h args M
  | none => acall Tryz.prog hk1 400 29 args M

noncomputable def hk2 : Hook := fun f => match f with
  | 29 => some (cutAt [cut2] hk2F)
  | _ => hk1 f

def cut3 : Cut := {
 args := [.ptr (some (91, 0)), .agg [.str [97], .bool false, .str [49]]], nin := 93,
 lin := [(1, .ro (by8 [0, 1, 56, 2, 57, 49, 28, 3, 61, 58, 42, 50, 38, 29, 17, 4, 62, 47, 59, 36, 45, 43, 51, 22, 53, 39, 33, 30, 24, 18, 12, 5, 63, 55, 48, 27, 60, 41, 37, 16, 46, 35, 44, 21, 52, 32, 23, 11, 54, 26, 40, 15, 34, 20, 31, 10, 25, 14, 19, 9, 13, 8, 7, 6])),
  (4, .cells (nul 1800) 0 .yes),
  (5, .cells [.int .i64 200, .slice (some (4, 0)) 1800 (some 1800), .int .u64 0, .int .u64 0] 0 .yes),
  (16, .cells [.int .i64 0, .int .i64 0, .bool false, .int .i64 0, .int .i64 0, .bool false, .int .i64 0, .int .i64 0, .bool false, .int .i64 0, .int .i64 0, .bool false, .int .i64 0, .int .i64 0, .bool false, .int .i64 0, .int .i64 0, .bool false, .int .i64 0, .int .i64 0, .bool false, .int .i64 0, .int .i64 0, .bool false, .int .i64 8, .int .i64 8, .bool false] 0 .yes),
  (17, .cells [.slice (some (16, 0)) 9 (some 9), .int .i64 0] 0 .yes),
  (18, .cells [.int .u32 0, .slice none 0 (some 0), .bool false, .int .i64 0, .int .u32 0, .slice none 0 (some 0), .bool false, .int .i64 0, .int .u32 0, .slice none 0 (some 0), .bool false, .int .i64 0, .int .u32 0, .slice none 0 (some 0), .bool false, .int .i64 0, .int .u32 0, .slice none 0 (some 0), .bool false, .int .i64 0, .int .u32 0, .slice none 0 (some 0), .bool false, .int .i64 0, .int .u32 0, .slice none 0 (some 0), .bool false, .int .i64 0, .int .u32 1, .slice (some (89, 0)) 200 none, .bool true, .int .i64 1] 0 .yes),
  (19, .map [(.int .u32 1, .int .i64 7, 0)] 1),
  (20, .cells [.ptr (some (5, 0)), .slice (some (18, 0)) 8 (some 8), .map (some 19), .slice (some (36, 0)) 7 none, .ptr (some (17, 0))] 0 .yes),
  (36, .cells [.int .i64 0, .int .i64 1, .int .i64 2, .int .i64 3, .int .i64 4, .int .i64 5, .int .i64 6, .int .i64 7] 1 .yes),
  (37, .cells [.int .u64 3] 0 .yes),
  (38, .cells [.int .i64 9, .int .i64 2, .slice (some (37, 0)) 1 (some 1)] 0 .yes),
  (39, .cells [.ptr (some (38, 0))] 0 .yes),
  (40, .cells [.int .i64 9, .int .i64 200, .int .i64 8, .int .i64 8, .int .i64 16, .int .i64 16, .int .i64 2, .int .i64 1, .ptr (some (5, 0)), .ptr (some (20, 0)), .ptr (some (39, 0)), .int .u32 1] 0 .yes),
  (89, .cells (by8 [1] ++ (nul 199)) 1 (.of 5)),
  (91, .cells [.ptr (some (40, 0)), .int .u32 1, .int .i64 0, .int .i64 0, .int .i64 0, .int .i64 0] 0 .yes)],
 v := .int .i64 0, nout := 238, ldel := [],
 lset := [(18, .cells [.int .u32 0, .slice none 0 (some 0), .bool false, .int .i64 0, .int .u32 0, .slice none 0 (some 0), .bool false, .int .i64 0, .int .u32 0, .slice none 0 (some 0), .bool false, .int .i64 0, .int .u32 0, .slice none 0 (some 0), .bool false, .int .i64 0, .int .u32 0, .slice none 0 (some 0), .bool false, .int .i64 0, .int .u32 0, .slice none 0 (some 0), .bool false, .int .i64 0, .int .u32 0, .slice none 0 (some 0), .bool false, .int .i64 0, .int .u32 1, .slice (some (236, 0)) 200 none, .bool true, .int .i64 1] 0 .yes),
  (91, .cells [.ptr (some (40, 0)), .int .u32 1, .int .i64 0, .int .i64 1, .int .i64 0, .int .i64 0] 0 .yes),
  (236, .cells (by8 [1, 0, 0, 1, 0, 0, 0, 0, 1, 0, 1, 97, 0, 49] ++ (nul 186)) 1 (.of 5))] }

noncomputable def hk3F (args : List AV) (M : AMem) : Option (AV × AMem) := match hk2 5 with
  | some h => h args M
  | none => acall Tryz.prog hk2 400 5 args M

noncomputable def hk3 : Hook := fun f => match f with
  | 5 => some (cutAt [cut3] hk3F)
  | _ => hk2 f

def cut4 : Cut := {
 args := [.ptr (some (91, 0)), .agg [.str [97], .bool true, .str []]], nin := 238,
 lin := [(1, .ro (by8 [0, 1, 56, 2, 57, 49, 28, 3, 61, 58, 42, 50, 38, 29, 17, 4, 62, 47, 59, 36, 45, 43, 51, 22, 53, 39, 33, 30, 24, 18, 12, 5, 63, 55, 48, 27, 60, 41, 37, 16, 46, 35, 44, 21, 52, 32, 23, 11, 54, 26, 40, 15, 34, 20, 31, 10, 25, 14, 19, 9, 13, 8, 7, 6])),
  (4, .cells (nul 1800) 0 .yes),
  (5, .cells [.int .i64 200, .slice (some (4, 0)) 1800 (some 1800), .int .u64 0, .int .u64 0] 0 .yes),
  (16, .cells [.int .i64 0, .int .i64 0, .bool false, .int .i64 0, .int .i64 0, .bool false, .int .i64 0, .int .i64 0, .bool false, .int .i64 0, .int .i64 0, .bool false, .int .i64 0, .int .i64 0, .bool false, .int .i64 0, .int .i64 0, .bool false, .int .i64 0, .int .i64 0, .bool false, .int .i64 0, .int .i64 0, .bool false, .int .i64 8, .int .i64 8, .bool false] 0 .yes),
  (17, .cells [.slice (some (16, 0)) 9 (some 9), .int .i64 0] 0 .yes),
  (18, .cells [.int .u32 0, .slice none 0 (some 0), .bool false, .int .i64 0, .int .u32 0, .slice none 0 (some 0), .bool false, .int .i64 0, .int .u32 0, .slice none 0 (some 0), .bool false, .int .i64 0, .int .u32 0, .slice none 0 (some 0), .bool false, .int .i64 0, .int .u32 0, .slice none 0 (some 0), .bool false, .int .i64 0, .int .u32 0, .slice none 0 (some 0), .bool false, .int .i64 0, .int .u32 0, .slice none 0 (some 0), .bool false, .int .i64 0, .int .u32 1, .slice (some (236, 0)) 200 none, .bool true, .int .i64 1] 0 .yes),
  (19, .map [(.int .u32 1, .int .i64 7, 0)] 1),
  (20, .cells [.ptr (some (5, 0)), .slice (some (18, 0)) 8 (some 8), .map (some 19), .slice (some (36, 0)) 7 none, .ptr (some (17, 0))] 0 .yes),
  (36, .cells [.int .i64 0, .int .i64 1, .int .i64 2, .int .i64 3, .int .i64 4, .int .i64 5, .int .i64 6, .int .i64 7] 1 .yes),
  (37, .cells [.int .u64 3] 0 .yes),
  (38, .cells [.int .i64 9, .int .i64 2, .slice (some (37, 0)) 1 (some 1)] 0 .yes),
  (39, .cells [.ptr (some (38, 0))] 0 .yes),
  (40, .cells [.int .i64 9, .int .i64 200, .int .i64 8, .int .i64 8, .int .i64 16, .int .i64 16, .int .i64 2, .int .i64 1, .ptr (some (5, 0)), .ptr (some (20, 0)), .ptr (some (39, 0)), .int .u32 1] 0 .yes),
  (91, .cells [.ptr (some (40, 0)), .int .u32 1, .int .i64 0, .int .i64 1, .int .i64 0, .int .i64 0] 0 .yes),
  (236, .cells (by8 [1, 0, 0, 1, 0, 0, 0, 0, 1, 0, 1, 97, 0, 49] ++ (nul 186)) 1 (.of 5))],
 v := .int .i64 0, nout := 392, ldel := [],
 lset := [(18, .cells [.int .u32 0, .slice none 0 (some 0), .bool false, .int .i64 0, .int .u32 0, .slice none 0 (some 0), .bool false, .int .i64 0, .int .u32 0, .slice none 0 (some 0), .bool false, .int .i64 0, .int .u32 0, .slice none 0 (some 0), .bool false, .int .i64 0, .int .u32 0, .slice none 0 (some 0), .bool false, .int .i64 0, .int .u32 0, .slice none 0 (some 0), .bool false, .int .i64 0, .int .u32 0, .slice none 0 (some 0), .bool false, .int .i64 0, .int .u32 1, .slice (some (390, 0)) 200 none, .bool true, .int .i64 1] 0 .yes),
  (91, .cells [.ptr (some (40, 0)), .int .u32 1, .int .i64 0, .int .i64 2, .int .i64 0, .int .i64 0] 0 .yes),
  (390, .cells (by8 [1] ++ (nul 199)) 1 (.of 5))] }

noncomputable def hk4F (args : List AV) (M : AMem) : Option (AV × AMem) := match hk3 5 with
  | some h => h args M
  | none => acall Tryz.prog hk3 400 5 args M

noncomputable def hk4 : Hook := fun f => match f with
  | 5 => some (cutAt [cut4] hk4F)
  | _ => hk3 f

def cut5 : Cut := {
 args := [.ptr (some (91, 0)), .str [97]], nin := 392,
 lin := [(1, .ro (by8 [0, 1, 56, 2, 57, 49, 28, 3, 61, 58, 42, 50, 38, 29, 17, 4, 62, 47, 59, 36, 45, 43, 51, 22, 53, 39, 33, 30, 24, 18, 12, 5, 63, 55, 48, 27, 60, 41, 37, 16, 46, 35, 44, 21, 52, 32, 23, 11, 54, 26, 40, 15, 34, 20, 31, 10, 25, 14, 19, 9, 13, 8, 7, 6])),
  (4, .cells (nul 1800) 0 .yes),
  (5, .cells [.int .i64 200, .slice (some (4, 0)) 1800 (some 1800), .int .u64 0, .int .u64 0] 0 .yes),
  (16, .cells [.int .i64 0, .int .i64 0, .bool false, .int .i64 0, .int .i64 0, .bool false, .int .i64 0, .int .i64 0, .bool false, .int .i64 0, .int .i64 0, .bool false, .int .i64 0, .int .i64 0, .bool false, .int .i64 0, .int .i64 0, .bool false, .int .i64 0, .int .i64 0, .bool false, .int .i64 0, .int .i64 0, .bool false, .int .i64 8, .int .i64 8, .bool false] 0 .yes),
  (17, .cells [.slice (some (16, 0)) 9 (some 9), .int .i64 0] 0 .yes),
  (18, .cells [.int .u32 0, .slice none 0 (some 0), .bool false, .int .i64 0, .int .u32 0, .slice none 0 (some 0), .bool false, .int .i64 0, .int .u32 0, .slice none 0 (some 0), .bool false, .int .i64 0, .int .u32 0, .slice none 0 (some 0), .bool false, .int .i64 0, .int .u32 0, .slice none 0 (some 0), .bool false, .int .i64 0, .int .u32 0, .slice none 0 (some 0), .bool false, .int .i64 0, .int .u32 0, .slice none 0 (some 0), .bool false, .int .i64 0, .int .u32 1, .slice (some (390, 0)) 200 none, .bool true, .int .i64 1] 0 .yes),
  (19, .map [(.int .u32 1, .int .i64 7, 0)] 1),
  (20, .cells [.ptr (some (5, 0)), .slice (some (18, 0)) 8 (some 8), .map (some 19), .slice (some (36, 0)) 7 none, .ptr (some (17, 0))] 0 .yes),
  (36, .cells [.int .i64 0, .int .i64 1, .int .i64 2, .int .i64 3, .int .i64 4, .int .i64 5, .int .i64 6, .int .i64 7] 1 .yes),
  (37, .cells [.int .u64 3] 0 .yes),
  (38, .cells [.int .i64 9, .int .i64 2, .slice (some (37, 0)) 1 (some 1)] 0 .yes),
  (39, .cells [.ptr (some (38, 0))] 0 .yes),
  (40, .cells [.int .i64 9, .int .i64 200, .int .i64 8, .int .i64 8, .int .i64 16, .int .i64 16, .int .i64 2, .int .i64 1, .ptr (some (5, 0)), .ptr (some (20, 0)), .ptr (some (39, 0)), .int .u32 1] 0 .yes),
  (91, .cells [.ptr (some (40, 0)), .int .u32 1, .int .i64 0, .int .i64 2, .int .i64 0, .int .i64 0] 0 .yes),
  (390, .cells (by8 [1] ++ (nul 199)) 1 (.of 5))],
 v := .tup [.str [], .bool false, .int .i64 0], nout := 468, ldel := [],
 lset := [] }

noncomputable def hk5F (args : List AV) (M : AMem) : Option (AV × AMem) := match hk4 4 with
  | some h => h args M
  | none => acall Tryz.prog hk4 400 4 args M

noncomputable def hk5 : Hook := fun f => match f with
  | 4 => some (cutAt [cut5] hk5F)
  | _ => hk4 f

end Go.Proofs.YthpcopfahkcdoaaGreatDoor
