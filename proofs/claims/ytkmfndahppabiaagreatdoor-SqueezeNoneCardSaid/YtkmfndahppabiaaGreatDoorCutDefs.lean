/-
  21 cuts and their hooks. Printed by wip/tool/mkcuts5.py.
-/
import Derived.Test.YtkmfndahppabiaaGreatDoorBase
namespace Go.Proofs.YtkmfndahppabiaaGreatDoor
open Go Go.Ab Go.Proofs
set_option linter.unusedVariables false
set_option maxRecDepth 100000

def by8 (l : List Int) : List AV := l.map (AV.int .u8)
def nul (n : Nat) : List AV := List.replicate n (.int .u8 0)

def cut1 : Cut := {
 args := [.ptr (some (59, 0))], nin := 60,
 lin := [(1, .ro (by8 [0, 1, 56, 2, 57, 49, 28, 3, 61, 58, 42, 50, 38, 29, 17, 4, 62, 47, 59, 36, 45, 43, 51, 22, 53, 39, 33, 30, 24, 18, 12, 5, 63, 55, 48, 27, 60, 41, 37, 16, 46, 35, 44, 21, 52, 32, 23, 11, 54, 26, 40, 15, 34, 20, 31, 10, 25, 14, 19, 9, 13, 8, 7, 6])),
  (23, .cells (nul 1800) 0 .yes),
  (24, .cells [.int .i64 200, .slice (some (23, 0)) 1800 (some 1800), .int .u64 0, .int .u64 0] 0 .yes),
  (35, .cells [.int .i64 0, .int .i64 0, .bool false, .int .i64 0, .int .i64 0, .bool false, .int .i64 0, .int .i64 0, .bool false, .int .i64 0, .int .i64 0, .bool false, .int .i64 0, .int .i64 0, .bool false, .int .i64 0, .int .i64 0, .bool false, .int .i64 0, .int .i64 0, .bool false, .int .i64 0, .int .i64 0, .bool false, .int .i64 8, .int .i64 8, .bool false] 0 .yes),
  (36, .cells [.slice (some (35, 0)) 9 (some 9), .int .i64 0] 0 .yes),
  (37, .cells [.int .u32 0, .slice none 0 (some 0), .bool false, .int .i64 0, .int .u32 0, .slice none 0 (some 0), .bool false, .int .i64 0, .int .u32 0, .slice none 0 (some 0), .bool false, .int .i64 0, .int .u32 0, .slice none 0 (some 0), .bool false, .int .i64 0, .int .u32 0, .slice none 0 (some 0), .bool false, .int .i64 0, .int .u32 0, .slice none 0 (some 0), .bool false, .int .i64 0, .int .u32 0, .slice none 0 (some 0), .bool false, .int .i64 0, .int .u32 0, .slice none 0 (some 0), .bool false, .int .i64 0] 0 .yes),
  (38, .map [] 0),
  (39, .cells [.ptr (some (24, 0)), .slice (some (37, 0)) 8 (some 8), .map (some 38), .slice (some (55, 0)) 8 none, .ptr (some (36, 0))] 0 .yes),
  (55, .cells [.int .i64 0, .int .i64 1, .int .i64 2, .int .i64 3, .int .i64 4, .int .i64 5, .int .i64 6, .int .i64 7] 1 .yes),
  (56, .cells [.int .u64 1] 0 .yes),
  (57, .cells [.int .i64 9, .int .i64 1, .slice (some (56, 0)) 1 (some 1)] 0 .yes),
  (58, .cells [.ptr (some (57, 0))] 0 .yes),
  (59, .cells [.int .i64 9, .int .i64 200, .int .i64 8, .int .i64 8, .int .i64 16, .int .i64 16, .int .i64 2, .int .i64 1, .ptr (some (24, 0)), .ptr (some (39, 0)), .ptr (some (58, 0)), .int .u32 0] 0 .yes)],
 v := .tup [.ptr (some (110, 0)), .int .i64 0], nout := 112, ldel := [],
 lset := [(37, .cells [.int .u32 0, .slice none 0 (some 0), .bool false, .int .i64 0, .int .u32 0, .slice none 0 (some 0), .bool false, .int .i64 0, .int .u32 0, .slice none 0 (some 0), .bool false, .int .i64 0, .int .u32 0, .slice none 0 (some 0), .bool false, .int .i64 0, .int .u32 0, .slice none 0 (some 0), .bool false, .int .i64 0, .int .u32 0, .slice none 0 (some 0), .bool false, .int .i64 0, .int .u32 0, .slice none 0 (some 0), .bool false, .int .i64 0, .int .u32 1, .slice (some (108, 0)) 200 none, .bool true, .int .i64 1] 0 .yes),
  (38, .map [(.int .u32 1, .int .i64 7, 0)] 1),
  (39, .cells [.ptr (some (24, 0)), .slice (some (37, 0)) 8 (some 8), .map (some 38), .slice (some (55, 0)) 7 none, .ptr (some (36, 0))] 0 .yes),
  (56, .cells [.int .u64 3] 0 .yes),
  (57, .cells [.int .i64 9, .int .i64 2, .slice (some (56, 0)) 1 (some 1)] 0 .yes),
  (59, .cells [.int .i64 9, .int .i64 200, .int .i64 8, .int .i64 8, .int .i64 16, .int .i64 16, .int .i64 2, .int .i64 1, .ptr (some (24, 0)), .ptr (some (39, 0)), .ptr (some (58, 0)), .int .u32 1] 0 .yes),
  (108, .cells (by8 [1] ++ (nul 199)) 1 (.of 5)),
  (110, .cells [.ptr (some (59, 0)), .int .u32 1, .int .i64 0, .int .i64 0, .int .i64 0, .int .i64 0] 0 .yes)] }

noncomputable def hk1F (args : List AV) (M : AMem) : Option (AV × AMem) := match hkB 91 with
  | some h => h args M
  | none => acall Tryz.prog hkB 1000 91 args M

noncomputable def hk1 : Hook := fun f => match f with
  | 91 => some (cutAt [cut1] hk1F)
  | _ => hkB f

def cut2 : Cut := {
 args := [.ptr (some (112, 0))], nin := 113,
 lin := [(1, .ro (by8 [0, 1, 56, 2, 57, 49, 28, 3, 61, 58, 42, 50, 38, 29, 17, 4, 62, 47, 59, 36, 45, 43, 51, 22, 53, 39, 33, 30, 24, 18, 12, 5, 63, 55, 48, 27, 60, 41, 37, 16, 46, 35, 44, 21, 52, 32, 23, 11, 54, 26, 40, 15, 34, 20, 31, 10, 25, 14, 19, 9, 13, 8, 7, 6])),
  (23, .cells (nul 1800) 0 .yes),
  (24, .cells [.int .i64 200, .slice (some (23, 0)) 1800 (some 1800), .int .u64 0, .int .u64 0] 0 .yes),
  (35, .cells [.int .i64 0, .int .i64 0, .bool false, .int .i64 0, .int .i64 0, .bool false, .int .i64 0, .int .i64 0, .bool false, .int .i64 0, .int .i64 0, .bool false, .int .i64 0, .int .i64 0, .bool false, .int .i64 0, .int .i64 0, .bool false, .int .i64 0, .int .i64 0, .bool false, .int .i64 0, .int .i64 0, .bool false, .int .i64 8, .int .i64 8, .bool false] 0 .yes),
  (36, .cells [.slice (some (35, 0)) 9 (some 9), .int .i64 0] 0 .yes),
  (37, .cells [.int .u32 0, .slice none 0 (some 0), .bool false, .int .i64 0, .int .u32 0, .slice none 0 (some 0), .bool false, .int .i64 0, .int .u32 0, .slice none 0 (some 0), .bool false, .int .i64 0, .int .u32 0, .slice none 0 (some 0), .bool false, .int .i64 0, .int .u32 0, .slice none 0 (some 0), .bool false, .int .i64 0, .int .u32 0, .slice none 0 (some 0), .bool false, .int .i64 0, .int .u32 0, .slice none 0 (some 0), .bool false, .int .i64 0, .int .u32 1, .slice (some (108, 0)) 200 none, .bool true, .int .i64 1] 0 .yes),
  (38, .map [(.int .u32 1, .int .i64 7, 0)] 1),
  (39, .cells [.ptr (some (24, 0)), .slice (some (37, 0)) 8 (some 8), .map (some 38), .slice (some (55, 0)) 7 none, .ptr (some (36, 0))] 0 .yes),
  (55, .cells [.int .i64 0, .int .i64 1, .int .i64 2, .int .i64 3, .int .i64 4, .int .i64 5, .int .i64 6, .int .i64 7] 1 .yes),
  (56, .cells [.int .u64 3] 0 .yes),
  (57, .cells [.int .i64 9, .int .i64 2, .slice (some (56, 0)) 1 (some 1)] 0 .yes),
  (58, .cells [.ptr (some (57, 0))] 0 .yes),
  (59, .cells [.int .i64 9, .int .i64 200, .int .i64 8, .int .i64 8, .int .i64 16, .int .i64 16, .int .i64 2, .int .i64 1, .ptr (some (24, 0)), .ptr (some (39, 0)), .ptr (some (58, 0)), .int .u32 1] 0 .yes),
  (108, .cells (by8 [1] ++ (nul 199)) 1 (.of 5)),
  (110, .cells [.ptr (some (59, 0)), .int .u32 1, .int .i64 0, .int .i64 0, .int .i64 0, .int .i64 0] 0 .yes),
  (112, .cells [.ptr (some (24, 0)), .ptr (some (110, 0))] 0 .yes)],
 v := .int .i64 0, nout := 246, ldel := [],
 lset := [(23, .cells (by8 [83, 76, 85, 73, 67, 69, 48, 49, 0, 0, 0, 9, 0, 0, 0, 200, 0, 0, 0, 8, 0, 0, 0, 8, 0, 0, 0, 16, 0, 0, 0, 16, 0, 0, 0, 2, 0, 0, 0, 1, 0, 0, 0, 1, 0, 0, 0, 1, 0, 0, 0, 0, 0, 0, 0, 0, 0, 0, 0, 0, 166, 13, 3, 45] ++ (nul 136 ++ (by8 [1] ++ (nul 1599)))) 0 .yes),
  (24, .cells [.int .i64 200, .slice (some (23, 0)) 1800 (some 1800), .int .u64 0, .int .u64 2] 0 .yes),
  (37, .cells [.int .u32 0, .slice none 0 (some 0), .bool false, .int .i64 0, .int .u32 0, .slice none 0 (some 0), .bool false, .int .i64 0, .int .u32 0, .slice none 0 (some 0), .bool false, .int .i64 0, .int .u32 0, .slice none 0 (some 0), .bool false, .int .i64 0, .int .u32 0, .slice none 0 (some 0), .bool false, .int .i64 0, .int .u32 0, .slice none 0 (some 0), .bool false, .int .i64 0, .int .u32 0, .slice none 0 (some 0), .bool false, .int .i64 0, .int .u32 1, .slice (some (108, 0)) 200 none, .bool false, .int .i64 1] 0 .yes)] }

noncomputable def hk2F (args : List AV) (M : AMem) : Option (AV × AMem) := match hk1 26 with
  | some h => h args M
  | none => acall Tryz.prog hk1 1000 26 args M

noncomputable def hk2 : Hook := fun f => match f with
  | 26 => some (cutAt [cut2] hk2F)
  | _ => hk1 f

def cut3 : Cut := {
 args := [.agg [.int .i64 9, .int .i64 200, .int .i64 8, .int .i64 8, .int .i64 16, .int .i64 16, .int .i64 2, .int .i64 1]], nin := 12,
 lin := [(1, .ro (by8 [0, 1, 56, 2, 57, 49, 28, 3, 61, 58, 42, 50, 38, 29, 17, 4, 62, 47, 59, 36, 45, 43, 51, 22, 53, 39, 33, 30, 24, 18, 12, 5, 63, 55, 48, 27, 60, 41, 37, 16, 46, 35, 44, 21, 52, 32, 23, 11, 54, 26, 40, 15, 34, 20, 31, 10, 25, 14, 19, 9, 13, 8, 7, 6]))],
 v := .tup [.ptr (some (248, 0)), .int .i64 0], nout := 249, ldel := [],
 lset := [(23, .cells (by8 [83, 76, 85, 73, 67, 69, 48, 49, 0, 0, 0, 9, 0, 0, 0, 200, 0, 0, 0, 8, 0, 0, 0, 8, 0, 0, 0, 16, 0, 0, 0, 16, 0, 0, 0, 2, 0, 0, 0, 1, 0, 0, 0, 1, 0, 0, 0, 1, 0, 0, 0, 0, 0, 0, 0, 0, 0, 0, 0, 0, 166, 13, 3, 45] ++ (nul 136 ++ (by8 [1] ++ (nul 1599)))) 0 .yes),
  (24, .cells [.int .i64 200, .slice (some (23, 0)) 1800 (some 1800), .int .u64 0, .int .u64 2] 0 .yes),
  (35, .cells [.int .i64 0, .int .i64 0, .bool false, .int .i64 0, .int .i64 0, .bool false, .int .i64 0, .int .i64 0, .bool false, .int .i64 0, .int .i64 0, .bool false, .int .i64 0, .int .i64 0, .bool false, .int .i64 0, .int .i64 0, .bool false, .int .i64 0, .int .i64 0, .bool false, .int .i64 0, .int .i64 0, .bool false, .int .i64 8, .int .i64 8, .bool false] 0 .yes),
  (36, .cells [.slice (some (35, 0)) 9 (some 9), .int .i64 0] 0 .yes),
  (37, .cells [.int .u32 0, .slice none 0 (some 0), .bool false, .int .i64 0, .int .u32 0, .slice none 0 (some 0), .bool false, .int .i64 0, .int .u32 0, .slice none 0 (some 0), .bool false, .int .i64 0, .int .u32 0, .slice none 0 (some 0), .bool false, .int .i64 0, .int .u32 0, .slice none 0 (some 0), .bool false, .int .i64 0, .int .u32 0, .slice none 0 (some 0), .bool false, .int .i64 0, .int .u32 0, .slice none 0 (some 0), .bool false, .int .i64 0, .int .u32 1, .slice (some (108, 0)) 200 none, .bool false, .int .i64 1] 0 .yes),
  (38, .map [(.int .u32 1, .int .i64 7, 0)] 1),
  (39, .cells [.ptr (some (24, 0)), .slice (some (37, 0)) 8 (some 8), .map (some 38), .slice (some (55, 0)) 7 none, .ptr (some (36, 0))] 0 .yes),
  (55, .cells [.int .i64 0, .int .i64 1, .int .i64 2, .int .i64 3, .int .i64 4, .int .i64 5, .int .i64 6, .int .i64 7] 1 .yes),
  (56, .cells [.int .u64 3] 0 .yes),
  (57, .cells [.int .i64 9, .int .i64 2, .slice (some (56, 0)) 1 (some 1)] 0 .yes),
  (58, .cells [.ptr (some (57, 0))] 0 .yes),
  (59, .cells [.int .i64 9, .int .i64 200, .int .i64 8, .int .i64 8, .int .i64 16, .int .i64 16, .int .i64 2, .int .i64 1, .ptr (some (24, 0)), .ptr (some (39, 0)), .ptr (some (58, 0)), .int .u32 1] 0 .yes),
  (108, .cells (by8 [1] ++ (nul 199)) 1 (.of 5)),
  (110, .cells [.ptr (some (59, 0)), .int .u32 1, .int .i64 0, .int .i64 0, .int .i64 0, .int .i64 0] 0 .yes),
  (112, .cells [.ptr (some (24, 0)), .ptr (some (110, 0))] 0 .yes),
  (248, .cells [.int .i64 9, .int .i64 200, .int .i64 8, .int .i64 8, .int .i64 16, .int .i64 16, .int .i64 2, .int .i64 1, .ptr (some (112, 0)), .bool true, .int .u64 0, .int .u64 0, .int .u64 0, .int .u64 0] 0 .yes)] }

noncomputable def hk3F (args : List AV) (M : AMem) : Option (AV × AMem) := match hk2 19 with
  | some h => h args M
  | none => acall Tryz.prog hk2 1000 19 args M

noncomputable def hk3 : Hook := fun f => match f with
  | 19 => some (cutAt [cut3] hk3F)
  | _ => hk2 f

def cut4 : Cut := {
 args := [.agg [.int .i64 9, .int .i64 200, .int .i64 8, .int .i64 8, .int .i64 16, .int .i64 16, .int .i64 2, .int .i64 1], .slice (some (266, 0)) 200 none], nin := 267,
 lin := [(1, .ro (by8 [0, 1, 56, 2, 57, 49, 28, 3, 61, 58, 42, 50, 38, 29, 17, 4, 62, 47, 59, 36, 45, 43, 51, 22, 53, 39, 33, 30, 24, 18, 12, 5, 63, 55, 48, 27, 60, 41, 37, 16, 46, 35, 44, 21, 52, 32, 23, 11, 54, 26, 40, 15, 34, 20, 31, 10, 25, 14, 19, 9, 13, 8, 7, 6])),
  (266, .cells (by8 [1] ++ (nul 199)) 1 (.of 5))],
 v := .tup [.agg [.int .i64 0, .slice none 0 (some 0), .slice none 0 (some 0), .slice none 0 (some 0), .slice none 0 (some 0)], .int .i64 0], nout := 332, ldel := [],
 lset := [] }

noncomputable def hk4F (args : List AV) (M : AMem) : Option (AV × AMem) := match hk3 215 with
  | some h => h args M
  | none => acall Tryz.prog hk3 1000 215 args M

noncomputable def hk4 : Hook := fun f => match f with
  | 215 => some (cutAt [cut4] hk4F)
  | _ => hk3 f

def cut5 : Cut := {
 args := [.ptr (some (110, 0)), .agg [.int .i64 0, .slice none 0 (some 0), .slice none 0 (some 0), .slice none 0 (some 0), .slice none 0 (some 0)], .agg [.str [98], .bool false, .str []]], nin := 332,
 lin := [(1, .ro (by8 [0, 1, 56, 2, 57, 49, 28, 3, 61, 58, 42, 50, 38, 29, 17, 4, 62, 47, 59, 36, 45, 43, 51, 22, 53, 39, 33, 30, 24, 18, 12, 5, 63, 55, 48, 27, 60, 41, 37, 16, 46, 35, 44, 21, 52, 32, 23, 11, 54, 26, 40, 15, 34, 20, 31, 10, 25, 14, 19, 9, 13, 8, 7, 6])),
  (23, .cells (by8 [83, 76, 85, 73, 67, 69, 48, 49, 0, 0, 0, 9, 0, 0, 0, 200, 0, 0, 0, 8, 0, 0, 0, 8, 0, 0, 0, 16, 0, 0, 0, 16, 0, 0, 0, 2, 0, 0, 0, 1, 0, 0, 0, 1, 0, 0, 0, 1, 0, 0, 0, 0, 0, 0, 0, 0, 0, 0, 0, 0, 166, 13, 3, 45] ++ (nul 136 ++ (by8 [1] ++ (nul 1599)))) 0 .yes),
  (24, .cells [.int .i64 200, .slice (some (23, 0)) 1800 (some 1800), .int .u64 0, .int .u64 2] 0 .yes),
  (35, .cells [.int .i64 0, .int .i64 0, .bool false, .int .i64 0, .int .i64 0, .bool false, .int .i64 0, .int .i64 0, .bool false, .int .i64 0, .int .i64 0, .bool false, .int .i64 0, .int .i64 0, .bool false, .int .i64 0, .int .i64 0, .bool false, .int .i64 0, .int .i64 0, .bool false, .int .i64 0, .int .i64 0, .bool false, .int .i64 8, .int .i64 8, .bool false] 0 .yes),
  (36, .cells [.slice (some (35, 0)) 9 (some 9), .int .i64 0] 0 .yes),
  (37, .cells [.int .u32 0, .slice none 0 (some 0), .bool false, .int .i64 0, .int .u32 0, .slice none 0 (some 0), .bool false, .int .i64 0, .int .u32 0, .slice none 0 (some 0), .bool false, .int .i64 0, .int .u32 0, .slice none 0 (some 0), .bool false, .int .i64 0, .int .u32 0, .slice none 0 (some 0), .bool false, .int .i64 0, .int .u32 0, .slice none 0 (some 0), .bool false, .int .i64 0, .int .u32 0, .slice none 0 (some 0), .bool false, .int .i64 0, .int .u32 1, .slice (some (108, 0)) 200 none, .bool false, .int .i64 1] 0 .yes),
  (38, .map [(.int .u32 1, .int .i64 7, 0)] 1),
  (39, .cells [.ptr (some (24, 0)), .slice (some (37, 0)) 8 (some 8), .map (some 38), .slice (some (55, 0)) 7 none, .ptr (some (36, 0))] 0 .yes),
  (55, .cells [.int .i64 0, .int .i64 1, .int .i64 2, .int .i64 3, .int .i64 4, .int .i64 5, .int .i64 6, .int .i64 7] 1 .yes),
  (56, .cells [.int .u64 3] 0 .yes),
  (57, .cells [.int .i64 9, .int .i64 2, .slice (some (56, 0)) 1 (some 1)] 0 .yes),
  (58, .cells [.ptr (some (57, 0))] 0 .yes),
  (59, .cells [.int .i64 9, .int .i64 200, .int .i64 8, .int .i64 8, .int .i64 16, .int .i64 16, .int .i64 2, .int .i64 1, .ptr (some (24, 0)), .ptr (some (39, 0)), .ptr (some (58, 0)), .int .u32 1] 0 .yes),
  (108, .cells (by8 [1] ++ (nul 199)) 1 (.of 5)),
  (110, .cells [.ptr (some (59, 0)), .int .u32 1, .int .i64 0, .int .i64 0, .int .i64 0, .int .i64 0] 0 .yes)],
 v := .tup [.bool true, .agg [.int .i64 0, .slice none 0 (some 0), .slice none 0 (some 0), .slice none 0 (some 0), .slice (some (340, 0)) 1 none], .int .i64 0], nout := 402, ldel := [],
 lset := [(37, .cells [.int .u32 0, .slice none 0 (some 0), .bool false, .int .i64 0, .int .u32 0, .slice none 0 (some 0), .bool false, .int .i64 0, .int .u32 0, .slice none 0 (some 0), .bool false, .int .i64 0, .int .u32 0, .slice none 0 (some 0), .bool false, .int .i64 0, .int .u32 0, .slice none 0 (some 0), .bool false, .int .i64 0, .int .u32 0, .slice none 0 (some 0), .bool false, .int .i64 0, .int .u32 0, .slice none 0 (some 0), .bool false, .int .i64 0, .int .u32 1, .slice (some (401, 0)) 200 none, .bool true, .int .i64 1] 0 .yes),
  (340, .cells [.str [98], .str []] 2 .yes),
  (401, .cells (by8 [1, 0, 0, 1, 0, 0, 0, 0, 1, 0, 0, 98] ++ (nul 188)) 1 (.of 5))] }

noncomputable def hk5F (args : List AV) (M : AMem) : Option (AV × AMem) := match hk4 182 with
  | some h => h args M
  | none => acall Tryz.prog hk4 1000 182 args M

noncomputable def hk5 : Hook := fun f => match f with
  | 182 => some (cutAt [cut5] hk5F)
  | _ => hk4 f

def cut6 : Cut := {
 args := [.ptr (some (248, 0)), .str [98], .str []], nin := 253,
 lin := [(1, .ro (by8 [0, 1, 56, 2, 57, 49, 28, 3, 61, 58, 42, 50, 38, 29, 17, 4, 62, 47, 59, 36, 45, 43, 51, 22, 53, 39, 33, 30, 24, 18, 12, 5, 63, 55, 48, 27, 60, 41, 37, 16, 46, 35, 44, 21, 52, 32, 23, 11, 54, 26, 40, 15, 34, 20, 31, 10, 25, 14, 19, 9, 13, 8, 7, 6])),
  (23, .cells (by8 [83, 76, 85, 73, 67, 69, 48, 49, 0, 0, 0, 9, 0, 0, 0, 200, 0, 0, 0, 8, 0, 0, 0, 8, 0, 0, 0, 16, 0, 0, 0, 16, 0, 0, 0, 2, 0, 0, 0, 1, 0, 0, 0, 1, 0, 0, 0, 1, 0, 0, 0, 0, 0, 0, 0, 0, 0, 0, 0, 0, 166, 13, 3, 45] ++ (nul 136 ++ (by8 [1] ++ (nul 1599)))) 0 .yes),
  (24, .cells [.int .i64 200, .slice (some (23, 0)) 1800 (some 1800), .int .u64 0, .int .u64 2] 0 .yes),
  (35, .cells [.int .i64 0, .int .i64 0, .bool false, .int .i64 0, .int .i64 0, .bool false, .int .i64 0, .int .i64 0, .bool false, .int .i64 0, .int .i64 0, .bool false, .int .i64 0, .int .i64 0, .bool false, .int .i64 0, .int .i64 0, .bool false, .int .i64 0, .int .i64 0, .bool false, .int .i64 0, .int .i64 0, .bool false, .int .i64 8, .int .i64 8, .bool false] 0 .yes),
  (36, .cells [.slice (some (35, 0)) 9 (some 9), .int .i64 0] 0 .yes),
  (37, .cells [.int .u32 0, .slice none 0 (some 0), .bool false, .int .i64 0, .int .u32 0, .slice none 0 (some 0), .bool false, .int .i64 0, .int .u32 0, .slice none 0 (some 0), .bool false, .int .i64 0, .int .u32 0, .slice none 0 (some 0), .bool false, .int .i64 0, .int .u32 0, .slice none 0 (some 0), .bool false, .int .i64 0, .int .u32 0, .slice none 0 (some 0), .bool false, .int .i64 0, .int .u32 0, .slice none 0 (some 0), .bool false, .int .i64 0, .int .u32 1, .slice (some (108, 0)) 200 none, .bool false, .int .i64 1] 0 .yes),
  (38, .map [(.int .u32 1, .int .i64 7, 0)] 1),
  (39, .cells [.ptr (some (24, 0)), .slice (some (37, 0)) 8 (some 8), .map (some 38), .slice (some (55, 0)) 7 none, .ptr (some (36, 0))] 0 .yes),
  (55, .cells [.int .i64 0, .int .i64 1, .int .i64 2, .int .i64 3, .int .i64 4, .int .i64 5, .int .i64 6, .int .i64 7] 1 .yes),
  (56, .cells [.int .u64 3] 0 .yes),
  (57, .cells [.int .i64 9, .int .i64 2, .slice (some (56, 0)) 1 (some 1)] 0 .yes),
  (58, .cells [.ptr (some (57, 0))] 0 .yes),
  (59, .cells [.int .i64 9, .int .i64 200, .int .i64 8, .int .i64 8, .int .i64 16, .int .i64 16, .int .i64 2, .int .i64 1, .ptr (some (24, 0)), .ptr (some (39, 0)), .ptr (some (58, 0)), .int .u32 1] 0 .yes),
  (108, .cells (by8 [1] ++ (nul 199)) 1 (.of 5)),
  (110, .cells [.ptr (some (59, 0)), .int .u32 1, .int .i64 0, .int .i64 0, .int .i64 0, .int .i64 0] 0 .yes),
  (112, .cells [.ptr (some (24, 0)), .ptr (some (110, 0))] 0 .yes),
  (248, .cells [.int .i64 9, .int .i64 200, .int .i64 8, .int .i64 8, .int .i64 16, .int .i64 16, .int .i64 2, .int .i64 1, .ptr (some (112, 0)), .bool true, .int .u64 0, .int .u64 0, .int .u64 0, .int .u64 0] 0 .yes)],
 v := .int .i64 0, nout := 410, ldel := [],
 lset := [(37, .cells [.int .u32 0, .slice none 0 (some 0), .bool false, .int .i64 0, .int .u32 0, .slice none 0 (some 0), .bool false, .int .i64 0, .int .u32 0, .slice none 0 (some 0), .bool false, .int .i64 0, .int .u32 0, .slice none 0 (some 0), .bool false, .int .i64 0, .int .u32 0, .slice none 0 (some 0), .bool false, .int .i64 0, .int .u32 0, .slice none 0 (some 0), .bool false, .int .i64 0, .int .u32 0, .slice none 0 (some 0), .bool false, .int .i64 0, .int .u32 1, .slice (some (401, 0)) 200 none, .bool true, .int .i64 1] 0 .yes),
  (110, .cells [.ptr (some (59, 0)), .int .u32 1, .int .i64 0, .int .i64 1, .int .i64 0, .int .i64 0] 0 .yes),
  (401, .cells (by8 [1, 0, 0, 1, 0, 0, 0, 0, 1, 0, 0, 98] ++ (nul 188)) 1 (.of 5))] }

noncomputable def hk6F (args : List AV) (M : AMem) : Option (AV × AMem) := match hk5 45 with
  | some h => h args M
  | none => acall Tryz.prog hk5 1000 45 args M

noncomputable def hk6 : Hook := fun f => match f with
  | 45 => some (cutAt [cut6] hk6F)
  | _ => hk5 f

def cut7 : Cut := {
 args := [.agg [.int .i64 9, .int .i64 200, .int .i64 8, .int .i64 8, .int .i64 16, .int .i64 16, .int .i64 2, .int .i64 1], .slice (some (436, 0)) 200 none], nin := 437,
 lin := [(1, .ro (by8 [0, 1, 56, 2, 57, 49, 28, 3, 61, 58, 42, 50, 38, 29, 17, 4, 62, 47, 59, 36, 45, 43, 51, 22, 53, 39, 33, 30, 24, 18, 12, 5, 63, 55, 48, 27, 60, 41, 37, 16, 46, 35, 44, 21, 52, 32, 23, 11, 54, 26, 40, 15, 34, 20, 31, 10, 25, 14, 19, 9, 13, 8, 7, 6])),
  (436, .cells (by8 [1, 0, 0, 1, 0, 0, 0, 0, 1, 0, 0, 98] ++ (nul 188)) 1 (.of 5))],
 v := .tup [.agg [.int .i64 0, .slice none 0 (some 0), .slice none 0 (some 0), .slice none 0 (some 0), .slice (some (466, 0)) 1 none], .int .i64 0], nout := 525, ldel := [],
 lset := [(466, .cells [.str [98], .str []] 2 .yes)] }

noncomputable def hk7F (args : List AV) (M : AMem) : Option (AV × AMem) := match hk6 215 with
  | some h => h args M
  | none => acall Tryz.prog hk6 1000 215 args M

noncomputable def hk7 : Hook := fun f => match f with
  | 215 => some (cutAt [cut7] hk7F)
  | _ => hk6 f

def cut8 : Cut := {
 args := [.ptr (some (110, 0)), .agg [.int .i64 0, .slice none 0 (some 0), .slice none 0 (some 0), .slice none 0 (some 0), .slice (some (466, 0)) 1 none], .agg [.str [98], .bool true, .str []]], nin := 525,
 lin := [(1, .ro (by8 [0, 1, 56, 2, 57, 49, 28, 3, 61, 58, 42, 50, 38, 29, 17, 4, 62, 47, 59, 36, 45, 43, 51, 22, 53, 39, 33, 30, 24, 18, 12, 5, 63, 55, 48, 27, 60, 41, 37, 16, 46, 35, 44, 21, 52, 32, 23, 11, 54, 26, 40, 15, 34, 20, 31, 10, 25, 14, 19, 9, 13, 8, 7, 6])),
  (23, .cells (by8 [83, 76, 85, 73, 67, 69, 48, 49, 0, 0, 0, 9, 0, 0, 0, 200, 0, 0, 0, 8, 0, 0, 0, 8, 0, 0, 0, 16, 0, 0, 0, 16, 0, 0, 0, 2, 0, 0, 0, 1, 0, 0, 0, 1, 0, 0, 0, 1, 0, 0, 0, 0, 0, 0, 0, 0, 0, 0, 0, 0, 166, 13, 3, 45] ++ (nul 136 ++ (by8 [1] ++ (nul 1599)))) 0 .yes),
  (24, .cells [.int .i64 200, .slice (some (23, 0)) 1800 (some 1800), .int .u64 0, .int .u64 2] 0 .yes),
  (35, .cells [.int .i64 0, .int .i64 0, .bool false, .int .i64 0, .int .i64 0, .bool false, .int .i64 0, .int .i64 0, .bool false, .int .i64 0, .int .i64 0, .bool false, .int .i64 0, .int .i64 0, .bool false, .int .i64 0, .int .i64 0, .bool false, .int .i64 0, .int .i64 0, .bool false, .int .i64 0, .int .i64 0, .bool false, .int .i64 8, .int .i64 8, .bool false] 0 .yes),
  (36, .cells [.slice (some (35, 0)) 9 (some 9), .int .i64 0] 0 .yes),
  (37, .cells [.int .u32 0, .slice none 0 (some 0), .bool false, .int .i64 0, .int .u32 0, .slice none 0 (some 0), .bool false, .int .i64 0, .int .u32 0, .slice none 0 (some 0), .bool false, .int .i64 0, .int .u32 0, .slice none 0 (some 0), .bool false, .int .i64 0, .int .u32 0, .slice none 0 (some 0), .bool false, .int .i64 0, .int .u32 0, .slice none 0 (some 0), .bool false, .int .i64 0, .int .u32 0, .slice none 0 (some 0), .bool false, .int .i64 0, .int .u32 1, .slice (some (401, 0)) 200 none, .bool true, .int .i64 1] 0 .yes),
  (38, .map [(.int .u32 1, .int .i64 7, 0)] 1),
  (39, .cells [.ptr (some (24, 0)), .slice (some (37, 0)) 8 (some 8), .map (some 38), .slice (some (55, 0)) 7 none, .ptr (some (36, 0))] 0 .yes),
  (55, .cells [.int .i64 0, .int .i64 1, .int .i64 2, .int .i64 3, .int .i64 4, .int .i64 5, .int .i64 6, .int .i64 7] 1 .yes),
  (56, .cells [.int .u64 3] 0 .yes),
  (57, .cells [.int .i64 9, .int .i64 2, .slice (some (56, 0)) 1 (some 1)] 0 .yes),
  (58, .cells [.ptr (some (57, 0))] 0 .yes),
  (59, .cells [.int .i64 9, .int .i64 200, .int .i64 8, .int .i64 8, .int .i64 16, .int .i64 16, .int .i64 2, .int .i64 1, .ptr (some (24, 0)), .ptr (some (39, 0)), .ptr (some (58, 0)), .int .u32 1] 0 .yes),
  (110, .cells [.ptr (some (59, 0)), .int .u32 1, .int .i64 0, .int .i64 1, .int .i64 0, .int .i64 0] 0 .yes),
  (401, .cells (by8 [1, 0, 0, 1, 0, 0, 0, 0, 1, 0, 0, 98] ++ (nul 188)) 1 (.of 5)),
  (466, .cells [.str [98], .str []] 2 .yes)],
 v := .tup [.bool true, .agg [.int .i64 0, .slice none 0 (some 0), .slice none 0 (some 0), .slice none 0 (some 0), .slice (some (532, 0)) 0 none], .int .i64 0], nout := 581, ldel := [],
 lset := [(37, .cells [.int .u32 0, .slice none 0 (some 0), .bool false, .int .i64 0, .int .u32 0, .slice none 0 (some 0), .bool false, .int .i64 0, .int .u32 0, .slice none 0 (some 0), .bool false, .int .i64 0, .int .u32 0, .slice none 0 (some 0), .bool false, .int .i64 0, .int .u32 0, .slice none 0 (some 0), .bool false, .int .i64 0, .int .u32 0, .slice none 0 (some 0), .bool false, .int .i64 0, .int .u32 0, .slice none 0 (some 0), .bool false, .int .i64 0, .int .u32 1, .slice (some (580, 0)) 200 none, .bool true, .int .i64 1] 0 .yes),
  (532, .cells [.str [], .str []] 2 .yes),
  (580, .cells (by8 [1] ++ (nul 199)) 1 (.of 5))] }

noncomputable def hk8F (args : List AV) (M : AMem) : Option (AV × AMem) := match hk7 182 with
  | some h => h args M
  | none => acall Tryz.prog hk7 1000 182 args M

noncomputable def hk8 : Hook := fun f => match f with
  | 182 => some (cutAt [cut8] hk8F)
  | _ => hk7 f

def cut9 : Cut := {
 args := [.ptr (some (248, 0)), .str [98]], nin := 423,
 lin := [(1, .ro (by8 [0, 1, 56, 2, 57, 49, 28, 3, 61, 58, 42, 50, 38, 29, 17, 4, 62, 47, 59, 36, 45, 43, 51, 22, 53, 39, 33, 30, 24, 18, 12, 5, 63, 55, 48, 27, 60, 41, 37, 16, 46, 35, 44, 21, 52, 32, 23, 11, 54, 26, 40, 15, 34, 20, 31, 10, 25, 14, 19, 9, 13, 8, 7, 6])),
  (23, .cells (by8 [83, 76, 85, 73, 67, 69, 48, 49, 0, 0, 0, 9, 0, 0, 0, 200, 0, 0, 0, 8, 0, 0, 0, 8, 0, 0, 0, 16, 0, 0, 0, 16, 0, 0, 0, 2, 0, 0, 0, 1, 0, 0, 0, 1, 0, 0, 0, 1, 0, 0, 0, 0, 0, 0, 0, 0, 0, 0, 0, 0, 166, 13, 3, 45] ++ (nul 136 ++ (by8 [1] ++ (nul 1599)))) 0 .yes),
  (24, .cells [.int .i64 200, .slice (some (23, 0)) 1800 (some 1800), .int .u64 0, .int .u64 2] 0 .yes),
  (35, .cells [.int .i64 0, .int .i64 0, .bool false, .int .i64 0, .int .i64 0, .bool false, .int .i64 0, .int .i64 0, .bool false, .int .i64 0, .int .i64 0, .bool false, .int .i64 0, .int .i64 0, .bool false, .int .i64 0, .int .i64 0, .bool false, .int .i64 0, .int .i64 0, .bool false, .int .i64 0, .int .i64 0, .bool false, .int .i64 8, .int .i64 8, .bool false] 0 .yes),
  (36, .cells [.slice (some (35, 0)) 9 (some 9), .int .i64 0] 0 .yes),
  (37, .cells [.int .u32 0, .slice none 0 (some 0), .bool false, .int .i64 0, .int .u32 0, .slice none 0 (some 0), .bool false, .int .i64 0, .int .u32 0, .slice none 0 (some 0), .bool false, .int .i64 0, .int .u32 0, .slice none 0 (some 0), .bool false, .int .i64 0, .int .u32 0, .slice none 0 (some 0), .bool false, .int .i64 0, .int .u32 0, .slice none 0 (some 0), .bool false, .int .i64 0, .int .u32 0, .slice none 0 (some 0), .bool false, .int .i64 0, .int .u32 1, .slice (some (401, 0)) 200 none, .bool true, .int .i64 1] 0 .yes),
  (38, .map [(.int .u32 1, .int .i64 7, 0)] 1),
  (39, .cells [.ptr (some (24, 0)), .slice (some (37, 0)) 8 (some 8), .map (some 38), .slice (some (55, 0)) 7 none, .ptr (some (36, 0))] 0 .yes),
  (55, .cells [.int .i64 0, .int .i64 1, .int .i64 2, .int .i64 3, .int .i64 4, .int .i64 5, .int .i64 6, .int .i64 7] 1 .yes),
  (56, .cells [.int .u64 3] 0 .yes),
  (57, .cells [.int .i64 9, .int .i64 2, .slice (some (56, 0)) 1 (some 1)] 0 .yes),
  (58, .cells [.ptr (some (57, 0))] 0 .yes),
  (59, .cells [.int .i64 9, .int .i64 200, .int .i64 8, .int .i64 8, .int .i64 16, .int .i64 16, .int .i64 2, .int .i64 1, .ptr (some (24, 0)), .ptr (some (39, 0)), .ptr (some (58, 0)), .int .u32 1] 0 .yes),
  (110, .cells [.ptr (some (59, 0)), .int .u32 1, .int .i64 0, .int .i64 1, .int .i64 0, .int .i64 0] 0 .yes),
  (112, .cells [.ptr (some (24, 0)), .ptr (some (110, 0))] 0 .yes),
  (248, .cells [.int .i64 9, .int .i64 200, .int .i64 8, .int .i64 8, .int .i64 16, .int .i64 16, .int .i64 2, .int .i64 1, .ptr (some (112, 0)), .bool true, .int .u64 0, .int .u64 0, .int .u64 0, .int .u64 0] 0 .yes),
  (401, .cells (by8 [1, 0, 0, 1, 0, 0, 0, 0, 1, 0, 0, 98] ++ (nul 188)) 1 (.of 5))],
 v := .int .i64 0, nout := 589, ldel := [],
 lset := [(37, .cells [.int .u32 0, .slice none 0 (some 0), .bool false, .int .i64 0, .int .u32 0, .slice none 0 (some 0), .bool false, .int .i64 0, .int .u32 0, .slice none 0 (some 0), .bool false, .int .i64 0, .int .u32 0, .slice none 0 (some 0), .bool false, .int .i64 0, .int .u32 0, .slice none 0 (some 0), .bool false, .int .i64 0, .int .u32 0, .slice none 0 (some 0), .bool false, .int .i64 0, .int .u32 0, .slice none 0 (some 0), .bool false, .int .i64 0, .int .u32 1, .slice (some (580, 0)) 200 none, .bool true, .int .i64 1] 0 .yes),
  (110, .cells [.ptr (some (59, 0)), .int .u32 1, .int .i64 0, .int .i64 2, .int .i64 0, .int .i64 0] 0 .yes),
  (580, .cells (by8 [1] ++ (nul 199)) 1 (.of 5))] }

noncomputable def hk9F (args : List AV) (M : AMem) : Option (AV × AMem) := match hk8 46 with
  | some h => h args M
  | none => acall Tryz.prog hk8 1000 46 args M

noncomputable def hk9 : Hook := fun f => match f with
  | 46 => some (cutAt [cut9] hk9F)
  | _ => hk8 f

def cut10 : Cut := {
 args := [.agg [.int .i64 9, .int .i64 200, .int .i64 8, .int .i64 8, .int .i64 16, .int .i64 16, .int .i64 2, .int .i64 1], .slice (some (3, 0)) 2 (some 2)], nin := 4,
 lin := [(1, .ro (by8 [0, 1, 56, 2, 57, 49, 28, 3, 61, 58, 42, 50, 38, 29, 17, 4, 62, 47, 59, 36, 45, 43, 51, 22, 53, 39, 33, 30, 24, 18, 12, 5, 63, 55, 48, 27, 60, 41, 37, 16, 46, 35, 44, 21, 52, 32, 23, 11, 54, 26, 40, 15, 34, 20, 31, 10, 25, 14, 19, 9, 13, 8, 7, 6])),
  (3, .cells [.int .i64 1, .str [98], .str [], .int .i64 0, .int .i64 2, .str [98], .str [], .int .i64 0] 0 .yes)],
 v := .tup [.ptr (some (248, 0)), .slice (some (595, 0)) 0 (some 0)], nout := 596, ldel := [],
 lset := [(23, .cells (by8 [83, 76, 85, 73, 67, 69, 48, 49, 0, 0, 0, 9, 0, 0, 0, 200, 0, 0, 0, 8, 0, 0, 0, 8, 0, 0, 0, 16, 0, 0, 0, 16, 0, 0, 0, 2, 0, 0, 0, 1, 0, 0, 0, 1, 0, 0, 0, 1, 0, 0, 0, 0, 0, 0, 0, 0, 0, 0, 0, 0, 166, 13, 3, 45] ++ (nul 136 ++ (by8 [1] ++ (nul 1599)))) 0 .yes),
  (24, .cells [.int .i64 200, .slice (some (23, 0)) 1800 (some 1800), .int .u64 0, .int .u64 2] 0 .yes),
  (35, .cells [.int .i64 0, .int .i64 0, .bool false, .int .i64 0, .int .i64 0, .bool false, .int .i64 0, .int .i64 0, .bool false, .int .i64 0, .int .i64 0, .bool false, .int .i64 0, .int .i64 0, .bool false, .int .i64 0, .int .i64 0, .bool false, .int .i64 0, .int .i64 0, .bool false, .int .i64 0, .int .i64 0, .bool false, .int .i64 8, .int .i64 8, .bool false] 0 .yes),
  (36, .cells [.slice (some (35, 0)) 9 (some 9), .int .i64 0] 0 .yes),
  (37, .cells [.int .u32 0, .slice none 0 (some 0), .bool false, .int .i64 0, .int .u32 0, .slice none 0 (some 0), .bool false, .int .i64 0, .int .u32 0, .slice none 0 (some 0), .bool false, .int .i64 0, .int .u32 0, .slice none 0 (some 0), .bool false, .int .i64 0, .int .u32 0, .slice none 0 (some 0), .bool false, .int .i64 0, .int .u32 0, .slice none 0 (some 0), .bool false, .int .i64 0, .int .u32 0, .slice none 0 (some 0), .bool false, .int .i64 0, .int .u32 1, .slice (some (580, 0)) 200 none, .bool true, .int .i64 1] 0 .yes),
  (38, .map [(.int .u32 1, .int .i64 7, 0)] 1),
  (39, .cells [.ptr (some (24, 0)), .slice (some (37, 0)) 8 (some 8), .map (some 38), .slice (some (55, 0)) 7 none, .ptr (some (36, 0))] 0 .yes),
  (55, .cells [.int .i64 0, .int .i64 1, .int .i64 2, .int .i64 3, .int .i64 4, .int .i64 5, .int .i64 6, .int .i64 7] 1 .yes),
  (56, .cells [.int .u64 3] 0 .yes),
  (57, .cells [.int .i64 9, .int .i64 2, .slice (some (56, 0)) 1 (some 1)] 0 .yes),
  (58, .cells [.ptr (some (57, 0))] 0 .yes),
  (59, .cells [.int .i64 9, .int .i64 200, .int .i64 8, .int .i64 8, .int .i64 16, .int .i64 16, .int .i64 2, .int .i64 1, .ptr (some (24, 0)), .ptr (some (39, 0)), .ptr (some (58, 0)), .int .u32 1] 0 .yes),
  (110, .cells [.ptr (some (59, 0)), .int .u32 1, .int .i64 0, .int .i64 2, .int .i64 0, .int .i64 0] 0 .yes),
  (112, .cells [.ptr (some (24, 0)), .ptr (some (110, 0))] 0 .yes),
  (248, .cells [.int .i64 9, .int .i64 200, .int .i64 8, .int .i64 8, .int .i64 16, .int .i64 16, .int .i64 2, .int .i64 1, .ptr (some (112, 0)), .bool true, .int .u64 0, .int .u64 0, .int .u64 0, .int .u64 0] 0 .yes),
  (580, .cells (by8 [1] ++ (nul 199)) 1 (.of 5)),
  (595, .cells [] 0 .yes)] }

noncomputable def hk10F (args : List AV) (M : AMem) : Option (AV × AMem) := match hk9 7 with
  | some h => h args M
  | none => acall Tryz.prog hk9 1000 7 args M

noncomputable def hk10 : Hook := fun f => match f with
  | 7 => some (cutAt [cut10] hk10F)
  | _ => hk9 f

def cut11 : Cut := {
 args := [.agg [.int .i64 9, .int .i64 200, .int .i64 8, .int .i64 8, .int .i64 16, .int .i64 16, .int .i64 2, .int .i64 1], .slice (some (619, 0)) 200 none], nin := 620,
 lin := [(1, .ro (by8 [0, 1, 56, 2, 57, 49, 28, 3, 61, 58, 42, 50, 38, 29, 17, 4, 62, 47, 59, 36, 45, 43, 51, 22, 53, 39, 33, 30, 24, 18, 12, 5, 63, 55, 48, 27, 60, 41, 37, 16, 46, 35, 44, 21, 52, 32, 23, 11, 54, 26, 40, 15, 34, 20, 31, 10, 25, 14, 19, 9, 13, 8, 7, 6])),
  (619, .cells (by8 [1] ++ (nul 199)) 1 (.of 5))],
 v := .tup [.agg [.int .i64 0, .slice none 0 (some 0), .slice none 0 (some 0), .slice none 0 (some 0), .slice none 0 (some 0)], .int .i64 0], nout := 685, ldel := [],
 lset := [] }

noncomputable def hk11F (args : List AV) (M : AMem) : Option (AV × AMem) := match hk10 215 with
  | some h => h args M
  | none => acall Tryz.prog hk10 1000 215 args M

noncomputable def hk11 : Hook := fun f => match f with
  | 215 => some (cutAt [cut11] hk11F)
  | _ => hk10 f

def cut12 : Cut := {
 args := [.ptr (some (59, 0)), .int .u32 1, .agg [.str [], .str [255, 255, 255], .bool false], .int .i64 64], nin := 613,
 lin := [(1, .ro (by8 [0, 1, 56, 2, 57, 49, 28, 3, 61, 58, 42, 50, 38, 29, 17, 4, 62, 47, 59, 36, 45, 43, 51, 22, 53, 39, 33, 30, 24, 18, 12, 5, 63, 55, 48, 27, 60, 41, 37, 16, 46, 35, 44, 21, 52, 32, 23, 11, 54, 26, 40, 15, 34, 20, 31, 10, 25, 14, 19, 9, 13, 8, 7, 6])),
  (23, .cells (by8 [83, 76, 85, 73, 67, 69, 48, 49, 0, 0, 0, 9, 0, 0, 0, 200, 0, 0, 0, 8, 0, 0, 0, 8, 0, 0, 0, 16, 0, 0, 0, 16, 0, 0, 0, 2, 0, 0, 0, 1, 0, 0, 0, 1, 0, 0, 0, 1, 0, 0, 0, 0, 0, 0, 0, 0, 0, 0, 0, 0, 166, 13, 3, 45] ++ (nul 136 ++ (by8 [1] ++ (nul 1599)))) 0 .yes),
  (24, .cells [.int .i64 200, .slice (some (23, 0)) 1800 (some 1800), .int .u64 0, .int .u64 2] 0 .yes),
  (35, .cells [.int .i64 0, .int .i64 0, .bool false, .int .i64 0, .int .i64 0, .bool false, .int .i64 0, .int .i64 0, .bool false, .int .i64 0, .int .i64 0, .bool false, .int .i64 0, .int .i64 0, .bool false, .int .i64 0, .int .i64 0, .bool false, .int .i64 0, .int .i64 0, .bool false, .int .i64 0, .int .i64 0, .bool false, .int .i64 8, .int .i64 8, .bool false] 0 .yes),
  (36, .cells [.slice (some (35, 0)) 9 (some 9), .int .i64 0] 0 .yes),
  (37, .cells [.int .u32 0, .slice none 0 (some 0), .bool false, .int .i64 0, .int .u32 0, .slice none 0 (some 0), .bool false, .int .i64 0, .int .u32 0, .slice none 0 (some 0), .bool false, .int .i64 0, .int .u32 0, .slice none 0 (some 0), .bool false, .int .i64 0, .int .u32 0, .slice none 0 (some 0), .bool false, .int .i64 0, .int .u32 0, .slice none 0 (some 0), .bool false, .int .i64 0, .int .u32 0, .slice none 0 (some 0), .bool false, .int .i64 0, .int .u32 1, .slice (some (580, 0)) 200 none, .bool true, .int .i64 1] 0 .yes),
  (38, .map [(.int .u32 1, .int .i64 7, 0)] 1),
  (39, .cells [.ptr (some (24, 0)), .slice (some (37, 0)) 8 (some 8), .map (some 38), .slice (some (55, 0)) 7 none, .ptr (some (36, 0))] 0 .yes),
  (55, .cells [.int .i64 0, .int .i64 1, .int .i64 2, .int .i64 3, .int .i64 4, .int .i64 5, .int .i64 6, .int .i64 7] 1 .yes),
  (56, .cells [.int .u64 3] 0 .yes),
  (57, .cells [.int .i64 9, .int .i64 2, .slice (some (56, 0)) 1 (some 1)] 0 .yes),
  (58, .cells [.ptr (some (57, 0))] 0 .yes),
  (59, .cells [.int .i64 9, .int .i64 200, .int .i64 8, .int .i64 8, .int .i64 16, .int .i64 16, .int .i64 2, .int .i64 1, .ptr (some (24, 0)), .ptr (some (39, 0)), .ptr (some (58, 0)), .int .u32 1] 0 .yes),
  (580, .cells (by8 [1] ++ (nul 199)) 1 (.of 5))],
 v := .tup [.slice none 0 (some 0), .int .i64 0], nout := 688, ldel := [],
 lset := [] }

noncomputable def hk12F (args : List AV) (M : AMem) : Option (AV × AMem) := match hk11 97 with
  | some h => h args M
  | none => acall Tryz.prog hk11 1000 97 args M

noncomputable def hk12 : Hook := fun f => match f with
  | 97 => some (cutAt [cut12] hk12F)
  | _ => hk11 f

def cut13 : Cut := {
 args := [.ptr (some (248, 0))], nin := 597,
 lin := [(1, .ro (by8 [0, 1, 56, 2, 57, 49, 28, 3, 61, 58, 42, 50, 38, 29, 17, 4, 62, 47, 59, 36, 45, 43, 51, 22, 53, 39, 33, 30, 24, 18, 12, 5, 63, 55, 48, 27, 60, 41, 37, 16, 46, 35, 44, 21, 52, 32, 23, 11, 54, 26, 40, 15, 34, 20, 31, 10, 25, 14, 19, 9, 13, 8, 7, 6])),
  (23, .cells (by8 [83, 76, 85, 73, 67, 69, 48, 49, 0, 0, 0, 9, 0, 0, 0, 200, 0, 0, 0, 8, 0, 0, 0, 8, 0, 0, 0, 16, 0, 0, 0, 16, 0, 0, 0, 2, 0, 0, 0, 1, 0, 0, 0, 1, 0, 0, 0, 1, 0, 0, 0, 0, 0, 0, 0, 0, 0, 0, 0, 0, 166, 13, 3, 45] ++ (nul 136 ++ (by8 [1] ++ (nul 1599)))) 0 .yes),
  (24, .cells [.int .i64 200, .slice (some (23, 0)) 1800 (some 1800), .int .u64 0, .int .u64 2] 0 .yes),
  (35, .cells [.int .i64 0, .int .i64 0, .bool false, .int .i64 0, .int .i64 0, .bool false, .int .i64 0, .int .i64 0, .bool false, .int .i64 0, .int .i64 0, .bool false, .int .i64 0, .int .i64 0, .bool false, .int .i64 0, .int .i64 0, .bool false, .int .i64 0, .int .i64 0, .bool false, .int .i64 0, .int .i64 0, .bool false, .int .i64 8, .int .i64 8, .bool false] 0 .yes),
  (36, .cells [.slice (some (35, 0)) 9 (some 9), .int .i64 0] 0 .yes),
  (37, .cells [.int .u32 0, .slice none 0 (some 0), .bool false, .int .i64 0, .int .u32 0, .slice none 0 (some 0), .bool false, .int .i64 0, .int .u32 0, .slice none 0 (some 0), .bool false, .int .i64 0, .int .u32 0, .slice none 0 (some 0), .bool false, .int .i64 0, .int .u32 0, .slice none 0 (some 0), .bool false, .int .i64 0, .int .u32 0, .slice none 0 (some 0), .bool false, .int .i64 0, .int .u32 0, .slice none 0 (some 0), .bool false, .int .i64 0, .int .u32 1, .slice (some (580, 0)) 200 none, .bool true, .int .i64 1] 0 .yes),
  (38, .map [(.int .u32 1, .int .i64 7, 0)] 1),
  (39, .cells [.ptr (some (24, 0)), .slice (some (37, 0)) 8 (some 8), .map (some 38), .slice (some (55, 0)) 7 none, .ptr (some (36, 0))] 0 .yes),
  (55, .cells [.int .i64 0, .int .i64 1, .int .i64 2, .int .i64 3, .int .i64 4, .int .i64 5, .int .i64 6, .int .i64 7] 1 .yes),
  (56, .cells [.int .u64 3] 0 .yes),
  (57, .cells [.int .i64 9, .int .i64 2, .slice (some (56, 0)) 1 (some 1)] 0 .yes),
  (58, .cells [.ptr (some (57, 0))] 0 .yes),
  (59, .cells [.int .i64 9, .int .i64 200, .int .i64 8, .int .i64 8, .int .i64 16, .int .i64 16, .int .i64 2, .int .i64 1, .ptr (some (24, 0)), .ptr (some (39, 0)), .ptr (some (58, 0)), .int .u32 1] 0 .yes),
  (110, .cells [.ptr (some (59, 0)), .int .u32 1, .int .i64 0, .int .i64 2, .int .i64 0, .int .i64 0] 0 .yes),
  (112, .cells [.ptr (some (24, 0)), .ptr (some (110, 0))] 0 .yes),
  (248, .cells [.int .i64 9, .int .i64 200, .int .i64 8, .int .i64 8, .int .i64 16, .int .i64 16, .int .i64 2, .int .i64 1, .ptr (some (112, 0)), .bool true, .int .u64 0, .int .u64 0, .int .u64 0, .int .u64 0] 0 .yes),
  (580, .cells (by8 [1] ++ (nul 199)) 1 (.of 5))],
 v := .tup [.slice none 0 (some 0), .int .i64 0], nout := 696, ldel := [],
 lset := [] }

noncomputable def hk13F (args : List AV) (M : AMem) : Option (AV × AMem) := match hk12 4 with
  | some h => h args M
  | none => acall Tryz.prog hk12 1000 4 args M

noncomputable def hk13 : Hook := fun f => match f with
  | 4 => some (cutAt [cut13] hk13F)
  | _ => hk12 f

def cut14 : Cut := {
 args := [.ptr (some (756, 0)), .slice none 0 (some 0), .int .i64 3], nin := 757,
 lin := [(1, .ro (by8 [0, 1, 56, 2, 57, 49, 28, 3, 61, 58, 42, 50, 38, 29, 17, 4, 62, 47, 59, 36, 45, 43, 51, 22, 53, 39, 33, 30, 24, 18, 12, 5, 63, 55, 48, 27, 60, 41, 37, 16, 46, 35, 44, 21, 52, 32, 23, 11, 54, 26, 40, 15, 34, 20, 31, 10, 25, 14, 19, 9, 13, 8, 7, 6])),
  (720, .cells (nul 1800) 0 .yes),
  (721, .cells [.int .i64 200, .slice (some (720, 0)) 1800 (some 1800), .int .u64 0, .int .u64 0] 0 .yes),
  (732, .cells [.int .i64 0, .int .i64 0, .bool false, .int .i64 0, .int .i64 0, .bool false, .int .i64 0, .int .i64 0, .bool false, .int .i64 0, .int .i64 0, .bool false, .int .i64 0, .int .i64 0, .bool false, .int .i64 0, .int .i64 0, .bool false, .int .i64 0, .int .i64 0, .bool false, .int .i64 0, .int .i64 0, .bool false, .int .i64 8, .int .i64 8, .bool false] 0 .yes),
  (733, .cells [.slice (some (732, 0)) 9 (some 9), .int .i64 0] 0 .yes),
  (734, .cells [.int .u32 0, .slice none 0 (some 0), .bool false, .int .i64 0, .int .u32 0, .slice none 0 (some 0), .bool false, .int .i64 0, .int .u32 0, .slice none 0 (some 0), .bool false, .int .i64 0, .int .u32 0, .slice none 0 (some 0), .bool false, .int .i64 0, .int .u32 0, .slice none 0 (some 0), .bool false, .int .i64 0, .int .u32 0, .slice none 0 (some 0), .bool false, .int .i64 0, .int .u32 0, .slice none 0 (some 0), .bool false, .int .i64 0, .int .u32 0, .slice none 0 (some 0), .bool false, .int .i64 0] 0 .yes),
  (735, .map [] 0),
  (736, .cells [.ptr (some (721, 0)), .slice (some (734, 0)) 8 (some 8), .map (some 735), .slice (some (752, 0)) 8 none, .ptr (some (733, 0))] 0 .yes),
  (752, .cells [.int .i64 0, .int .i64 1, .int .i64 2, .int .i64 3, .int .i64 4, .int .i64 5, .int .i64 6, .int .i64 7] 1 .yes),
  (753, .cells [.int .u64 1] 0 .yes),
  (754, .cells [.int .i64 9, .int .i64 1, .slice (some (753, 0)) 1 (some 1)] 0 .yes),
  (755, .cells [.ptr (some (754, 0))] 0 .yes),
  (756, .cells [.int .i64 9, .int .i64 200, .int .i64 8, .int .i64 8, .int .i64 16, .int .i64 16, .int .i64 2, .int .i64 1, .ptr (some (721, 0)), .ptr (some (736, 0)), .ptr (some (755, 0)), .int .u32 0] 0 .yes)],
 v := .tup [.slice (some (810, 0)) 1 (some 1), .int .i64 0], nout := 811, ldel := [],
 lset := [(732, .cells [.int .i64 0, .int .i64 0, .bool false, .int .i64 0, .int .i64 0, .bool false, .int .i64 0, .int .i64 0, .bool false, .int .i64 0, .int .i64 0, .bool false, .int .i64 0, .int .i64 0, .bool false, .int .i64 0, .int .i64 0, .bool false, .int .i64 0, .int .i64 0, .bool false, .int .i64 8, .int .i64 8, .bool true, .int .i64 7, .int .i64 7, .bool false] 0 .yes),
  (733, .cells [.slice (some (732, 0)) 9 (some 9), .int .i64 1] 0 .yes),
  (734, .cells [.int .u32 0, .slice none 0 (some 0), .bool false, .int .i64 0, .int .u32 0, .slice none 0 (some 0), .bool false, .int .i64 0, .int .u32 0, .slice none 0 (some 0), .bool false, .int .i64 0, .int .u32 0, .slice none 0 (some 0), .bool false, .int .i64 0, .int .u32 0, .slice none 0 (some 0), .bool false, .int .i64 0, .int .u32 0, .slice none 0 (some 0), .bool false, .int .i64 0, .int .u32 0, .slice none 0 (some 0), .bool false, .int .i64 0, .int .u32 1, .slice (some (808, 0)) 200 none, .bool true, .int .i64 0] 0 .yes),
  (735, .map [(.int .u32 1, .int .i64 7, 0)] 1),
  (736, .cells [.ptr (some (721, 0)), .slice (some (734, 0)) 8 (some 8), .map (some 735), .slice (some (752, 0)) 7 none, .ptr (some (733, 0))] 0 .yes),
  (753, .cells [.int .u64 3] 0 .yes),
  (754, .cells [.int .i64 9, .int .i64 2, .slice (some (753, 0)) 1 (some 1)] 0 .yes),
  (808, .cells (by8 [1] ++ (nul 199)) 1 (.of 5)),
  (810, .cells [.int .u32 1, .str [], .str []] 0 .yes)] }

noncomputable def hk14F (args : List AV) (M : AMem) : Option (AV × AMem) := match hk13 79 with
  | some h => h args M
  | none => acall Tryz.prog hk13 1000 79 args M

noncomputable def hk14 : Hook := fun f => match f with
  | 79 => some (cutAt [cut14] hk14F)
  | _ => hk13 f

def cut15 : Cut := {
 args := [.agg [.int .i64 9, .int .i64 200, .int .i64 8, .int .i64 8, .int .i64 16, .int .i64 16, .int .i64 2, .int .i64 1], .slice none 0 (some 0), .int .i64 3], nin := 697,
 lin := [(1, .ro (by8 [0, 1, 56, 2, 57, 49, 28, 3, 61, 58, 42, 50, 38, 29, 17, 4, 62, 47, 59, 36, 45, 43, 51, 22, 53, 39, 33, 30, 24, 18, 12, 5, 63, 55, 48, 27, 60, 41, 37, 16, 46, 35, 44, 21, 52, 32, 23, 11, 54, 26, 40, 15, 34, 20, 31, 10, 25, 14, 19, 9, 13, 8, 7, 6]))],
 v := .tup [.slice (some (943, 0)) 1800 none, .int .i64 0], nout := 944, ldel := [],
 lset := [(943, .cells (by8 [83, 76, 85, 73, 67, 69, 48, 49, 0, 0, 0, 9, 0, 0, 0, 200, 0, 0, 0, 8, 0, 0, 0, 8, 0, 0, 0, 16, 0, 0, 0, 16, 0, 0, 0, 2, 0, 0, 0, 1, 0, 0, 0, 1, 0, 0, 0, 1, 0, 0, 0, 0, 0, 0, 0, 0, 0, 0, 0, 0, 166, 13, 3, 45] ++ (nul 136 ++ (by8 [1] ++ (nul 1599)))) 1 (.of 5))] }

noncomputable def hk15F (args : List AV) (M : AMem) : Option (AV × AMem) := match hk14 38 with
  | some h => h args M
  | none => acall Tryz.prog hk14 1000 38 args M

noncomputable def hk15 : Hook := fun f => match f with
  | 38 => some (cutAt [cut15] hk15F)
  | _ => hk14 f

def cut16 : Cut := {
 args := [.slice (some (948, 0)) 200 none], nin := 949,
 lin := [(1, .ro (by8 [0, 1, 56, 2, 57, 49, 28, 3, 61, 58, 42, 50, 38, 29, 17, 4, 62, 47, 59, 36, 45, 43, 51, 22, 53, 39, 33, 30, 24, 18, 12, 5, 63, 55, 48, 27, 60, 41, 37, 16, 46, 35, 44, 21, 52, 32, 23, 11, 54, 26, 40, 15, 34, 20, 31, 10, 25, 14, 19, 9, 13, 8, 7, 6])),
  (948, .cells (by8 [83, 76, 85, 73, 67, 69, 48, 49, 0, 0, 0, 9, 0, 0, 0, 200, 0, 0, 0, 8, 0, 0, 0, 8, 0, 0, 0, 16, 0, 0, 0, 16, 0, 0, 0, 2, 0, 0, 0, 1, 0, 0, 0, 1, 0, 0, 0, 1, 0, 0, 0, 0, 0, 0, 0, 0, 0, 0, 0, 0, 166, 13, 3, 45] ++ (nul 136)) 1 (.of 5))],
 v := .tup [.agg [.int .i64 9, .int .i64 200, .int .i64 8, .int .i64 8, .int .i64 16, .int .i64 16, .int .i64 2, .int .i64 1, .int .u32 1, .int .i64 1], .int .i64 0], nout := 1094, ldel := [],
 lset := [] }

noncomputable def hk16F (args : List AV) (M : AMem) : Option (AV × AMem) := match hk15 132 with
  | some h => h args M
  | none => acall Tryz.prog hk15 1000 132 args M

noncomputable def hk16 : Hook := fun f => match f with
  | 132 => some (cutAt [cut16] hk16F)
  | _ => hk15 f

def cut17 : Cut := {
 args := [.agg [.int .i64 9, .int .i64 200, .int .i64 8, .int .i64 8, .int .i64 16, .int .i64 16, .int .i64 2, .int .i64 1], .slice (some (1140, 0)) 200 none], nin := 1142,
 lin := [(1, .ro (by8 [0, 1, 56, 2, 57, 49, 28, 3, 61, 58, 42, 50, 38, 29, 17, 4, 62, 47, 59, 36, 45, 43, 51, 22, 53, 39, 33, 30, 24, 18, 12, 5, 63, 55, 48, 27, 60, 41, 37, 16, 46, 35, 44, 21, 52, 32, 23, 11, 54, 26, 40, 15, 34, 20, 31, 10, 25, 14, 19, 9, 13, 8, 7, 6])),
  (1140, .cells (by8 [1] ++ (nul 199)) 1 (.of 5))],
 v := .tup [.agg [.int .i64 0, .slice none 0 (some 0), .slice none 0 (some 0), .slice none 0 (some 0), .slice none 0 (some 0)], .int .i64 0], nout := 1207, ldel := [],
 lset := [] }

noncomputable def hk17F (args : List AV) (M : AMem) : Option (AV × AMem) := match hk16 215 with
  | some h => h args M
  | none => acall Tryz.prog hk16 1000 215 args M

noncomputable def hk17 : Hook := fun f => match f with
  | 215 => some (cutAt [cut17] hk17F)
  | _ => hk16 f

def cut18 : Cut := {
 args := [.ptr (some (1129, 0)), .int .u32 1], nin := 1130,
 lin := [(1, .ro (by8 [0, 1, 56, 2, 57, 49, 28, 3, 61, 58, 42, 50, 38, 29, 17, 4, 62, 47, 59, 36, 45, 43, 51, 22, 53, 39, 33, 30, 24, 18, 12, 5, 63, 55, 48, 27, 60, 41, 37, 16, 46, 35, 44, 21, 52, 32, 23, 11, 54, 26, 40, 15, 34, 20, 31, 10, 25, 14, 19, 9, 13, 8, 7, 6])),
  (945, .cells (by8 [83, 76, 85, 73, 67, 69, 48, 49, 0, 0, 0, 9, 0, 0, 0, 200, 0, 0, 0, 8, 0, 0, 0, 8, 0, 0, 0, 16, 0, 0, 0, 16, 0, 0, 0, 2, 0, 0, 0, 1, 0, 0, 0, 1, 0, 0, 0, 1, 0, 0, 0, 0, 0, 0, 0, 0, 0, 0, 0, 0, 166, 13, 3, 45] ++ (nul 136 ++ (by8 [1] ++ (nul 1599)))) 1 (.of 5)),
  (946, .cells [.int .i64 200, .slice (some (945, 0)) 1800 none, .int .u64 1, .int .u64 0] 0 .yes),
  (1105, .cells [.int .i64 0, .int .i64 0, .bool false, .int .i64 0, .int .i64 0, .bool false, .int .i64 0, .int .i64 0, .bool false, .int .i64 0, .int .i64 0, .bool false, .int .i64 0, .int .i64 0, .bool false, .int .i64 0, .int .i64 0, .bool false, .int .i64 0, .int .i64 0, .bool false, .int .i64 0, .int .i64 0, .bool false, .int .i64 8, .int .i64 8, .bool false] 0 .yes),
  (1106, .cells [.slice (some (1105, 0)) 9 (some 9), .int .i64 0] 0 .yes),
  (1107, .cells [.int .u32 0, .slice none 0 (some 0), .bool false, .int .i64 0, .int .u32 0, .slice none 0 (some 0), .bool false, .int .i64 0, .int .u32 0, .slice none 0 (some 0), .bool false, .int .i64 0, .int .u32 0, .slice none 0 (some 0), .bool false, .int .i64 0, .int .u32 0, .slice none 0 (some 0), .bool false, .int .i64 0, .int .u32 0, .slice none 0 (some 0), .bool false, .int .i64 0, .int .u32 0, .slice none 0 (some 0), .bool false, .int .i64 0, .int .u32 0, .slice none 0 (some 0), .bool false, .int .i64 0] 0 .yes),
  (1108, .map [] 0),
  (1109, .cells [.ptr (some (946, 0)), .slice (some (1107, 0)) 8 (some 8), .map (some 1108), .slice (some (1125, 0)) 8 none, .ptr (some (1106, 0))] 0 .yes),
  (1125, .cells [.int .i64 0, .int .i64 1, .int .i64 2, .int .i64 3, .int .i64 4, .int .i64 5, .int .i64 6, .int .i64 7] 1 .yes),
  (1126, .cells [.int .u64 1] 0 .yes),
  (1127, .cells [.int .i64 9, .int .i64 1, .slice (some (1126, 0)) 1 (some 1)] 0 .yes),
  (1128, .cells [.ptr (some (1127, 0))] 0 .yes),
  (1129, .cells [.int .i64 9, .int .i64 200, .int .i64 8, .int .i64 8, .int .i64 16, .int .i64 16, .int .i64 2, .int .i64 1, .ptr (some (946, 0)), .ptr (some (1109, 0)), .ptr (some (1128, 0)), .int .u32 0] 0 .yes)],
 v := .tup [.slice (some (1220, 0)) 1 none, .int .i64 0], nout := 1221, ldel := [],
 lset := [(946, .cells [.int .i64 200, .slice (some (945, 0)) 1800 none, .int .u64 2, .int .u64 0] 0 .yes),
  (1105, .cells [.int .i64 0, .int .i64 0, .bool false, .int .i64 0, .int .i64 0, .bool false, .int .i64 0, .int .i64 0, .bool false, .int .i64 0, .int .i64 0, .bool false, .int .i64 0, .int .i64 0, .bool false, .int .i64 0, .int .i64 0, .bool false, .int .i64 0, .int .i64 0, .bool false, .int .i64 8, .int .i64 8, .bool true, .int .i64 7, .int .i64 7, .bool false] 0 .yes),
  (1106, .cells [.slice (some (1105, 0)) 9 (some 9), .int .i64 1] 0 .yes),
  (1107, .cells [.int .u32 0, .slice none 0 (some 0), .bool false, .int .i64 0, .int .u32 0, .slice none 0 (some 0), .bool false, .int .i64 0, .int .u32 0, .slice none 0 (some 0), .bool false, .int .i64 0, .int .u32 0, .slice none 0 (some 0), .bool false, .int .i64 0, .int .u32 0, .slice none 0 (some 0), .bool false, .int .i64 0, .int .u32 0, .slice none 0 (some 0), .bool false, .int .i64 0, .int .u32 0, .slice none 0 (some 0), .bool false, .int .i64 0, .int .u32 1, .slice (some (1137, 0)) 200 none, .bool false, .int .i64 0] 0 .yes),
  (1108, .map [(.int .u32 1, .int .i64 7, 0)] 1),
  (1109, .cells [.ptr (some (946, 0)), .slice (some (1107, 0)) 8 (some 8), .map (some 1108), .slice (some (1125, 0)) 7 none, .ptr (some (1106, 0))] 0 .yes),
  (1137, .cells (by8 [1] ++ (nul 199)) 1 (.of 5)),
  (1220, .cells [.int .u32 1] 1 .yes)] }

noncomputable def hk18F (args : List AV) (M : AMem) : Option (AV × AMem) := match hk17 171 with
  | some h => h args M
  | none => acall Tryz.prog hk17 1000 171 args M

noncomputable def hk18 : Hook := fun f => match f with
  | 171 => some (cutAt [cut18] hk18F)
  | _ => hk17 f

def cut19 : Cut := {
 args := [.agg [.int .i64 9, .int .i64 200, .int .i64 8, .int .i64 8, .int .i64 16, .int .i64 16, .int .i64 2, .int .i64 1], .slice (some (1224, 0)) 200 none], nin := 1226,
 lin := [(1, .ro (by8 [0, 1, 56, 2, 57, 49, 28, 3, 61, 58, 42, 50, 38, 29, 17, 4, 62, 47, 59, 36, 45, 43, 51, 22, 53, 39, 33, 30, 24, 18, 12, 5, 63, 55, 48, 27, 60, 41, 37, 16, 46, 35, 44, 21, 52, 32, 23, 11, 54, 26, 40, 15, 34, 20, 31, 10, 25, 14, 19, 9, 13, 8, 7, 6])),
  (1224, .cells (by8 [1] ++ (nul 199)) 1 (.of 5))],
 v := .tup [.agg [.int .i64 0, .slice none 0 (some 0), .slice none 0 (some 0), .slice none 0 (some 0), .slice none 0 (some 0)], .int .i64 0], nout := 1291, ldel := [],
 lset := [] }

noncomputable def hk19F (args : List AV) (M : AMem) : Option (AV × AMem) := match hk18 215 with
  | some h => h args M
  | none => acall Tryz.prog hk18 1000 215 args M

noncomputable def hk19 : Hook := fun f => match f with
  | 215 => some (cutAt [cut19] hk19F)
  | _ => hk18 f

def cut20 : Cut := {
 args := [.ptr (some (1129, 0)), .int .u32 1], nin := 1130,
 lin := [(1, .ro (by8 [0, 1, 56, 2, 57, 49, 28, 3, 61, 58, 42, 50, 38, 29, 17, 4, 62, 47, 59, 36, 45, 43, 51, 22, 53, 39, 33, 30, 24, 18, 12, 5, 63, 55, 48, 27, 60, 41, 37, 16, 46, 35, 44, 21, 52, 32, 23, 11, 54, 26, 40, 15, 34, 20, 31, 10, 25, 14, 19, 9, 13, 8, 7, 6])),
  (945, .cells (by8 [83, 76, 85, 73, 67, 69, 48, 49, 0, 0, 0, 9, 0, 0, 0, 200, 0, 0, 0, 8, 0, 0, 0, 8, 0, 0, 0, 16, 0, 0, 0, 16, 0, 0, 0, 2, 0, 0, 0, 1, 0, 0, 0, 1, 0, 0, 0, 1, 0, 0, 0, 0, 0, 0, 0, 0, 0, 0, 0, 0, 166, 13, 3, 45] ++ (nul 136 ++ (by8 [1] ++ (nul 1599)))) 1 (.of 5)),
  (946, .cells [.int .i64 200, .slice (some (945, 0)) 1800 none, .int .u64 1, .int .u64 0] 0 .yes),
  (1105, .cells [.int .i64 0, .int .i64 0, .bool false, .int .i64 0, .int .i64 0, .bool false, .int .i64 0, .int .i64 0, .bool false, .int .i64 0, .int .i64 0, .bool false, .int .i64 0, .int .i64 0, .bool false, .int .i64 0, .int .i64 0, .bool false, .int .i64 0, .int .i64 0, .bool false, .int .i64 0, .int .i64 0, .bool false, .int .i64 8, .int .i64 8, .bool false] 0 .yes),
  (1106, .cells [.slice (some (1105, 0)) 9 (some 9), .int .i64 0] 0 .yes),
  (1107, .cells [.int .u32 0, .slice none 0 (some 0), .bool false, .int .i64 0, .int .u32 0, .slice none 0 (some 0), .bool false, .int .i64 0, .int .u32 0, .slice none 0 (some 0), .bool false, .int .i64 0, .int .u32 0, .slice none 0 (some 0), .bool false, .int .i64 0, .int .u32 0, .slice none 0 (some 0), .bool false, .int .i64 0, .int .u32 0, .slice none 0 (some 0), .bool false, .int .i64 0, .int .u32 0, .slice none 0 (some 0), .bool false, .int .i64 0, .int .u32 0, .slice none 0 (some 0), .bool false, .int .i64 0] 0 .yes),
  (1108, .map [] 0),
  (1109, .cells [.ptr (some (946, 0)), .slice (some (1107, 0)) 8 (some 8), .map (some 1108), .slice (some (1125, 0)) 8 none, .ptr (some (1106, 0))] 0 .yes),
  (1125, .cells [.int .i64 0, .int .i64 1, .int .i64 2, .int .i64 3, .int .i64 4, .int .i64 5, .int .i64 6, .int .i64 7] 1 .yes),
  (1126, .cells [.int .u64 1] 0 .yes),
  (1127, .cells [.int .i64 9, .int .i64 1, .slice (some (1126, 0)) 1 (some 1)] 0 .yes),
  (1128, .cells [.ptr (some (1127, 0))] 0 .yes),
  (1129, .cells [.int .i64 9, .int .i64 200, .int .i64 8, .int .i64 8, .int .i64 16, .int .i64 16, .int .i64 2, .int .i64 1, .ptr (some (946, 0)), .ptr (some (1109, 0)), .ptr (some (1128, 0)), .int .u32 0] 0 .yes)],
 v := .tup [.ptr (some (1292, 0)), .int .i64 0], nout := 1294, ldel := [],
 lset := [(946, .cells [.int .i64 200, .slice (some (945, 0)) 1800 none, .int .u64 2, .int .u64 0] 0 .yes),
  (1107, .cells [.int .u32 0, .slice none 0 (some 0), .bool false, .int .i64 0, .int .u32 0, .slice none 0 (some 0), .bool false, .int .i64 0, .int .u32 0, .slice none 0 (some 0), .bool false, .int .i64 0, .int .u32 0, .slice none 0 (some 0), .bool false, .int .i64 0, .int .u32 0, .slice none 0 (some 0), .bool false, .int .i64 0, .int .u32 0, .slice none 0 (some 0), .bool false, .int .i64 0, .int .u32 0, .slice none 0 (some 0), .bool false, .int .i64 0, .int .u32 1, .slice (some (1137, 0)) 200 none, .bool false, .int .i64 1] 0 .yes),
  (1108, .map [(.int .u32 1, .int .i64 7, 0)] 1),
  (1109, .cells [.ptr (some (946, 0)), .slice (some (1107, 0)) 8 (some 8), .map (some 1108), .slice (some (1125, 0)) 7 none, .ptr (some (1106, 0))] 0 .yes),
  (1126, .cells [.int .u64 3] 0 .yes),
  (1127, .cells [.int .i64 9, .int .i64 2, .slice (some (1126, 0)) 1 (some 1)] 0 .yes),
  (1129, .cells [.int .i64 9, .int .i64 200, .int .i64 8, .int .i64 8, .int .i64 16, .int .i64 16, .int .i64 2, .int .i64 1, .ptr (some (946, 0)), .ptr (some (1109, 0)), .ptr (some (1128, 0)), .int .u32 1] 0 .yes),
  (1137, .cells (by8 [1] ++ (nul 199)) 1 (.of 5)),
  (1292, .cells [.ptr (some (1129, 0)), .int .u32 1, .int .i64 0, .int .i64 0, .int .i64 0, .int .i64 0] 0 .yes)] }

noncomputable def hk20F (args : List AV) (M : AMem) : Option (AV × AMem) := match hk19 133 with
  | some h => h args M
  | none => acall Tryz.prog hk19 1000 133 args M

noncomputable def hk20 : Hook := fun f => match f with
  | 133 => some (cutAt [cut20] hk20F)
  | _ => hk19 f

def cut21 : Cut := {
 args := [.int .i64 200, .slice (some (943, 0)) 1800 none], nin := 944,
 lin := [(1, .ro (by8 [0, 1, 56, 2, 57, 49, 28, 3, 61, 58, 42, 50, 38, 29, 17, 4, 62, 47, 59, 36, 45, 43, 51, 22, 53, 39, 33, 30, 24, 18, 12, 5, 63, 55, 48, 27, 60, 41, 37, 16, 46, 35, 44, 21, 52, 32, 23, 11, 54, 26, 40, 15, 34, 20, 31, 10, 25, 14, 19, 9, 13, 8, 7, 6])),
  (943, .cells (by8 [83, 76, 85, 73, 67, 69, 48, 49, 0, 0, 0, 9, 0, 0, 0, 200, 0, 0, 0, 8, 0, 0, 0, 8, 0, 0, 0, 16, 0, 0, 0, 16, 0, 0, 0, 2, 0, 0, 0, 1, 0, 0, 0, 1, 0, 0, 0, 1, 0, 0, 0, 0, 0, 0, 0, 0, 0, 0, 0, 0, 166, 13, 3, 45] ++ (nul 136 ++ (by8 [1] ++ (nul 1599)))) 1 (.of 5))],
 v := .tup [.ptr (some (1297, 0)), .int .i64 0], nout := 1298, ldel := [],
 lset := [(945, .cells (by8 [83, 76, 85, 73, 67, 69, 48, 49, 0, 0, 0, 9, 0, 0, 0, 200, 0, 0, 0, 8, 0, 0, 0, 8, 0, 0, 0, 16, 0, 0, 0, 16, 0, 0, 0, 2, 0, 0, 0, 1, 0, 0, 0, 1, 0, 0, 0, 1, 0, 0, 0, 0, 0, 0, 0, 0, 0, 0, 0, 0, 166, 13, 3, 45] ++ (nul 136 ++ (by8 [1] ++ (nul 1599)))) 1 (.of 5)),
  (946, .cells [.int .i64 200, .slice (some (945, 0)) 1800 none, .int .u64 2, .int .u64 0] 0 .yes),
  (1105, .cells [.int .i64 0, .int .i64 0, .bool false, .int .i64 0, .int .i64 0, .bool false, .int .i64 0, .int .i64 0, .bool false, .int .i64 0, .int .i64 0, .bool false, .int .i64 0, .int .i64 0, .bool false, .int .i64 0, .int .i64 0, .bool false, .int .i64 0, .int .i64 0, .bool false, .int .i64 0, .int .i64 0, .bool false, .int .i64 8, .int .i64 8, .bool false] 0 .yes),
  (1106, .cells [.slice (some (1105, 0)) 9 (some 9), .int .i64 0] 0 .yes),
  (1107, .cells [.int .u32 0, .slice none 0 (some 0), .bool false, .int .i64 0, .int .u32 0, .slice none 0 (some 0), .bool false, .int .i64 0, .int .u32 0, .slice none 0 (some 0), .bool false, .int .i64 0, .int .u32 0, .slice none 0 (some 0), .bool false, .int .i64 0, .int .u32 0, .slice none 0 (some 0), .bool false, .int .i64 0, .int .u32 0, .slice none 0 (some 0), .bool false, .int .i64 0, .int .u32 0, .slice none 0 (some 0), .bool false, .int .i64 0, .int .u32 1, .slice (some (1137, 0)) 200 none, .bool false, .int .i64 1] 0 .yes),
  (1108, .map [(.int .u32 1, .int .i64 7, 0)] 1),
  (1109, .cells [.ptr (some (946, 0)), .slice (some (1107, 0)) 8 (some 8), .map (some 1108), .slice (some (1125, 0)) 7 none, .ptr (some (1106, 0))] 0 .yes),
  (1125, .cells [.int .i64 0, .int .i64 1, .int .i64 2, .int .i64 3, .int .i64 4, .int .i64 5, .int .i64 6, .int .i64 7] 1 .yes),
  (1126, .cells [.int .u64 3] 0 .yes),
  (1127, .cells [.int .i64 9, .int .i64 2, .slice (some (1126, 0)) 1 (some 1)] 0 .yes),
  (1128, .cells [.ptr (some (1127, 0))] 0 .yes),
  (1129, .cells [.int .i64 9, .int .i64 200, .int .i64 8, .int .i64 8, .int .i64 16, .int .i64 16, .int .i64 2, .int .i64 1, .ptr (some (946, 0)), .ptr (some (1109, 0)), .ptr (some (1128, 0)), .int .u32 1] 0 .yes),
  (1137, .cells (by8 [1] ++ (nul 199)) 1 (.of 5)),
  (1292, .cells [.ptr (some (1129, 0)), .int .u32 1, .int .i64 0, .int .i64 0, .int .i64 0, .int .i64 0] 0 .yes),
  (1294, .cells [.ptr (some (946, 0)), .ptr (some (1292, 0))] 0 .yes),
  (1297, .cells [.int .i64 9, .int .i64 200, .int .i64 8, .int .i64 8, .int .i64 16, .int .i64 16, .int .i64 2, .int .i64 1, .ptr (some (1294, 0)), .bool true, .int .u64 0, .int .u64 0, .int .u64 0, .int .u64 0] 0 .yes)] }

noncomputable def hk21F (args : List AV) (M : AMem) : Option (AV × AMem) := match hk20 39 with
  | some h => h args M
  | none => acall Tryz.prog hk20 1000 39 args M

noncomputable def hk21 : Hook := fun f => match f with
  | 39 => some (cutAt [cut21] hk21F)
  | _ => hk20 f

end Go.Proofs.YtkmfndahppabiaaGreatDoor
