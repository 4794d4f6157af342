/-
  22 cuts and their hooks. Printed by wip/tool/mkcuts5.py.
-/
import Derived.Test.YtjgionikigpdmaaGreatDoorBase
namespace Go.Proofs.YtjgionikigpdmaaGreatDoor
open Go Go.Ab Go.Proofs
set_option linter.unusedVariables false
set_option maxRecDepth 100000

def by8 (l : List Int) : List AV := l.map (AV.int .u8)
def nul (n : Nat) : List AV := List.replicate n (.int .u8 0)

def cut1 : Cut := {
 args := [.ptr (some (59, 0))], nin := 60,
 lin := [(7, .ro (by8 [0, 1, 56, 2, 57, 49, 28, 3, 61, 58, 42, 50, 38, 29, 17, 4, 62, 47, 59, 36, 45, 43, 51, 22, 53, 39, 33, 30, 24, 18, 12, 5, 63, 55, 48, 27, 60, 41, 37, 16, 46, 35, 44, 21, 52, 32, 23, 11, 54, 26, 40, 15, 34, 20, 31, 10, 25, 14, 19, 9, 13, 8, 7, 6])),
  (23, .cells (nul 1800) 0 .yes),
  (24, .cells [.int .i64 200, .slice (some (23, 0)) 1800 (some 1800), .int .u64 0, .int .u64 0] 0 .yes),
  (35, .cells [.int .i64 0, .int .i64 0, .bool false, .int .i64 0, .int .i64 0, .bool false, .int .i64 0, .int .i64 0, .bool false, .int .i64 0, .int .i64 0, .bool false, .int .i64 0, .int .i64 0, .bool false, .int .i64 0, .int .i64 0, .bool false, .int .i64 0, .int .i64 0, .bool false, .int .i64 0, .int .i64 0, .bool false, .int .i64 8, .int .i64 8, .bool false] 0 .yes),
  (36, .cells [.slice (some (35, 0)) 9 (some 9), .int .i64 0] 0 .yes),
  (37, .cells [.int .u32 0, .slice none 0 (some 0), .bool false, .int .i64 0, .int .u32 0, .slice none 0 (some 0), .bool false, .int .i64 0, .int .u32 0, .slice none 0 (some 0), .bool false, .int .i64 0, .int .u32 0, .slice none 0 (some 0), .bool false, .int .i64 0, .int .u32 0, .slice none 0 (some 0), .bool false, .int .i64 0, .int .u32 0, .slice none 0 (some 0), .bool false, .int .i64 0, .int .u32 0, .slice none 0 (some 0), .bool false, .int .i64 0, .int .u32 0, .slice none 0 (some 0), .bool false, .int .i64 0] 0 .yes),
  (38, .map [] 0),
  (39, .cells [.ptr (some (24, 0)), .slice (some (37, 0)) 8 (some 8), .map (some 38), .slice (some (55, 0)) 8 none, .ptr (some (36, 0))] 0 .yes),
  (55, .cells [.int .i64 0, .int .i64 1, .int .i64 2, .int .i64 3, .int .i64 4, .int .i64 5, .int .i64 6, .int .i64 7] 1 .yes),
  (56, .cells [.int .u64 1] 0 .yes),
  (57, .cells [.int .i64 9, .int .i64 1, .slice (some (56, 0)) 1 (some 1)] 0 .yes),
  (58, .cells [.ptr (some (57, 0))] 0 .yes),
  (59, .cells [.int .i64 9, .int .i64 200, .int .i64 8, .int .i64 8, .int .i64 16, .int .i64 16, .int .i64 2, .int .i64 1, .ptr (some (24, 0)), .ptr (some (39, 0)), .ptr (some (58, 0)), .int .u32 0] 0 .yes)],
 v := .tup [.ptr (some (110, 0)), .int .i64 0], nout := 112, ldel := [],
 lset := [(37, .cells [.int .u32 0, .slice none 0 (some 0), .bool false, .int .i64 0, .int .u32 0, .slice none 0 (some 0), .bool false, .int .i64 0, .int .u32 0, .slice none 0 (some 0), .bool false, .int .i64 0, .int .u32 0, .slice none 0 (some 0), .bool false, .int .i64 0, .int .u32 0, .slice none 0 (some 0), .bool false, .int .i64 0, .int .u32 0, .slice none 0 (some 0), .bool false, .int .i64 0, .int .u32 0, .slice none 0 (some 0), .bool false, .int .i64 0, .int .u32 1, .slice (some (108, 0)) 200 none, .bool true, .int .i64 1] 0 .yes),
  (38, .map [(.int .u32 1, .int .i64 7, 0)] 1),
  (39, .cells [.ptr (some (24, 0)), .slice (some (37, 0)) 8 (some 8), .map (some 38), .slice (some (55, 0)) 7 none, .ptr (some (36, 0))] 0 .yes),
  (56, .cells [.int .u64 3] 0 .yes),
  (57, .cells [.int .i64 9, .int .i64 2, .slice (some (56, 0)) 1 (some 1)] 0 .yes),
  (59, .cells [.int .i64 9, .int .i64 200, .int .i64 8, .int .i64 8, .int .i64 16, .int .i64 16, .int .i64 2, .int .i64 1, .ptr (some (24, 0)), .ptr (some (39, 0)), .ptr (some (58, 0)), .int .u32 1] 0 .yes),
  (108, .cells (by8 [1] ++ (nul 199)) 1 (.of 5)),
  (110, .cells [.ptr (some (59, 0)), .int .u32 1, .int .i64 0, .int .i64 0, .int .i64 0, .int .i64 0] 0 .yes)] }

noncomputable def hk1F (args : List AV) (M : AMem) : Option (AV × AMem) := match hkB 40 with
  | some h => h args M
  | none => acall Tryz.prog hkB 1000 40 args M

noncomputable def hk1 : Hook := fun f => match f with
  | 40 => some (cutAt [cut1] hk1F)
  | _ => hkB f

def cut2 : Cut := {
 args := [.ptr (some (112, 0))], nin := 113,
 lin := [(7, .ro (by8 [0, 1, 56, 2, 57, 49, 28, 3, 61, 58, 42, 50, 38, 29, 17, 4, 62, 47, 59, 36, 45, 43, 51, 22, 53, 39, 33, 30, 24, 18, 12, 5, 63, 55, 48, 27, 60, 41, 37, 16, 46, 35, 44, 21, 52, 32, 23, 11, 54, 26, 40, 15, 34, 20, 31, 10, 25, 14, 19, 9, 13, 8, 7, 6])),
  (23, .cells (nul 1800) 0 .yes),
  (24, .cells [.int .i64 200, .slice (some (23, 0)) 1800 (some 1800), .int .u64 0, .int .u64 0] 0 .yes),
  (35, .cells [.int .i64 0, .int .i64 0, .bool false, .int .i64 0, .int .i64 0, .bool false, .int .i64 0, .int .i64 0, .bool false, .int .i64 0, .int .i64 0, .bool false, .int .i64 0, .int .i64 0, .bool false, .int .i64 0, .int .i64 0, .bool false, .int .i64 0, .int .i64 0, .bool false, .int .i64 0, .int .i64 0, .bool false, .int .i64 8, .int .i64 8, .bool false] 0 .yes),
  (36, .cells [.slice (some (35, 0)) 9 (some 9), .int .i64 0] 0 .yes),
  (37, .cells [.int .u32 0, .slice none 0 (some 0), .bool false, .int .i64 0, .int .u32 0, .slice none 0 (some 0), .bool false, .int .i64 0, .int .u32 0, .slice none 0 (some 0), .bool false, .int .i64 0, .int .u32 0, .slice none 0 (some 0), .bool false, .int .i64 0, .int .u32 0, .slice none 0 (some 0), .bool false, .int .i64 0, .int .u32 0, .slice none 0 (some 0), .bool false, .int .i64 0, .int .u32 0, .slice none 0 (some 0), .bool false, .int .i64 0, .int .u32 1, .slice (some (108, 0)) 200 none, .bool true, .int .i64 1] 0 .yes),
  (38, .map [(.int .u32 1, .int .i64 7, 0)] 1),
  (39, .cells [.ptr (some (24, 0)), .slice (some (37, 0)) 8 (some 8), .map (some 38), .slice (some (55, 0)) 7 none, .ptr (some (36, 0))] 0 .yes),
  (55, .cells [.int .i64 0, .int .i64 1, .int .i64 2, .int .i64 3, .int .i64 4, .int .i64 5, .int .i64 6, .int .i64 7] 1 .yes),
  (56, .cells [.int .u64 3] 0 .yes),
  (57, .cells [.int .i64 9, .int .i64 2, .slice (some (56, 0)) 1 (some 1)] 0 .yes),
  (58, .cells [.ptr (some (57, 0))] 0 .yes),
  (59, .cells [.int .i64 9, .int .i64 200, .int .i64 8, .int .i64 8, .int .i64 16, .int .i64 16, .int .i64 2, .int .i64 1, .ptr (some (24, 0)), .ptr (some (39, 0)), .ptr (some (58, 0)), .int .u32 1] 0 .yes),
  (108, .cells (by8 [1] ++ (nul 199)) 1 (.of 5)),
  (110, .cells [.ptr (some (59, 0)), .int .u32 1, .int .i64 0, .int .i64 0, .int .i64 0, .int .i64 0] 0 .yes),
  (112, .cells [.ptr (some (24, 0)), .ptr (some (110, 0))] 0 .yes)],
 v := .int .i64 0, nout := 246, ldel := [],
 lset := [(23, .cells (by8 [83, 76, 85, 73, 67, 69, 48, 49, 0, 0, 0, 9, 0, 0, 0, 200, 0, 0, 0, 8, 0, 0, 0, 8, 0, 0, 0, 16, 0, 0, 0, 16, 0, 0, 0, 2, 0, 0, 0, 1, 0, 0, 0, 1, 0, 0, 0, 1, 0, 0, 0, 0, 0, 0, 0, 0, 0, 0, 0, 0, 166, 13, 3, 45] ++ (nul 136 ++ (by8 [1] ++ (nul 1599)))) 0 .yes),
  (24, .cells [.int .i64 200, .slice (some (23, 0)) 1800 (some 1800), .int .u64 0, .int .u64 2] 0 .yes),
  (37, .cells [.int .u32 0, .slice none 0 (some 0), .bool false, .int .i64 0, .int .u32 0, .slice none 0 (some 0), .bool false, .int .i64 0, .int .u32 0, .slice none 0 (some 0), .bool false, .int .i64 0, .int .u32 0, .slice none 0 (some 0), .bool false, .int .i64 0, .int .u32 0, .slice none 0 (some 0), .bool false, .int .i64 0, .int .u32 0, .slice none 0 (some 0), .bool false, .int .i64 0, .int .u32 0, .slice none 0 (some 0), .bool false, .int .i64 0, .int .u32 1, .slice (some (108, 0)) 200 none, .bool false, .int .i64 1] 0 .yes)] }

noncomputable def hk2F (args : List AV) (M : AMem) : Option (AV × AMem) := match hk1 41 with
  | some h => h args M
  | none => acall Tryz.prog hk1 1000 41 args M

noncomputable def hk2 : Hook := fun f => match f with
  | 41 => some (cutAt [cut2] hk2F)
  | _ => hk1 f

def cut3 : Cut := {
 args := [.agg [.int .i64 9, .int .i64 200, .int .i64 8, .int .i64 8, .int .i64 16, .int .i64 16, .int .i64 2, .int .i64 1]], nin := 12,
 lin := [(7, .ro (by8 [0, 1, 56, 2, 57, 49, 28, 3, 61, 58, 42, 50, 38, 29, 17, 4, 62, 47, 59, 36, 45, 43, 51, 22, 53, 39, 33, 30, 24, 18, 12, 5, 63, 55, 48, 27, 60, 41, 37, 16, 46, 35, 44, 21, 52, 32, 23, 11, 54, 26, 40, 15, 34, 20, 31, 10, 25, 14, 19, 9, 13, 8, 7, 6]))],
 v := .tup [.ptr (some (248, 0)), .int .i64 0], nout := 249, ldel := [],
 lset := [(23, .cells (by8 [83, 76, 85, 73, 67, 69, 48, 49, 0, 0, 0, 9, 0, 0, 0, 200, 0, 0, 0, 8, 0, 0, 0, 8, 0, 0, 0, 16, 0, 0, 0, 16, 0, 0, 0, 2, 0, 0, 0, 1, 0, 0, 0, 1, 0, 0, 0, 1, 0, 0, 0, 0, 0, 0, 0, 0, 0, 0, 0, 0, 166, 13, 3, 45] ++ (nul 136 ++ (by8 [1] ++ (nul 1599)))) 0 .yes),
  (24, .cells [.int .i64 200, .slice (some (23, 0)) 1800 (some 1800), .int .u64 0, .int .u64 2] 0 .yes),
  (35, .cells [.int .i64 0, .int .i64 0, .bool false, .int .i64 0, .int .i64 0, .bool false, .int .i64 0, .int .i64 0, .bool false, .int .i64 0, .int .i64 0, .bool false, .int .i64 0, .int .i64 0, .bool false, .int .i64 0, .int .i64 0, .bool false, .int .i64 0, .int .i64 0, .bool false, .int .i64 0, .int .i64 0, .bool false, .int .i64 8, .int .i64 8, .bool false] 0 .yes),
  (36, .cells [.slice (some (35, 0)) 9 (some 9), .int .i64 0] 0 .yes),
  (37, .cells [.int .u32 0, .slice none 0 (some 0), .bool false, .int .i64 0, .int .u32 0, .slice none 0 (some 0), .bool false, .int .i64 0, .int .u32 0, .slice none 0 (some 0), .bool false, .int .i64 0, .int .u32 0, .slice none 0 (some 0), .bool false, .int .i64 0, .int .u32 0, .slice none 0 (some 0), .bool false, .int .i64 0, .int .u32 0, .slice none 0 (some 0), .bool false, .int .i64 0, .int .u32 0, .slice none 0 (some 0), .bool false, .int .i64 0, .int .u32 1, .slice (some (108, 0)) 200 none, .bool false, .int .i64 1] 0 .yes),
  (38, .map [(.int .u32 1, .int .i64 7, 0)] 1),
  (39, .cells [.ptr (some (24, 0)), .slice (some (37, 0)) 8 (some 8), .map (some 38), .slice (some (55, 0)) 7 none, .ptr (some (36, 0))] 0 .yes),
  (55, .cells [.int .i64 0, .int .i64 1, .int .i64 2, .int .i64 3, .int .i64 4, .int .i64 5, .int .i64 6, .int .i64 7] 1 .yes),
  (56, .cells [.int .u64 3] 0 .yes),
  (57, .cells [.int .i64 9, .int .i64 2, .slice (some (56, 0)) 1 (some 1)] 0 .yes),
  (58, .cells [.ptr (some (57, 0))] 0 .yes),
  (59, .cells [.int .i64 9, .int .i64 200, .int .i64 8, .int .i64 8, .int .i64 16, .int .i64 16, .int .i64 2, .int .i64 1, .ptr (some (24, 0)), .ptr (some (39, 0)), .ptr (some (58, 0)), .int .u32 1] 0 .yes),
  (108, .cells (by8 [1] ++ (nul 199)) 1 (.of 5)),
  (110, .cells [.ptr (some (59, 0)), .int .u32 1, .int .i64 0, .int .i64 0, .int .i64 0, .int .i64 0] 0 .yes),
  (112, .cells [.ptr (some (24, 0)), .ptr (some (110, 0))] 0 .yes),
  (248, .cells [.int .i64 9, .int .i64 200, .int .i64 8, .int .i64 8, .int .i64 16, .int .i64 16, .int .i64 2, .int .i64 1, .ptr (some (112, 0)), .bool true, .int .u64 0, .int .u64 0, .int .u64 0, .int .u64 0] 0 .yes)] }

noncomputable def hk3F (args : List AV) (M : AMem) : Option (AV × AMem) := match hk2 21 with
  | some h => h args M
  | none => acall Tryz.prog hk2 1000 21 args M

noncomputable def hk3 : Hook := fun f => match f with
  | 21 => some (cutAt [cut3] hk3F)
  | _ => hk2 f

def cut4 : Cut := {
 args := [.str [112, 117, 116, 32, 97, 32, 49]], nin := 250,
 lin := [(7, .ro (by8 [0, 1, 56, 2, 57, 49, 28, 3, 61, 58, 42, 50, 38, 29, 17, 4, 62, 47, 59, 36, 45, 43, 51, 22, 53, 39, 33, 30, 24, 18, 12, 5, 63, 55, 48, 27, 60, 41, 37, 16, 46, 35, 44, 21, 52, 32, 23, 11, 54, 26, 40, 15, 34, 20, 31, 10, 25, 14, 19, 9, 13, 8, 7, 6]))],
 v := .tup [.agg [.int .i64 1, .str [97], .str [49], .int .i64 0], .bool true], nout := 269, ldel := [],
 lset := [] }

noncomputable def hk4F (args : List AV) (M : AMem) : Option (AV × AMem) := match hk3 23 with
  | some h => h args M
  | none => acall Tryz.prog hk3 1000 23 args M

noncomputable def hk4 : Hook := fun f => match f with
  | 23 => some (cutAt [cut4] hk4F)
  | _ => hk3 f

def cut5 : Cut := {
 args := [.agg [.int .i64 9, .int .i64 200, .int .i64 8, .int .i64 8, .int .i64 16, .int .i64 16, .int .i64 2, .int .i64 1], .slice (some (289, 0)) 200 none], nin := 290,
 lin := [(7, .ro (by8 [0, 1, 56, 2, 57, 49, 28, 3, 61, 58, 42, 50, 38, 29, 17, 4, 62, 47, 59, 36, 45, 43, 51, 22, 53, 39, 33, 30, 24, 18, 12, 5, 63, 55, 48, 27, 60, 41, 37, 16, 46, 35, 44, 21, 52, 32, 23, 11, 54, 26, 40, 15, 34, 20, 31, 10, 25, 14, 19, 9, 13, 8, 7, 6])),
  (289, .cells (by8 [1] ++ (nul 199)) 1 (.of 5))],
 v := .tup [.agg [.int .i64 0, .slice none 0 (some 0), .slice none 0 (some 0), .slice none 0 (some 0), .slice none 0 (some 0)], .int .i64 0], nout := 355, ldel := [],
 lset := [] }

noncomputable def hk5F (args : List AV) (M : AMem) : Option (AV × AMem) := match hk4 222 with
  | some h => h args M
  | none => acall Tryz.prog hk4 1000 222 args M

noncomputable def hk5 : Hook := fun f => match f with
  | 222 => some (cutAt [cut5] hk5F)
  | _ => hk4 f

def cut6 : Cut := {
 args := [.ptr (some (110, 0)), .agg [.int .i64 0, .slice none 0 (some 0), .slice none 0 (some 0), .slice none 0 (some 0), .slice none 0 (some 0)], .agg [.str [97], .bool false, .str [49]]], nin := 355,
 lin := [(7, .ro (by8 [0, 1, 56, 2, 57, 49, 28, 3, 61, 58, 42, 50, 38, 29, 17, 4, 62, 47, 59, 36, 45, 43, 51, 22, 53, 39, 33, 30, 24, 18, 12, 5, 63, 55, 48, 27, 60, 41, 37, 16, 46, 35, 44, 21, 52, 32, 23, 11, 54, 26, 40, 15, 34, 20, 31, 10, 25, 14, 19, 9, 13, 8, 7, 6])),
  (23, .cells (by8 [83, 76, 85, 73, 67, 69, 48, 49, 0, 0, 0, 9, 0, 0, 0, 200, 0, 0, 0, 8, 0, 0, 0, 8, 0, 0, 0, 16, 0, 0, 0, 16, 0, 0, 0, 2, 0, 0, 0, 1, 0, 0, 0, 1, 0, 0, 0, 1, 0, 0, 0, 0, 0, 0, 0, 0, 0, 0, 0, 0, 166, 13, 3, 45] ++ (nul 136 ++ (by8 [1] ++ (nul 1599)))) 0 .yes),
  (24, .cells [.int .i64 200, .slice (some (23, 0)) 1800 (some 1800), .int .u64 0, .int .u64 2] 0 .yes),
  (35, .cells [.int .i64 0, .int .i64 0, .bool false, .int .i64 0, .int .i64 0, .bool false, .int .i64 0, .int .i64 0, .bool false, .int .i64 0, .int .i64 0, .bool false, .int .i64 0, .int .i64 0, .bool false, .int .i64 0, .int .i64 0, .bool false, .int .i64 0, .int .i64 0, .bool false, .int .i64 0, .int .i64 0, .bool false, .int .i64 8, .int .i64 8, .bool false] 0 .yes),
  (36, .cells [.slice (some (35, 0)) 9 (some 9), .int .i64 0] 0 .yes),
  (37, .cells [.int .u32 0, .slice none 0 (some 0), .bool false, .int .i64 0, .int .u32 0, .slice none 0 (some 0), .bool false, .int .i64 0, .int .u32 0, .slice none 0 (some 0), .bool false, .int .i64 0, .int .u32 0, .slice none 0 (some 0), .bool false, .int .i64 0, .int .u32 0, .slice none 0 (some 0), .bool false, .int .i64 0, .int .u32 0, .slice none 0 (some 0), .bool false, .int .i64 0, .int .u32 0, .slice none 0 (some 0), .bool false, .int .i64 0, .int .u32 1, .slice (some (108, 0)) 200 none, .bool false, .int .i64 1] 0 .yes),
  (38, .map [(.int .u32 1, .int .i64 7, 0)] 1),
  (39, .cells [.ptr (some (24, 0)), .slice (some (37, 0)) 8 (some 8), .map (some 38), .slice (some (55, 0)) 7 none, .ptr (some (36, 0))] 0 .yes),
  (55, .cells [.int .i64 0, .int .i64 1, .int .i64 2, .int .i64 3, .int .i64 4, .int .i64 5, .int .i64 6, .int .i64 7] 1 .yes),
  (56, .cells [.int .u64 3] 0 .yes),
  (57, .cells [.int .i64 9, .int .i64 2, .slice (some (56, 0)) 1 (some 1)] 0 .yes),
  (58, .cells [.ptr (some (57, 0))] 0 .yes),
  (59, .cells [.int .i64 9, .int .i64 200, .int .i64 8, .int .i64 8, .int .i64 16, .int .i64 16, .int .i64 2, .int .i64 1, .ptr (some (24, 0)), .ptr (some (39, 0)), .ptr (some (58, 0)), .int .u32 1] 0 .yes),
  (108, .cells (by8 [1] ++ (nul 199)) 1 (.of 5)),
  (110, .cells [.ptr (some (59, 0)), .int .u32 1, .int .i64 0, .int .i64 0, .int .i64 0, .int .i64 0] 0 .yes)],
 v := .tup [.bool true, .agg [.int .i64 0, .slice none 0 (some 0), .slice none 0 (some 0), .slice none 0 (some 0), .slice (some (363, 0)) 1 none], .int .i64 0], nout := 425, ldel := [],
 lset := [(37, .cells [.int .u32 0, .slice none 0 (some 0), .bool false, .int .i64 0, .int .u32 0, .slice none 0 (some 0), .bool false, .int .i64 0, .int .u32 0, .slice none 0 (some 0), .bool false, .int .i64 0, .int .u32 0, .slice none 0 (some 0), .bool false, .int .i64 0, .int .u32 0, .slice none 0 (some 0), .bool false, .int .i64 0, .int .u32 0, .slice none 0 (some 0), .bool false, .int .i64 0, .int .u32 0, .slice none 0 (some 0), .bool false, .int .i64 0, .int .u32 1, .slice (some (424, 0)) 200 none, .bool true, .int .i64 1] 0 .yes),
  (363, .cells [.str [97], .str [49]] 2 .yes),
  (424, .cells (by8 [1, 0, 0, 1, 0, 0, 0, 0, 1, 0, 1, 97, 0, 49] ++ (nul 186)) 1 (.of 5))] }

noncomputable def hk6F (args : List AV) (M : AMem) : Option (AV × AMem) := match hk5 178 with
  | some h => h args M
  | none => acall Tryz.prog hk5 1000 178 args M

noncomputable def hk6 : Hook := fun f => match f with
  | 178 => some (cutAt [cut6] hk6F)
  | _ => hk5 f

def cut7 : Cut := {
 args := [.ptr (some (248, 0)), .str [97], .str [49]], nin := 276,
 lin := [(7, .ro (by8 [0, 1, 56, 2, 57, 49, 28, 3, 61, 58, 42, 50, 38, 29, 17, 4, 62, 47, 59, 36, 45, 43, 51, 22, 53, 39, 33, 30, 24, 18, 12, 5, 63, 55, 48, 27, 60, 41, 37, 16, 46, 35, 44, 21, 52, 32, 23, 11, 54, 26, 40, 15, 34, 20, 31, 10, 25, 14, 19, 9, 13, 8, 7, 6])),
  (23, .cells (by8 [83, 76, 85, 73, 67, 69, 48, 49, 0, 0, 0, 9, 0, 0, 0, 200, 0, 0, 0, 8, 0, 0, 0, 8, 0, 0, 0, 16, 0, 0, 0, 16, 0, 0, 0, 2, 0, 0, 0, 1, 0, 0, 0, 1, 0, 0, 0, 1, 0, 0, 0, 0, 0, 0, 0, 0, 0, 0, 0, 0, 166, 13, 3, 45] ++ (nul 136 ++ (by8 [1] ++ (nul 1599)))) 0 .yes),
  (24, .cells [.int .i64 200, .slice (some (23, 0)) 1800 (some 1800), .int .u64 0, .int .u64 2] 0 .yes),
  (35, .cells [.int .i64 0, .int .i64 0, .bool false, .int .i64 0, .int .i64 0, .bool false, .int .i64 0, .int .i64 0, .bool false, .int .i64 0, .int .i64 0, .bool false, .int .i64 0, .int .i64 0, .bool false, .int .i64 0, .int .i64 0, .bool false, .int .i64 0, .int .i64 0, .bool false, .int .i64 0, .int .i64 0, .bool false, .int .i64 8, .int .i64 8, .bool false] 0 .yes),
  (36, .cells [.slice (some (35, 0)) 9 (some 9), .int .i64 0] 0 .yes),
  (37, .cells [.int .u32 0, .slice none 0 (some 0), .bool false, .int .i64 0, .int .u32 0, .slice none 0 (some 0), .bool false, .int .i64 0, .int .u32 0, .slice none 0 (some 0), .bool false, .int .i64 0, .int .u32 0, .slice none 0 (some 0), .bool false, .int .i64 0, .int .u32 0, .slice none 0 (some 0), .bool false, .int .i64 0, .int .u32 0, .slice none 0 (some 0), .bool false, .int .i64 0, .int .u32 0, .slice none 0 (some 0), .bool false, .int .i64 0, .int .u32 1, .slice (some (108, 0)) 200 none, .bool false, .int .i64 1] 0 .yes),
  (38, .map [(.int .u32 1, .int .i64 7, 0)] 1),
  (39, .cells [.ptr (some (24, 0)), .slice (some (37, 0)) 8 (some 8), .map (some 38), .slice (some (55, 0)) 7 none, .ptr (some (36, 0))] 0 .yes),
  (55, .cells [.int .i64 0, .int .i64 1, .int .i64 2, .int .i64 3, .int .i64 4, .int .i64 5, .int .i64 6, .int .i64 7] 1 .yes),
  (56, .cells [.int .u64 3] 0 .yes),
  (57, .cells [.int .i64 9, .int .i64 2, .slice (some (56, 0)) 1 (some 1)] 0 .yes),
  (58, .cells [.ptr (some (57, 0))] 0 .yes),
  (59, .cells [.int .i64 9, .int .i64 200, .int .i64 8, .int .i64 8, .int .i64 16, .int .i64 16, .int .i64 2, .int .i64 1, .ptr (some (24, 0)), .ptr (some (39, 0)), .ptr (some (58, 0)), .int .u32 1] 0 .yes),
  (108, .cells (by8 [1] ++ (nul 199)) 1 (.of 5)),
  (110, .cells [.ptr (some (59, 0)), .int .u32 1, .int .i64 0, .int .i64 0, .int .i64 0, .int .i64 0] 0 .yes),
  (112, .cells [.ptr (some (24, 0)), .ptr (some (110, 0))] 0 .yes),
  (248, .cells [.int .i64 9, .int .i64 200, .int .i64 8, .int .i64 8, .int .i64 16, .int .i64 16, .int .i64 2, .int .i64 1, .ptr (some (112, 0)), .bool true, .int .u64 0, .int .u64 0, .int .u64 0, .int .u64 0] 0 .yes)],
 v := .int .i64 0, nout := 433, ldel := [],
 lset := [(37, .cells [.int .u32 0, .slice none 0 (some 0), .bool false, .int .i64 0, .int .u32 0, .slice none 0 (some 0), .bool false, .int .i64 0, .int .u32 0, .slice none 0 (some 0), .bool false, .int .i64 0, .int .u32 0, .slice none 0 (some 0), .bool false, .int .i64 0, .int .u32 0, .slice none 0 (some 0), .bool false, .int .i64 0, .int .u32 0, .slice none 0 (some 0), .bool false, .int .i64 0, .int .u32 0, .slice none 0 (some 0), .bool false, .int .i64 0, .int .u32 1, .slice (some (424, 0)) 200 none, .bool true, .int .i64 1] 0 .yes),
  (110, .cells [.ptr (some (59, 0)), .int .u32 1, .int .i64 0, .int .i64 1, .int .i64 0, .int .i64 0] 0 .yes),
  (424, .cells (by8 [1, 0, 0, 1, 0, 0, 0, 0, 1, 0, 1, 97, 0, 49] ++ (nul 186)) 1 (.of 5))] }

noncomputable def hk7F (args : List AV) (M : AMem) : Option (AV × AMem) := match hk6 46 with
  | some h => h args M
  | none => acall Tryz.prog hk6 1000 46 args M

noncomputable def hk7 : Hook := fun f => match f with
  | 46 => some (cutAt [cut7] hk7F)
  | _ => hk6 f

def cut8 : Cut := {
 args := [.ptr (some (249, 0)), .str [112, 117, 116, 32, 97, 32, 49]], nin := 250,
 lin := [(7, .ro (by8 [0, 1, 56, 2, 57, 49, 28, 3, 61, 58, 42, 50, 38, 29, 17, 4, 62, 47, 59, 36, 45, 43, 51, 22, 53, 39, 33, 30, 24, 18, 12, 5, 63, 55, 48, 27, 60, 41, 37, 16, 46, 35, 44, 21, 52, 32, 23, 11, 54, 26, 40, 15, 34, 20, 31, 10, 25, 14, 19, 9, 13, 8, 7, 6])),
  (23, .cells (by8 [83, 76, 85, 73, 67, 69, 48, 49, 0, 0, 0, 9, 0, 0, 0, 200, 0, 0, 0, 8, 0, 0, 0, 8, 0, 0, 0, 16, 0, 0, 0, 16, 0, 0, 0, 2, 0, 0, 0, 1, 0, 0, 0, 1, 0, 0, 0, 1, 0, 0, 0, 0, 0, 0, 0, 0, 0, 0, 0, 0, 166, 13, 3, 45] ++ (nul 136 ++ (by8 [1] ++ (nul 1599)))) 0 .yes),
  (24, .cells [.int .i64 200, .slice (some (23, 0)) 1800 (some 1800), .int .u64 0, .int .u64 2] 0 .yes),
  (35, .cells [.int .i64 0, .int .i64 0, .bool false, .int .i64 0, .int .i64 0, .bool false, .int .i64 0, .int .i64 0, .bool false, .int .i64 0, .int .i64 0, .bool false, .int .i64 0, .int .i64 0, .bool false, .int .i64 0, .int .i64 0, .bool false, .int .i64 0, .int .i64 0, .bool false, .int .i64 0, .int .i64 0, .bool false, .int .i64 8, .int .i64 8, .bool false] 0 .yes),
  (36, .cells [.slice (some (35, 0)) 9 (some 9), .int .i64 0] 0 .yes),
  (37, .cells [.int .u32 0, .slice none 0 (some 0), .bool false, .int .i64 0, .int .u32 0, .slice none 0 (some 0), .bool false, .int .i64 0, .int .u32 0, .slice none 0 (some 0), .bool false, .int .i64 0, .int .u32 0, .slice none 0 (some 0), .bool false, .int .i64 0, .int .u32 0, .slice none 0 (some 0), .bool false, .int .i64 0, .int .u32 0, .slice none 0 (some 0), .bool false, .int .i64 0, .int .u32 0, .slice none 0 (some 0), .bool false, .int .i64 0, .int .u32 1, .slice (some (108, 0)) 200 none, .bool false, .int .i64 1] 0 .yes),
  (38, .map [(.int .u32 1, .int .i64 7, 0)] 1),
  (39, .cells [.ptr (some (24, 0)), .slice (some (37, 0)) 8 (some 8), .map (some 38), .slice (some (55, 0)) 7 none, .ptr (some (36, 0))] 0 .yes),
  (55, .cells [.int .i64 0, .int .i64 1, .int .i64 2, .int .i64 3, .int .i64 4, .int .i64 5, .int .i64 6, .int .i64 7] 1 .yes),
  (56, .cells [.int .u64 3] 0 .yes),
  (57, .cells [.int .i64 9, .int .i64 2, .slice (some (56, 0)) 1 (some 1)] 0 .yes),
  (58, .cells [.ptr (some (57, 0))] 0 .yes),
  (59, .cells [.int .i64 9, .int .i64 200, .int .i64 8, .int .i64 8, .int .i64 16, .int .i64 16, .int .i64 2, .int .i64 1, .ptr (some (24, 0)), .ptr (some (39, 0)), .ptr (some (58, 0)), .int .u32 1] 0 .yes),
  (108, .cells (by8 [1] ++ (nul 199)) 1 (.of 5)),
  (110, .cells [.ptr (some (59, 0)), .int .u32 1, .int .i64 0, .int .i64 0, .int .i64 0, .int .i64 0] 0 .yes),
  (112, .cells [.ptr (some (24, 0)), .ptr (some (110, 0))] 0 .yes),
  (248, .cells [.int .i64 9, .int .i64 200, .int .i64 8, .int .i64 8, .int .i64 16, .int .i64 16, .int .i64 2, .int .i64 1, .ptr (some (112, 0)), .bool true, .int .u64 0, .int .u64 0, .int .u64 0, .int .u64 0] 0 .yes),
  (249, .cells [.ptr (some (248, 0))] 0 .yes)],
 v := .str [111, 107], nout := 438, ldel := [],
 lset := [(37, .cells [.int .u32 0, .slice none 0 (some 0), .bool false, .int .i64 0, .int .u32 0, .slice none 0 (some 0), .bool false, .int .i64 0, .int .u32 0, .slice none 0 (some 0), .bool false, .int .i64 0, .int .u32 0, .slice none 0 (some 0), .bool false, .int .i64 0, .int .u32 0, .slice none 0 (some 0), .bool false, .int .i64 0, .int .u32 0, .slice none 0 (some 0), .bool false, .int .i64 0, .int .u32 0, .slice none 0 (some 0), .bool false, .int .i64 0, .int .u32 1, .slice (some (424, 0)) 200 none, .bool true, .int .i64 1] 0 .yes),
  (110, .cells [.ptr (some (59, 0)), .int .u32 1, .int .i64 0, .int .i64 1, .int .i64 0, .int .i64 0] 0 .yes),
  (424, .cells (by8 [1, 0, 0, 1, 0, 0, 0, 0, 1, 0, 1, 97, 0, 49] ++ (nul 186)) 1 (.of 5))] }

noncomputable def hk8F (args : List AV) (M : AMem) : Option (AV × AMem) := match hk7 18 with
  | some h => h args M
  | none => acall Tryz.prog hk7 1000 18 args M

noncomputable def hk8 : Hook := fun f => match f with
  | 18 => some (cutAt [cut8] hk8F)
  | _ => hk7 f

def cut9 : Cut := {
 args := [.str [103, 101, 116, 32, 97]], nin := 440,
 lin := [(7, .ro (by8 [0, 1, 56, 2, 57, 49, 28, 3, 61, 58, 42, 50, 38, 29, 17, 4, 62, 47, 59, 36, 45, 43, 51, 22, 53, 39, 33, 30, 24, 18, 12, 5, 63, 55, 48, 27, 60, 41, 37, 16, 46, 35, 44, 21, 52, 32, 23, 11, 54, 26, 40, 15, 34, 20, 31, 10, 25, 14, 19, 9, 13, 8, 7, 6]))],
 v := .tup [.agg [.int .i64 3, .str [97], .str [], .int .i64 0], .bool true], nout := 455, ldel := [],
 lset := [] }

noncomputable def hk9F (args : List AV) (M : AMem) : Option (AV × AMem) := match hk8 23 with
  | some h => h args M
  | none => acall Tryz.prog hk8 1000 23 args M

noncomputable def hk9 : Hook := fun f => match f with
  | 23 => some (cutAt [cut9] hk9F)
  | _ => hk8 f

def cut10 : Cut := {
 args := [.agg [.int .i64 9, .int .i64 200, .int .i64 8, .int .i64 8, .int .i64 16, .int .i64 16, .int .i64 2, .int .i64 1], .slice (some (472, 0)) 200 none], nin := 473,
 lin := [(7, .ro (by8 [0, 1, 56, 2, 57, 49, 28, 3, 61, 58, 42, 50, 38, 29, 17, 4, 62, 47, 59, 36, 45, 43, 51, 22, 53, 39, 33, 30, 24, 18, 12, 5, 63, 55, 48, 27, 60, 41, 37, 16, 46, 35, 44, 21, 52, 32, 23, 11, 54, 26, 40, 15, 34, 20, 31, 10, 25, 14, 19, 9, 13, 8, 7, 6])),
  (472, .cells (by8 [1, 0, 0, 1, 0, 0, 0, 0, 1, 0, 1, 97, 0, 49] ++ (nul 186)) 1 (.of 5))],
 v := .tup [.agg [.int .i64 0, .slice none 0 (some 0), .slice none 0 (some 0), .slice none 0 (some 0), .slice (some (502, 0)) 1 none], .int .i64 0], nout := 561, ldel := [],
 lset := [(502, .cells [.str [97], .str [49]] 2 .yes)] }

noncomputable def hk10F (args : List AV) (M : AMem) : Option (AV × AMem) := match hk9 222 with
  | some h => h args M
  | none => acall Tryz.prog hk9 1000 222 args M

noncomputable def hk10 : Hook := fun f => match f with
  | 222 => some (cutAt [cut10] hk10F)
  | _ => hk9 f

def cut11 : Cut := {
 args := [.ptr (some (248, 0)), .str [97]], nin := 462,
 lin := [(7, .ro (by8 [0, 1, 56, 2, 57, 49, 28, 3, 61, 58, 42, 50, 38, 29, 17, 4, 62, 47, 59, 36, 45, 43, 51, 22, 53, 39, 33, 30, 24, 18, 12, 5, 63, 55, 48, 27, 60, 41, 37, 16, 46, 35, 44, 21, 52, 32, 23, 11, 54, 26, 40, 15, 34, 20, 31, 10, 25, 14, 19, 9, 13, 8, 7, 6])),
  (23, .cells (by8 [83, 76, 85, 73, 67, 69, 48, 49, 0, 0, 0, 9, 0, 0, 0, 200, 0, 0, 0, 8, 0, 0, 0, 8, 0, 0, 0, 16, 0, 0, 0, 16, 0, 0, 0, 2, 0, 0, 0, 1, 0, 0, 0, 1, 0, 0, 0, 1, 0, 0, 0, 0, 0, 0, 0, 0, 0, 0, 0, 0, 166, 13, 3, 45] ++ (nul 136 ++ (by8 [1] ++ (nul 1599)))) 0 .yes),
  (24, .cells [.int .i64 200, .slice (some (23, 0)) 1800 (some 1800), .int .u64 0, .int .u64 2] 0 .yes),
  (35, .cells [.int .i64 0, .int .i64 0, .bool false, .int .i64 0, .int .i64 0, .bool false, .int .i64 0, .int .i64 0, .bool false, .int .i64 0, .int .i64 0, .bool false, .int .i64 0, .int .i64 0, .bool false, .int .i64 0, .int .i64 0, .bool false, .int .i64 0, .int .i64 0, .bool false, .int .i64 0, .int .i64 0, .bool false, .int .i64 8, .int .i64 8, .bool false] 0 .yes),
  (36, .cells [.slice (some (35, 0)) 9 (some 9), .int .i64 0] 0 .yes),
  (37, .cells [.int .u32 0, .slice none 0 (some 0), .bool false, .int .i64 0, .int .u32 0, .slice none 0 (some 0), .bool false, .int .i64 0, .int .u32 0, .slice none 0 (some 0), .bool false, .int .i64 0, .int .u32 0, .slice none 0 (some 0), .bool false, .int .i64 0, .int .u32 0, .slice none 0 (some 0), .bool false, .int .i64 0, .int .u32 0, .slice none 0 (some 0), .bool false, .int .i64 0, .int .u32 0, .slice none 0 (some 0), .bool false, .int .i64 0, .int .u32 1, .slice (some (424, 0)) 200 none, .bool true, .int .i64 1] 0 .yes),
  (38, .map [(.int .u32 1, .int .i64 7, 0)] 1),
  (39, .cells [.ptr (some (24, 0)), .slice (some (37, 0)) 8 (some 8), .map (some 38), .slice (some (55, 0)) 7 none, .ptr (some (36, 0))] 0 .yes),
  (55, .cells [.int .i64 0, .int .i64 1, .int .i64 2, .int .i64 3, .int .i64 4, .int .i64 5, .int .i64 6, .int .i64 7] 1 .yes),
  (56, .cells [.int .u64 3] 0 .yes),
  (57, .cells [.int .i64 9, .int .i64 2, .slice (some (56, 0)) 1 (some 1)] 0 .yes),
  (58, .cells [.ptr (some (57, 0))] 0 .yes),
  (59, .cells [.int .i64 9, .int .i64 200, .int .i64 8, .int .i64 8, .int .i64 16, .int .i64 16, .int .i64 2, .int .i64 1, .ptr (some (24, 0)), .ptr (some (39, 0)), .ptr (some (58, 0)), .int .u32 1] 0 .yes),
  (110, .cells [.ptr (some (59, 0)), .int .u32 1, .int .i64 0, .int .i64 1, .int .i64 0, .int .i64 0] 0 .yes),
  (112, .cells [.ptr (some (24, 0)), .ptr (some (110, 0))] 0 .yes),
  (248, .cells [.int .i64 9, .int .i64 200, .int .i64 8, .int .i64 8, .int .i64 16, .int .i64 16, .int .i64 2, .int .i64 1, .ptr (some (112, 0)), .bool true, .int .u64 0, .int .u64 0, .int .u64 0, .int .u64 0] 0 .yes),
  (424, .cells (by8 [1, 0, 0, 1, 0, 0, 0, 0, 1, 0, 1, 97, 0, 49] ++ (nul 186)) 1 (.of 5))],
 v := .tup [.str [49], .int .i64 0], nout := 576, ldel := [],
 lset := [] }

noncomputable def hk11F (args : List AV) (M : AMem) : Option (AV × AMem) := match hk10 48 with
  | some h => h args M
  | none => acall Tryz.prog hk10 1000 48 args M

noncomputable def hk11 : Hook := fun f => match f with
  | 48 => some (cutAt [cut11] hk11F)
  | _ => hk10 f

def cut12 : Cut := {
 args := [.ptr (some (249, 0)), .str [103, 101, 116, 32, 97]], nin := 440,
 lin := [(7, .ro (by8 [0, 1, 56, 2, 57, 49, 28, 3, 61, 58, 42, 50, 38, 29, 17, 4, 62, 47, 59, 36, 45, 43, 51, 22, 53, 39, 33, 30, 24, 18, 12, 5, 63, 55, 48, 27, 60, 41, 37, 16, 46, 35, 44, 21, 52, 32, 23, 11, 54, 26, 40, 15, 34, 20, 31, 10, 25, 14, 19, 9, 13, 8, 7, 6])),
  (23, .cells (by8 [83, 76, 85, 73, 67, 69, 48, 49, 0, 0, 0, 9, 0, 0, 0, 200, 0, 0, 0, 8, 0, 0, 0, 8, 0, 0, 0, 16, 0, 0, 0, 16, 0, 0, 0, 2, 0, 0, 0, 1, 0, 0, 0, 1, 0, 0, 0, 1, 0, 0, 0, 0, 0, 0, 0, 0, 0, 0, 0, 0, 166, 13, 3, 45] ++ (nul 136 ++ (by8 [1] ++ (nul 1599)))) 0 .yes),
  (24, .cells [.int .i64 200, .slice (some (23, 0)) 1800 (some 1800), .int .u64 0, .int .u64 2] 0 .yes),
  (35, .cells [.int .i64 0, .int .i64 0, .bool false, .int .i64 0, .int .i64 0, .bool false, .int .i64 0, .int .i64 0, .bool false, .int .i64 0, .int .i64 0, .bool false, .int .i64 0, .int .i64 0, .bool false, .int .i64 0, .int .i64 0, .bool false, .int .i64 0, .int .i64 0, .bool false, .int .i64 0, .int .i64 0, .bool false, .int .i64 8, .int .i64 8, .bool false] 0 .yes),
  (36, .cells [.slice (some (35, 0)) 9 (some 9), .int .i64 0] 0 .yes),
  (37, .cells [.int .u32 0, .slice none 0 (some 0), .bool false, .int .i64 0, .int .u32 0, .slice none 0 (some 0), .bool false, .int .i64 0, .int .u32 0, .slice none 0 (some 0), .bool false, .int .i64 0, .int .u32 0, .slice none 0 (some 0), .bool false, .int .i64 0, .int .u32 0, .slice none 0 (some 0), .bool false, .int .i64 0, .int .u32 0, .slice none 0 (some 0), .bool false, .int .i64 0, .int .u32 0, .slice none 0 (some 0), .bool false, .int .i64 0, .int .u32 1, .slice (some (424, 0)) 200 none, .bool true, .int .i64 1] 0 .yes),
  (38, .map [(.int .u32 1, .int .i64 7, 0)] 1),
  (39, .cells [.ptr (some (24, 0)), .slice (some (37, 0)) 8 (some 8), .map (some 38), .slice (some (55, 0)) 7 none, .ptr (some (36, 0))] 0 .yes),
  (55, .cells [.int .i64 0, .int .i64 1, .int .i64 2, .int .i64 3, .int .i64 4, .int .i64 5, .int .i64 6, .int .i64 7] 1 .yes),
  (56, .cells [.int .u64 3] 0 .yes),
  (57, .cells [.int .i64 9, .int .i64 2, .slice (some (56, 0)) 1 (some 1)] 0 .yes),
  (58, .cells [.ptr (some (57, 0))] 0 .yes),
  (59, .cells [.int .i64 9, .int .i64 200, .int .i64 8, .int .i64 8, .int .i64 16, .int .i64 16, .int .i64 2, .int .i64 1, .ptr (some (24, 0)), .ptr (some (39, 0)), .ptr (some (58, 0)), .int .u32 1] 0 .yes),
  (110, .cells [.ptr (some (59, 0)), .int .u32 1, .int .i64 0, .int .i64 1, .int .i64 0, .int .i64 0] 0 .yes),
  (112, .cells [.ptr (some (24, 0)), .ptr (some (110, 0))] 0 .yes),
  (248, .cells [.int .i64 9, .int .i64 200, .int .i64 8, .int .i64 8, .int .i64 16, .int .i64 16, .int .i64 2, .int .i64 1, .ptr (some (112, 0)), .bool true, .int .u64 0, .int .u64 0, .int .u64 0, .int .u64 0] 0 .yes),
  (249, .cells [.ptr (some (248, 0))] 0 .yes),
  (424, .cells (by8 [1, 0, 0, 1, 0, 0, 0, 0, 1, 0, 1, 97, 0, 49] ++ (nul 186)) 1 (.of 5))],
 v := .str [111, 107, 32, 49], nout := 585, ldel := [],
 lset := [] }

noncomputable def hk12F (args : List AV) (M : AMem) : Option (AV × AMem) := match hk11 18 with
  | some h => h args M
  | none => acall Tryz.prog hk11 1000 18 args M

noncomputable def hk12 : Hook := fun f => match f with
  | 18 => some (cutAt [cut12] hk12F)
  | _ => hk11 f

def cut13 : Cut := {
 args := [.str [114, 97, 110, 103, 101, 32, 45, 32, 98, 32, 57]], nin := 587,
 lin := [(7, .ro (by8 [0, 1, 56, 2, 57, 49, 28, 3, 61, 58, 42, 50, 38, 29, 17, 4, 62, 47, 59, 36, 45, 43, 51, 22, 53, 39, 33, 30, 24, 18, 12, 5, 63, 55, 48, 27, 60, 41, 37, 16, 46, 35, 44, 21, 52, 32, 23, 11, 54, 26, 40, 15, 34, 20, 31, 10, 25, 14, 19, 9, 13, 8, 7, 6]))],
 v := .tup [.agg [.int .i64 4, .str [], .str [98], .int .i64 9], .bool true], nout := 607, ldel := [],
 lset := [] }

noncomputable def hk13F (args : List AV) (M : AMem) : Option (AV × AMem) := match hk12 23 with
  | some h => h args M
  | none => acall Tryz.prog hk12 1000 23 args M

noncomputable def hk13 : Hook := fun f => match f with
  | 23 => some (cutAt [cut13] hk13F)
  | _ => hk12 f

def cut14 : Cut := {
 args := [.agg [.int .i64 9, .int .i64 200, .int .i64 8, .int .i64 8, .int .i64 16, .int .i64 16, .int .i64 2, .int .i64 1], .slice (some (627, 0)) 200 none], nin := 628,
 lin := [(7, .ro (by8 [0, 1, 56, 2, 57, 49, 28, 3, 61, 58, 42, 50, 38, 29, 17, 4, 62, 47, 59, 36, 45, 43, 51, 22, 53, 39, 33, 30, 24, 18, 12, 5, 63, 55, 48, 27, 60, 41, 37, 16, 46, 35, 44, 21, 52, 32, 23, 11, 54, 26, 40, 15, 34, 20, 31, 10, 25, 14, 19, 9, 13, 8, 7, 6])),
  (627, .cells (by8 [1, 0, 0, 1, 0, 0, 0, 0, 1, 0, 1, 97, 0, 49] ++ (nul 186)) 1 (.of 5))],
 v := .tup [.agg [.int .i64 0, .slice none 0 (some 0), .slice none 0 (some 0), .slice none 0 (some 0), .slice (some (657, 0)) 1 none], .int .i64 0], nout := 716, ldel := [],
 lset := [(657, .cells [.str [97], .str [49]] 2 .yes)] }

noncomputable def hk14F (args : List AV) (M : AMem) : Option (AV × AMem) := match hk13 222 with
  | some h => h args M
  | none => acall Tryz.prog hk13 1000 222 args M

noncomputable def hk14 : Hook := fun f => match f with
  | 222 => some (cutAt [cut14] hk14F)
  | _ => hk13 f

def cut15 : Cut := {
 args := [.ptr (some (59, 0)), .int .u32 1, .agg [.str [], .str [98], .bool false], .int .i64 9], nin := 621,
 lin := [(7, .ro (by8 [0, 1, 56, 2, 57, 49, 28, 3, 61, 58, 42, 50, 38, 29, 17, 4, 62, 47, 59, 36, 45, 43, 51, 22, 53, 39, 33, 30, 24, 18, 12, 5, 63, 55, 48, 27, 60, 41, 37, 16, 46, 35, 44, 21, 52, 32, 23, 11, 54, 26, 40, 15, 34, 20, 31, 10, 25, 14, 19, 9, 13, 8, 7, 6])),
  (23, .cells (by8 [83, 76, 85, 73, 67, 69, 48, 49, 0, 0, 0, 9, 0, 0, 0, 200, 0, 0, 0, 8, 0, 0, 0, 8, 0, 0, 0, 16, 0, 0, 0, 16, 0, 0, 0, 2, 0, 0, 0, 1, 0, 0, 0, 1, 0, 0, 0, 1, 0, 0, 0, 0, 0, 0, 0, 0, 0, 0, 0, 0, 166, 13, 3, 45] ++ (nul 136 ++ (by8 [1] ++ (nul 1599)))) 0 .yes),
  (24, .cells [.int .i64 200, .slice (some (23, 0)) 1800 (some 1800), .int .u64 0, .int .u64 2] 0 .yes),
  (35, .cells [.int .i64 0, .int .i64 0, .bool false, .int .i64 0, .int .i64 0, .bool false, .int .i64 0, .int .i64 0, .bool false, .int .i64 0, .int .i64 0, .bool false, .int .i64 0, .int .i64 0, .bool false, .int .i64 0, .int .i64 0, .bool false, .int .i64 0, .int .i64 0, .bool false, .int .i64 0, .int .i64 0, .bool false, .int .i64 8, .int .i64 8, .bool false] 0 .yes),
  (36, .cells [.slice (some (35, 0)) 9 (some 9), .int .i64 0] 0 .yes),
  (37, .cells [.int .u32 0, .slice none 0 (some 0), .bool false, .int .i64 0, .int .u32 0, .slice none 0 (some 0), .bool false, .int .i64 0, .int .u32 0, .slice none 0 (some 0), .bool false, .int .i64 0, .int .u32 0, .slice none 0 (some 0), .bool false, .int .i64 0, .int .u32 0, .slice none 0 (some 0), .bool false, .int .i64 0, .int .u32 0, .slice none 0 (some 0), .bool false, .int .i64 0, .int .u32 0, .slice none 0 (some 0), .bool false, .int .i64 0, .int .u32 1, .slice (some (424, 0)) 200 none, .bool true, .int .i64 1] 0 .yes),
  (38, .map [(.int .u32 1, .int .i64 7, 0)] 1),
  (39, .cells [.ptr (some (24, 0)), .slice (some (37, 0)) 8 (some 8), .map (some 38), .slice (some (55, 0)) 7 none, .ptr (some (36, 0))] 0 .yes),
  (55, .cells [.int .i64 0, .int .i64 1, .int .i64 2, .int .i64 3, .int .i64 4, .int .i64 5, .int .i64 6, .int .i64 7] 1 .yes),
  (56, .cells [.int .u64 3] 0 .yes),
  (57, .cells [.int .i64 9, .int .i64 2, .slice (some (56, 0)) 1 (some 1)] 0 .yes),
  (58, .cells [.ptr (some (57, 0))] 0 .yes),
  (59, .cells [.int .i64 9, .int .i64 200, .int .i64 8, .int .i64 8, .int .i64 16, .int .i64 16, .int .i64 2, .int .i64 1, .ptr (some (24, 0)), .ptr (some (39, 0)), .ptr (some (58, 0)), .int .u32 1] 0 .yes),
  (424, .cells (by8 [1, 0, 0, 1, 0, 0, 0, 0, 1, 0, 1, 97, 0, 49] ++ (nul 186)) 1 (.of 5))],
 v := .tup [.slice (some (726, 0)) 1 none, .int .i64 0], nout := 727, ldel := [],
 lset := [(726, .cells [.str [97], .str [49]] 2 .yes)] }

noncomputable def hk15F (args : List AV) (M : AMem) : Option (AV × AMem) := match hk14 86 with
  | some h => h args M
  | none => acall Tryz.prog hk14 1000 86 args M

noncomputable def hk15 : Hook := fun f => match f with
  | 86 => some (cutAt [cut15] hk15F)
  | _ => hk14 f

def cut16 : Cut := {
 args := [.ptr (some (249, 0)), .str [114, 97, 110, 103, 101, 32, 45, 32, 98, 32, 57]], nin := 587,
 lin := [(7, .ro (by8 [0, 1, 56, 2, 57, 49, 28, 3, 61, 58, 42, 50, 38, 29, 17, 4, 62, 47, 59, 36, 45, 43, 51, 22, 53, 39, 33, 30, 24, 18, 12, 5, 63, 55, 48, 27, 60, 41, 37, 16, 46, 35, 44, 21, 52, 32, 23, 11, 54, 26, 40, 15, 34, 20, 31, 10, 25, 14, 19, 9, 13, 8, 7, 6])),
  (23, .cells (by8 [83, 76, 85, 73, 67, 69, 48, 49, 0, 0, 0, 9, 0, 0, 0, 200, 0, 0, 0, 8, 0, 0, 0, 8, 0, 0, 0, 16, 0, 0, 0, 16, 0, 0, 0, 2, 0, 0, 0, 1, 0, 0, 0, 1, 0, 0, 0, 1, 0, 0, 0, 0, 0, 0, 0, 0, 0, 0, 0, 0, 166, 13, 3, 45] ++ (nul 136 ++ (by8 [1] ++ (nul 1599)))) 0 .yes),
  (24, .cells [.int .i64 200, .slice (some (23, 0)) 1800 (some 1800), .int .u64 0, .int .u64 2] 0 .yes),
  (35, .cells [.int .i64 0, .int .i64 0, .bool false, .int .i64 0, .int .i64 0, .bool false, .int .i64 0, .int .i64 0, .bool false, .int .i64 0, .int .i64 0, .bool false, .int .i64 0, .int .i64 0, .bool false, .int .i64 0, .int .i64 0, .bool false, .int .i64 0, .int .i64 0, .bool false, .int .i64 0, .int .i64 0, .bool false, .int .i64 8, .int .i64 8, .bool false] 0 .yes),
  (36, .cells [.slice (some (35, 0)) 9 (some 9), .int .i64 0] 0 .yes),
  (37, .cells [.int .u32 0, .slice none 0 (some 0), .bool false, .int .i64 0, .int .u32 0, .slice none 0 (some 0), .bool false, .int .i64 0, .int .u32 0, .slice none 0 (some 0), .bool false, .int .i64 0, .int .u32 0, .slice none 0 (some 0), .bool false, .int .i64 0, .int .u32 0, .slice none 0 (some 0), .bool false, .int .i64 0, .int .u32 0, .slice none 0 (some 0), .bool false, .int .i64 0, .int .u32 0, .slice none 0 (some 0), .bool false, .int .i64 0, .int .u32 1, .slice (some (424, 0)) 200 none, .bool true, .int .i64 1] 0 .yes),
  (38, .map [(.int .u32 1, .int .i64 7, 0)] 1),
  (39, .cells [.ptr (some (24, 0)), .slice (some (37, 0)) 8 (some 8), .map (some 38), .slice (some (55, 0)) 7 none, .ptr (some (36, 0))] 0 .yes),
  (55, .cells [.int .i64 0, .int .i64 1, .int .i64 2, .int .i64 3, .int .i64 4, .int .i64 5, .int .i64 6, .int .i64 7] 1 .yes),
  (56, .cells [.int .u64 3] 0 .yes),
  (57, .cells [.int .i64 9, .int .i64 2, .slice (some (56, 0)) 1 (some 1)] 0 .yes),
  (58, .cells [.ptr (some (57, 0))] 0 .yes),
  (59, .cells [.int .i64 9, .int .i64 200, .int .i64 8, .int .i64 8, .int .i64 16, .int .i64 16, .int .i64 2, .int .i64 1, .ptr (some (24, 0)), .ptr (some (39, 0)), .ptr (some (58, 0)), .int .u32 1] 0 .yes),
  (110, .cells [.ptr (some (59, 0)), .int .u32 1, .int .i64 0, .int .i64 1, .int .i64 0, .int .i64 0] 0 .yes),
  (112, .cells [.ptr (some (24, 0)), .ptr (some (110, 0))] 0 .yes),
  (248, .cells [.int .i64 9, .int .i64 200, .int .i64 8, .int .i64 8, .int .i64 16, .int .i64 16, .int .i64 2, .int .i64 1, .ptr (some (112, 0)), .bool true, .int .u64 0, .int .u64 0, .int .u64 0, .int .u64 0] 0 .yes),
  (249, .cells [.ptr (some (248, 0))] 0 .yes),
  (424, .cells (by8 [1, 0, 0, 1, 0, 0, 0, 0, 1, 0, 1, 97, 0, 49] ++ (nul 186)) 1 (.of 5))],
 v := .str [111, 107, 32, 97, 61, 49], nout := 747, ldel := [],
 lset := [] }

noncomputable def hk16F (args : List AV) (M : AMem) : Option (AV × AMem) := match hk15 18 with
  | some h => h args M
  | none => acall Tryz.prog hk15 1000 18 args M

noncomputable def hk16 : Hook := fun f => match f with
  | 18 => some (cutAt [cut16] hk16F)
  | _ => hk15 f

def cut17 : Cut := {
 args := [.str [103, 101, 116, 32, 98]], nin := 749,
 lin := [(7, .ro (by8 [0, 1, 56, 2, 57, 49, 28, 3, 61, 58, 42, 50, 38, 29, 17, 4, 62, 47, 59, 36, 45, 43, 51, 22, 53, 39, 33, 30, 24, 18, 12, 5, 63, 55, 48, 27, 60, 41, 37, 16, 46, 35, 44, 21, 52, 32, 23, 11, 54, 26, 40, 15, 34, 20, 31, 10, 25, 14, 19, 9, 13, 8, 7, 6]))],
 v := .tup [.agg [.int .i64 3, .str [98], .str [], .int .i64 0], .bool true], nout := 764, ldel := [],
 lset := [] }

noncomputable def hk17F (args : List AV) (M : AMem) : Option (AV × AMem) := match hk16 23 with
  | some h => h args M
  | none => acall Tryz.prog hk16 1000 23 args M

noncomputable def hk17 : Hook := fun f => match f with
  | 23 => some (cutAt [cut17] hk17F)
  | _ => hk16 f

def cut18 : Cut := {
 args := [.agg [.int .i64 9, .int .i64 200, .int .i64 8, .int .i64 8, .int .i64 16, .int .i64 16, .int .i64 2, .int .i64 1], .slice (some (781, 0)) 200 none], nin := 782,
 lin := [(7, .ro (by8 [0, 1, 56, 2, 57, 49, 28, 3, 61, 58, 42, 50, 38, 29, 17, 4, 62, 47, 59, 36, 45, 43, 51, 22, 53, 39, 33, 30, 24, 18, 12, 5, 63, 55, 48, 27, 60, 41, 37, 16, 46, 35, 44, 21, 52, 32, 23, 11, 54, 26, 40, 15, 34, 20, 31, 10, 25, 14, 19, 9, 13, 8, 7, 6])),
  (781, .cells (by8 [1, 0, 0, 1, 0, 0, 0, 0, 1, 0, 1, 97, 0, 49] ++ (nul 186)) 1 (.of 5))],
 v := .tup [.agg [.int .i64 0, .slice none 0 (some 0), .slice none 0 (some 0), .slice none 0 (some 0), .slice (some (811, 0)) 1 none], .int .i64 0], nout := 870, ldel := [],
 lset := [(811, .cells [.str [97], .str [49]] 2 .yes)] }

noncomputable def hk18F (args : List AV) (M : AMem) : Option (AV × AMem) := match hk17 222 with
  | some h => h args M
  | none => acall Tryz.prog hk17 1000 222 args M

noncomputable def hk18 : Hook := fun f => match f with
  | 222 => some (cutAt [cut18] hk18F)
  | _ => hk17 f

def cut19 : Cut := {
 args := [.ptr (some (248, 0)), .str [98]], nin := 771,
 lin := [(7, .ro (by8 [0, 1, 56, 2, 57, 49, 28, 3, 61, 58, 42, 50, 38, 29, 17, 4, 62, 47, 59, 36, 45, 43, 51, 22, 53, 39, 33, 30, 24, 18, 12, 5, 63, 55, 48, 27, 60, 41, 37, 16, 46, 35, 44, 21, 52, 32, 23, 11, 54, 26, 40, 15, 34, 20, 31, 10, 25, 14, 19, 9, 13, 8, 7, 6])),
  (23, .cells (by8 [83, 76, 85, 73, 67, 69, 48, 49, 0, 0, 0, 9, 0, 0, 0, 200, 0, 0, 0, 8, 0, 0, 0, 8, 0, 0, 0, 16, 0, 0, 0, 16, 0, 0, 0, 2, 0, 0, 0, 1, 0, 0, 0, 1, 0, 0, 0, 1, 0, 0, 0, 0, 0, 0, 0, 0, 0, 0, 0, 0, 166, 13, 3, 45] ++ (nul 136 ++ (by8 [1] ++ (nul 1599)))) 0 .yes),
  (24, .cells [.int .i64 200, .slice (some (23, 0)) 1800 (some 1800), .int .u64 0, .int .u64 2] 0 .yes),
  (35, .cells [.int .i64 0, .int .i64 0, .bool false, .int .i64 0, .int .i64 0, .bool false, .int .i64 0, .int .i64 0, .bool false, .int .i64 0, .int .i64 0, .bool false, .int .i64 0, .int .i64 0, .bool false, .int .i64 0, .int .i64 0, .bool false, .int .i64 0, .int .i64 0, .bool false, .int .i64 0, .int .i64 0, .bool false, .int .i64 8, .int .i64 8, .bool false] 0 .yes),
  (36, .cells [.slice (some (35, 0)) 9 (some 9), .int .i64 0] 0 .yes),
  (37, .cells [.int .u32 0, .slice none 0 (some 0), .bool false, .int .i64 0, .int .u32 0, .slice none 0 (some 0), .bool false, .int .i64 0, .int .u32 0, .slice none 0 (some 0), .bool false, .int .i64 0, .int .u32 0, .slice none 0 (some 0), .bool false, .int .i64 0, .int .u32 0, .slice none 0 (some 0), .bool false, .int .i64 0, .int .u32 0, .slice none 0 (some 0), .bool false, .int .i64 0, .int .u32 0, .slice none 0 (some 0), .bool false, .int .i64 0, .int .u32 1, .slice (some (424, 0)) 200 none, .bool true, .int .i64 1] 0 .yes),
  (38, .map [(.int .u32 1, .int .i64 7, 0)] 1),
  (39, .cells [.ptr (some (24, 0)), .slice (some (37, 0)) 8 (some 8), .map (some 38), .slice (some (55, 0)) 7 none, .ptr (some (36, 0))] 0 .yes),
  (55, .cells [.int .i64 0, .int .i64 1, .int .i64 2, .int .i64 3, .int .i64 4, .int .i64 5, .int .i64 6, .int .i64 7] 1 .yes),
  (56, .cells [.int .u64 3] 0 .yes),
  (57, .cells [.int .i64 9, .int .i64 2, .slice (some (56, 0)) 1 (some 1)] 0 .yes),
  (58, .cells [.ptr (some (57, 0))] 0 .yes),
  (59, .cells [.int .i64 9, .int .i64 200, .int .i64 8, .int .i64 8, .int .i64 16, .int .i64 16, .int .i64 2, .int .i64 1, .ptr (some (24, 0)), .ptr (some (39, 0)), .ptr (some (58, 0)), .int .u32 1] 0 .yes),
  (110, .cells [.ptr (some (59, 0)), .int .u32 1, .int .i64 0, .int .i64 1, .int .i64 0, .int .i64 0] 0 .yes),
  (112, .cells [.ptr (some (24, 0)), .ptr (some (110, 0))] 0 .yes),
  (248, .cells [.int .i64 9, .int .i64 200, .int .i64 8, .int .i64 8, .int .i64 16, .int .i64 16, .int .i64 2, .int .i64 1, .ptr (some (112, 0)), .bool true, .int .u64 0, .int .u64 0, .int .u64 0, .int .u64 0] 0 .yes),
  (424, .cells (by8 [1, 0, 0, 1, 0, 0, 0, 0, 1, 0, 1, 97, 0, 49] ++ (nul 186)) 1 (.of 5))],
 v := .tup [.str [], .int .i64 9], nout := 884, ldel := [],
 lset := [] }

noncomputable def hk19F (args : List AV) (M : AMem) : Option (AV × AMem) := match hk18 48 with
  | some h => h args M
  | none => acall Tryz.prog hk18 1000 48 args M

noncomputable def hk19 : Hook := fun f => match f with
  | 48 => some (cutAt [cut19] hk19F)
  | _ => hk18 f

def cut20 : Cut := {
 args := [.ptr (some (249, 0)), .str [103, 101, 116, 32, 98]], nin := 749,
 lin := [(7, .ro (by8 [0, 1, 56, 2, 57, 49, 28, 3, 61, 58, 42, 50, 38, 29, 17, 4, 62, 47, 59, 36, 45, 43, 51, 22, 53, 39, 33, 30, 24, 18, 12, 5, 63, 55, 48, 27, 60, 41, 37, 16, 46, 35, 44, 21, 52, 32, 23, 11, 54, 26, 40, 15, 34, 20, 31, 10, 25, 14, 19, 9, 13, 8, 7, 6])),
  (23, .cells (by8 [83, 76, 85, 73, 67, 69, 48, 49, 0, 0, 0, 9, 0, 0, 0, 200, 0, 0, 0, 8, 0, 0, 0, 8, 0, 0, 0, 16, 0, 0, 0, 16, 0, 0, 0, 2, 0, 0, 0, 1, 0, 0, 0, 1, 0, 0, 0, 1, 0, 0, 0, 0, 0, 0, 0, 0, 0, 0, 0, 0, 166, 13, 3, 45] ++ (nul 136 ++ (by8 [1] ++ (nul 1599)))) 0 .yes),
  (24, .cells [.int .i64 200, .slice (some (23, 0)) 1800 (some 1800), .int .u64 0, .int .u64 2] 0 .yes),
  (35, .cells [.int .i64 0, .int .i64 0, .bool false, .int .i64 0, .int .i64 0, .bool false, .int .i64 0, .int .i64 0, .bool false, .int .i64 0, .int .i64 0, .bool false, .int .i64 0, .int .i64 0, .bool false, .int .i64 0, .int .i64 0, .bool false, .int .i64 0, .int .i64 0, .bool false, .int .i64 0, .int .i64 0, .bool false, .int .i64 8, .int .i64 8, .bool false] 0 .yes),
  (36, .cells [.slice (some (35, 0)) 9 (some 9), .int .i64 0] 0 .yes),
  (37, .cells [.int .u32 0, .slice none 0 (some 0), .bool false, .int .i64 0, .int .u32 0, .slice none 0 (some 0), .bool false, .int .i64 0, .int .u32 0, .slice none 0 (some 0), .bool false, .int .i64 0, .int .u32 0, .slice none 0 (some 0), .bool false, .int .i64 0, .int .u32 0, .slice none 0 (some 0), .bool false, .int .i64 0, .int .u32 0, .slice none 0 (some 0), .bool false, .int .i64 0, .int .u32 0, .slice none 0 (some 0), .bool false, .int .i64 0, .int .u32 1, .slice (some (424, 0)) 200 none, .bool true, .int .i64 1] 0 .yes),
  (38, .map [(.int .u32 1, .int .i64 7, 0)] 1),
  (39, .cells [.ptr (some (24, 0)), .slice (some (37, 0)) 8 (some 8), .map (some 38), .slice (some (55, 0)) 7 none, .ptr (some (36, 0))] 0 .yes),
  (55, .cells [.int .i64 0, .int .i64 1, .int .i64 2, .int .i64 3, .int .i64 4, .int .i64 5, .int .i64 6, .int .i64 7] 1 .yes),
  (56, .cells [.int .u64 3] 0 .yes),
  (57, .cells [.int .i64 9, .int .i64 2, .slice (some (56, 0)) 1 (some 1)] 0 .yes),
  (58, .cells [.ptr (some (57, 0))] 0 .yes),
  (59, .cells [.int .i64 9, .int .i64 200, .int .i64 8, .int .i64 8, .int .i64 16, .int .i64 16, .int .i64 2, .int .i64 1, .ptr (some (24, 0)), .ptr (some (39, 0)), .ptr (some (58, 0)), .int .u32 1] 0 .yes),
  (110, .cells [.ptr (some (59, 0)), .int .u32 1, .int .i64 0, .int .i64 1, .int .i64 0, .int .i64 0] 0 .yes),
  (112, .cells [.ptr (some (24, 0)), .ptr (some (110, 0))] 0 .yes),
  (248, .cells [.int .i64 9, .int .i64 200, .int .i64 8, .int .i64 8, .int .i64 16, .int .i64 16, .int .i64 2, .int .i64 1, .ptr (some (112, 0)), .bool true, .int .u64 0, .int .u64 0, .int .u64 0, .int .u64 0] 0 .yes),
  (249, .cells [.ptr (some (248, 0))] 0 .yes),
  (424, .cells (by8 [1, 0, 0, 1, 0, 0, 0, 0, 1, 0, 1, 97, 0, 49] ++ (nul 186)) 1 (.of 5))],
 v := .str [101, 114, 114, 32, 57], nout := 887, ldel := [],
 lset := [] }

noncomputable def hk20F (args : List AV) (M : AMem) : Option (AV × AMem) := match hk19 18 with
  | some h => h args M
  | none => acall Tryz.prog hk19 1000 18 args M

noncomputable def hk20 : Hook := fun f => match f with
  | 18 => some (cutAt [cut20] hk20F)
  | _ => hk19 f

def cut21 : Cut := {
 args := [.str [112, 117, 116, 32, 97]], nin := 889,
 lin := [(7, .ro (by8 [0, 1, 56, 2, 57, 49, 28, 3, 61, 58, 42, 50, 38, 29, 17, 4, 62, 47, 59, 36, 45, 43, 51, 22, 53, 39, 33, 30, 24, 18, 12, 5, 63, 55, 48, 27, 60, 41, 37, 16, 46, 35, 44, 21, 52, 32, 23, 11, 54, 26, 40, 15, 34, 20, 31, 10, 25, 14, 19, 9, 13, 8, 7, 6]))],
 v := .tup [.agg [.int .i64 0, .str [], .str [], .int .i64 0], .bool false], nout := 901, ldel := [],
 lset := [] }

noncomputable def hk21F (args : List AV) (M : AMem) : Option (AV × AMem) := match hk20 23 with
  | some h => h args M
  | none => acall Tryz.prog hk20 1000 23 args M

noncomputable def hk21 : Hook := fun f => match f with
  | 23 => some (cutAt [cut21] hk21F)
  | _ => hk20 f

def cut22 : Cut := {
 args := [.ptr (some (249, 0)), .str [112, 117, 116, 32, 97]], nin := 889,
 lin := [(7, .ro (by8 [0, 1, 56, 2, 57, 49, 28, 3, 61, 58, 42, 50, 38, 29, 17, 4, 62, 47, 59, 36, 45, 43, 51, 22, 53, 39, 33, 30, 24, 18, 12, 5, 63, 55, 48, 27, 60, 41, 37, 16, 46, 35, 44, 21, 52, 32, 23, 11, 54, 26, 40, 15, 34, 20, 31, 10, 25, 14, 19, 9, 13, 8, 7, 6])),
  (23, .cells (by8 [83, 76, 85, 73, 67, 69, 48, 49, 0, 0, 0, 9, 0, 0, 0, 200, 0, 0, 0, 8, 0, 0, 0, 8, 0, 0, 0, 16, 0, 0, 0, 16, 0, 0, 0, 2, 0, 0, 0, 1, 0, 0, 0, 1, 0, 0, 0, 1, 0, 0, 0, 0, 0, 0, 0, 0, 0, 0, 0, 0, 166, 13, 3, 45] ++ (nul 136 ++ (by8 [1] ++ (nul 1599)))) 0 .yes),
  (24, .cells [.int .i64 200, .slice (some (23, 0)) 1800 (some 1800), .int .u64 0, .int .u64 2] 0 .yes),
  (35, .cells [.int .i64 0, .int .i64 0, .bool false, .int .i64 0, .int .i64 0, .bool false, .int .i64 0, .int .i64 0, .bool false, .int .i64 0, .int .i64 0, .bool false, .int .i64 0, .int .i64 0, .bool false, .int .i64 0, .int .i64 0, .bool false, .int .i64 0, .int .i64 0, .bool false, .int .i64 0, .int .i64 0, .bool false, .int .i64 8, .int .i64 8, .bool false] 0 .yes),
  (36, .cells [.slice (some (35, 0)) 9 (some 9), .int .i64 0] 0 .yes),
  (37, .cells [.int .u32 0, .slice none 0 (some 0), .bool false, .int .i64 0, .int .u32 0, .slice none 0 (some 0), .bool false, .int .i64 0, .int .u32 0, .slice none 0 (some 0), .bool false, .int .i64 0, .int .u32 0, .slice none 0 (some 0), .bool false, .int .i64 0, .int .u32 0, .slice none 0 (some 0), .bool false, .int .i64 0, .int .u32 0, .slice none 0 (some 0), .bool false, .int .i64 0, .int .u32 0, .slice none 0 (some 0), .bool false, .int .i64 0, .int .u32 1, .slice (some (424, 0)) 200 none, .bool true, .int .i64 1] 0 .yes),
  (38, .map [(.int .u32 1, .int .i64 7, 0)] 1),
  (39, .cells [.ptr (some (24, 0)), .slice (some (37, 0)) 8 (some 8), .map (some 38), .slice (some (55, 0)) 7 none, .ptr (some (36, 0))] 0 .yes),
  (55, .cells [.int .i64 0, .int .i64 1, .int .i64 2, .int .i64 3, .int .i64 4, .int .i64 5, .int .i64 6, .int .i64 7] 1 .yes),
  (56, .cells [.int .u64 3] 0 .yes),
  (57, .cells [.int .i64 9, .int .i64 2, .slice (some (56, 0)) 1 (some 1)] 0 .yes),
  (58, .cells [.ptr (some (57, 0))] 0 .yes),
  (59, .cells [.int .i64 9, .int .i64 200, .int .i64 8, .int .i64 8, .int .i64 16, .int .i64 16, .int .i64 2, .int .i64 1, .ptr (some (24, 0)), .ptr (some (39, 0)), .ptr (some (58, 0)), .int .u32 1] 0 .yes),
  (110, .cells [.ptr (some (59, 0)), .int .u32 1, .int .i64 0, .int .i64 1, .int .i64 0, .int .i64 0] 0 .yes),
  (112, .cells [.ptr (some (24, 0)), .ptr (some (110, 0))] 0 .yes),
  (248, .cells [.int .i64 9, .int .i64 200, .int .i64 8, .int .i64 8, .int .i64 16, .int .i64 16, .int .i64 2, .int .i64 1, .ptr (some (112, 0)), .bool true, .int .u64 0, .int .u64 0, .int .u64 0, .int .u64 0] 0 .yes),
  (249, .cells [.ptr (some (248, 0))] 0 .yes),
  (424, .cells (by8 [1, 0, 0, 1, 0, 0, 0, 0, 1, 0, 1, 97, 0, 49] ++ (nul 186)) 1 (.of 5))],
 v := .str [101, 114, 114, 32, 49, 53], nout := 902, ldel := [],
 lset := [] }

noncomputable def hk22F (args : List AV) (M : AMem) : Option (AV × AMem) := match hk21 18 with
  | some h => h args M
  | none => acall Tryz.prog hk21 1000 18 args M

noncomputable def hk22 : Hook := fun f => match f with
  | 18 => some (cutAt [cut22] hk22F)
  | _ => hk21 f

end Go.Proofs.YtjgionikigpdmaaGreatDoor
