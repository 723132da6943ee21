/- ScanPages: its example lives(), reckoned by the kernel way by way; what is dead is forgotten in between, ways that meet are gone on with once (the states were printed by a program of ours; the kernel checks them). By an AI agent. -/
import Derived.Test.YtjhmpmhkppglnaaGreatEnv
namespace Go.Proofs.YtjhmpmhkppglnaaGreat.scanPages
open Go Go.Rx Go.RowKit
set_option linter.unusedVariables false
set_option maxRecDepth 100000
def nB (n : Int) : SV := .v (.int .u8 n)
def nI (n : Int) : SV := .v (.int .i64 n)
def n0 : SV := .v (.tuple #[])
def nS : SV := .v (.slice none 0 0)
def nP : SV := .v (.pointer none)
def nT : SV := .v (.bool true)
def nF : SV := .v (.bool false)
def nE : SV := .v (.string ⟨#[]⟩)
def nN : SV := .v .nilIface
theorem K (w : World) (told : ∀ r ∈ ([] : List (Nat × List SV)), Rx.Told w r) : Facts (E [] []) (laidOwn []) w := facts [] []
noncomputable def S19 : SM := { top := { fn := 13, tm := (tmAt 55 6 55 [(2, .ptr 445 0), (3, .ptr 446 0), (4, nS), (12, n0), (40, .sl 579 0 2 none), (41, n0), (42, n0), (43, n0), (44, n0), (45, n0), (46, n0), (47, n0), (48, n0), (49, n0), (50, n0), (51, n0), (52, n0), (53, n0), (54, n0)]), todo := [.reg (opsOf (bodyAt Tryz.prog 13 [1, 1, 1, 1, 1, 0, 0])) [3, 4], .code (bodyAt Tryz.prog 13 [1, 1, 1, 1, 1, 0, 1]), .code (bodyAt Tryz.prog 13 [1, 1, 1, 1, 1, 1])], defers := [], ret := false, kind := .normal, «ro» := none }, callers := [{ fn := 4, tm := (tmAt 62 6 62 [(0, nF), (3, nI 0), (4, nI 0), (5, nI 0), (6, n0), (23, .ptr 5 0), (24, .ptr 6 0), (25, n0), (26, n0), (27, n0), (28, n0), (29, n0), (30, n0), (31, n0), (32, n0), (33, n0), (34, n0), (35, n0), (36, n0), (37, n0), (38, n0), (39, n0), (40, n0), (41, n0), (42, n0), (43, n0), (44, n0), (45, n0), (46, n0), (47, n0), (48, n0), (49, n0), (50, n0), (51, n0), (52, n0), (53, n0), (54, n0), (55, n0), (56, n0), (57, n0), (58, n0), (59, n0), (60, n0), (61, n0)]), todo := [.reg (opsOf (bodyAt Tryz.prog 4 [1, 1, 1, 1, 1, 0])) [2, 3], .code (bodyAt Tryz.prog 4 [1, 1, 1, 1, 1, 1])], defers := [], ret := false, kind := .normal, «ro» := none }], mem := (memAt 12 592 0 [(0, .map [(nI 1, .agg [.sl 95 0 1 none, nI 1], 0)] 1, true),
  (1, .row [.map 0, nI 1, nI 100, nI (-1)] 96 (0, 0) none, true),
  (2, .map [(.v (.string ⟨#[97]⟩), .agg [nF, nI 1], 0), (.v (.string ⟨#[98]⟩), .agg [nT, nI 0], 1)] 2, true),
  (4, .map [(.v (.string ⟨#[97]⟩), .v (.int .u64 1), 0), (.v (.string ⟨#[98]⟩), .v (.int .u64 2), 1)] 2, true),
  (5, .row [.ptr 1 0, .map 2, .map 302, nS, nI (-1), .v (.int .u64 2), .map 4] 57 (0, 0) none, true),
  (6, .row [.v (.int .u64 0), .map 438] 60 (0, 0) none, true),
  (95, .row [nB 121] 5 (0, 0) (some 1), true),
  (302, .map [(.v (.string ⟨#[97]⟩), .agg [nF, nI 1], 0), (.v (.string ⟨#[98]⟩), .agg [nT, nI 0], 1)] 2, true),
  (438, .map [(.v (.string ⟨#[97]⟩), .agg [.v (.string ⟨#[97]⟩), .v (.int .u64 1048577), nI 1, .sl 444 0 1 none], 0)] 1, true),
  (444, .row [nB 120] 5 (0, 0) (some 1), true),
  (445, .row [.ptr 5 0] 33 (0, 0) none, true),
  (446, .row [.ptr 6 0] 35 (0, 0) none, true),
  (579, .row [.v (.string ⟨#[97]⟩), .v (.string ⟨#[98]⟩)] 9 (0, 0) (some 1), true)]) }
theorem g19 : stageV (E [] []) 4 808 [S19] [] = some [] := by kernel_rfl
theorem s19 (w : World) (told : ∀ r ∈ ([] : List (Nat × List SV)), Rx.Told w r) : AllSafe (E [] []) (laidOwn []) w 4 (laidVal []) [S19] := AllSafe.stage (K w told) (fun _ h => h) g19 AllSafe.nil
noncomputable def S17 : SM := { top := { fn := 72, tm := (tmAt 14 4 14 [(0, .yield 567), (3, n0), (5, .ptr 568 0), (6, .tup [nT, .v (.string ⟨#[97]⟩), nT]), (7, n0), (8, n0), (9, n0), (10, n0), (11, n0), (12, n0), (13, n0)]), todo := [.reg (opsOf (bodyAt Tryz.prog 72 [1, 0, 0, 0])) [1], .code (bodyAt Tryz.prog 72 [1, 0, 0, 1]), .inLoop (bodyAt Tryz.prog 72 [1, 0, 0]), .inBlock 0], defers := [], ret := false, kind := .normal, «ro» := none }, callers := [{ fn := 102, tm := (tmAt 13 4 13 [(2, .ptr 565 0), (4, nS), (12, n0)]), todo := [.inRF 567, .inBlock 0, .code (bodyAt Tryz.prog 102 [1, 1])], defers := [.coll 566], ret := false, kind := .normal, «ro» := none }, { fn := 70, tm := (tmAt 5 3 5 [(2, nS), (3, .func (.func 72) [] [.ptr 564 0]), (4, n0)]), todo := [.reg (opsOf (bodyAt Tryz.prog 70 [1, 0])) [1, 2], .code .ret], defers := [], ret := false, kind := .normal, «ro» := none }, { fn := 36, tm := (tmAt 12 4 12 [(1, .v (.func (.func 14) #[] #[])), (4, nS), (5, n0), (6, .func (.func 72) [] [.ptr 564 0]), (7, n0), (8, n0), (9, n0), (11, n0)]), todo := [.reg (opsOf (bodyAt Tryz.prog 36 [1, 0])) [1, 2], .code (bodyAt Tryz.prog 36 [1, 1])], defers := [], ret := false, kind := .normal, «ro» := none }, { fn := 13, tm := (tmAt 55 6 55 [(2, .ptr 445 0), (3, .ptr 446 0), (4, nS), (12, n0), (39, .func (.func 72) [] [.ptr 564 0]), (40, n0), (41, n0), (42, n0), (43, n0), (44, n0), (45, n0), (46, n0), (47, n0), (48, n0), (49, n0), (50, n0), (51, n0), (52, n0), (53, n0), (54, n0)]), todo := [.reg (opsOf (bodyAt Tryz.prog 13 [1, 1, 1, 1, 1, 0, 0])) [2, 3, 4], .code (bodyAt Tryz.prog 13 [1, 1, 1, 1, 1, 0, 1]), .code (bodyAt Tryz.prog 13 [1, 1, 1, 1, 1, 1])], defers := [], ret := false, kind := .normal, «ro» := none }, { fn := 4, tm := (tmAt 62 6 62 [(0, nF), (3, nI 0), (4, nI 0), (5, nI 0), (6, n0), (23, .ptr 5 0), (24, .ptr 6 0), (25, n0), (26, n0), (27, n0), (28, n0), (29, n0), (30, n0), (31, n0), (32, n0), (33, n0), (34, n0), (35, n0), (36, n0), (37, n0), (38, n0), (39, n0), (40, n0), (41, n0), (42, n0), (43, n0), (44, n0), (45, n0), (46, n0), (47, n0), (48, n0), (49, n0), (50, n0), (51, n0), (52, n0), (53, n0), (54, n0), (55, n0), (56, n0), (57, n0), (58, n0), (59, n0), (60, n0), (61, n0)]), todo := [.reg (opsOf (bodyAt Tryz.prog 4 [1, 1, 1, 1, 1, 0])) [2, 3], .code (bodyAt Tryz.prog 4 [1, 1, 1, 1, 1, 1])], defers := [], ret := false, kind := .normal, «ro» := none }], mem := (memAt 12 576 0 [(0, .map [(nI 1, .agg [.sl 95 0 1 none, nI 1], 0)] 1, true),
  (1, .row [.map 0, nI 1, nI 100, nI (-1)] 96 (0, 0) none, true),
  (2, .map [(.v (.string ⟨#[97]⟩), .agg [nF, nI 1], 0), (.v (.string ⟨#[98]⟩), .agg [nT, nI 0], 1)] 2, true),
  (4, .map [(.v (.string ⟨#[97]⟩), .v (.int .u64 1), 0), (.v (.string ⟨#[98]⟩), .v (.int .u64 2), 1)] 2, true),
  (5, .row [.ptr 1 0, .map 2, .map 302, nS, nI (-1), .v (.int .u64 2), .map 4] 57 (0, 0) none, true),
  (6, .row [.v (.int .u64 0), .map 438] 60 (0, 0) none, true),
  (95, .row [nB 121] 5 (0, 0) (some 1), true),
  (302, .map [(.v (.string ⟨#[97]⟩), .agg [nF, nI 1], 0), (.v (.string ⟨#[98]⟩), .agg [nT, nI 0], 1)] 2, true),
  (438, .map [(.v (.string ⟨#[97]⟩), .agg [.v (.string ⟨#[97]⟩), .v (.int .u64 1048577), nI 1, .sl 444 0 1 none], 0)] 1, true),
  (444, .row [nB 120] 5 (0, 0) (some 1), true),
  (445, .row [.ptr 5 0] 33 (0, 0) none, true),
  (446, .row [.ptr 6 0] 35 (0, 0) none, true),
  (447, .map [(.v (.string ⟨#[97]⟩), nT, 0), (.v (.string ⟨#[98]⟩), nT, 1)] 2, true),
  (564, .row [.map 447] 77 (0, 0) none, true),
  (565, .row [nS] 80 (0, 0) none, true),
  (566, .dfr (some []), true),
  (567, .loop .ready none 102 (tmOf 13 4 [nS, .func (.func 72) [] [.ptr 564 0], .ptr 565 0, n0, nS, n0, .func (.func 72) [] [.ptr 564 0], n0, n0, n0, n0, n0, n0]) [7] (bodyAt Tryz.prog 102 [1, 0, 1, 0, 0]) (bodyAt Tryz.prog 102 [1, 0, 1, 0, 1]) 566, true),
  (568, .miter (some 447) 2 [0] 2, true)]) }
theorem g17 : stageV (E [] []) 4 627 [S17] [(true, [447, 564, 565, 566, 567, 568, 576, 578], [[39], []], 592)] = some [S19] := by kernel_rfl
theorem s17 (w : World) (told : ∀ r ∈ ([] : List (Nat × List SV)), Rx.Told w r) : AllSafe (E [] []) (laidOwn []) w 4 (laidVal []) [S17] := AllSafe.stage (K w told) (fun _ h => h) g17 (AllSafe.cons (s19 w told) AllSafe.nil)
noncomputable def S18 : SM := { top := { fn := 72, tm := (tmAt 14 4 14 [(0, .yield 567), (3, n0), (5, .ptr 568 0), (6, .tup [nT, .v (.string ⟨#[98]⟩), nT]), (7, n0), (8, n0), (9, n0), (10, n0), (11, n0), (12, n0), (13, n0)]), todo := [.reg (opsOf (bodyAt Tryz.prog 72 [1, 0, 0, 0])) [1], .code (bodyAt Tryz.prog 72 [1, 0, 0, 1]), .inLoop (bodyAt Tryz.prog 72 [1, 0, 0]), .inBlock 0], defers := [], ret := false, kind := .normal, «ro» := none }, callers := [{ fn := 102, tm := (tmAt 13 4 13 [(2, .ptr 565 0), (4, nS), (12, n0)]), todo := [.inRF 567, .inBlock 0, .code (bodyAt Tryz.prog 102 [1, 1])], defers := [.coll 566], ret := false, kind := .normal, «ro» := none }, { fn := 70, tm := (tmAt 5 3 5 [(2, nS), (3, .func (.func 72) [] [.ptr 564 0]), (4, n0)]), todo := [.reg (opsOf (bodyAt Tryz.prog 70 [1, 0])) [1, 2], .code .ret], defers := [], ret := false, kind := .normal, «ro» := none }, { fn := 36, tm := (tmAt 12 4 12 [(1, .v (.func (.func 14) #[] #[])), (4, nS), (5, n0), (6, .func (.func 72) [] [.ptr 564 0]), (7, n0), (8, n0), (9, n0), (11, n0)]), todo := [.reg (opsOf (bodyAt Tryz.prog 36 [1, 0])) [1, 2], .code (bodyAt Tryz.prog 36 [1, 1])], defers := [], ret := false, kind := .normal, «ro» := none }, { fn := 13, tm := (tmAt 55 6 55 [(2, .ptr 445 0), (3, .ptr 446 0), (4, nS), (12, n0), (39, .func (.func 72) [] [.ptr 564 0]), (40, n0), (41, n0), (42, n0), (43, n0), (44, n0), (45, n0), (46, n0), (47, n0), (48, n0), (49, n0), (50, n0), (51, n0), (52, n0), (53, n0), (54, n0)]), todo := [.reg (opsOf (bodyAt Tryz.prog 13 [1, 1, 1, 1, 1, 0, 0])) [2, 3, 4], .code (bodyAt Tryz.prog 13 [1, 1, 1, 1, 1, 0, 1]), .code (bodyAt Tryz.prog 13 [1, 1, 1, 1, 1, 1])], defers := [], ret := false, kind := .normal, «ro» := none }, { fn := 4, tm := (tmAt 62 6 62 [(0, nF), (3, nI 0), (4, nI 0), (5, nI 0), (6, n0), (23, .ptr 5 0), (24, .ptr 6 0), (25, n0), (26, n0), (27, n0), (28, n0), (29, n0), (30, n0), (31, n0), (32, n0), (33, n0), (34, n0), (35, n0), (36, n0), (37, n0), (38, n0), (39, n0), (40, n0), (41, n0), (42, n0), (43, n0), (44, n0), (45, n0), (46, n0), (47, n0), (48, n0), (49, n0), (50, n0), (51, n0), (52, n0), (53, n0), (54, n0), (55, n0), (56, n0), (57, n0), (58, n0), (59, n0), (60, n0), (61, n0)]), todo := [.reg (opsOf (bodyAt Tryz.prog 4 [1, 1, 1, 1, 1, 0])) [2, 3], .code (bodyAt Tryz.prog 4 [1, 1, 1, 1, 1, 1])], defers := [], ret := false, kind := .normal, «ro» := none }], mem := (memAt 12 576 0 [(0, .map [(nI 1, .agg [.sl 95 0 1 none, nI 1], 0)] 1, true),
  (1, .row [.map 0, nI 1, nI 100, nI (-1)] 96 (0, 0) none, true),
  (2, .map [(.v (.string ⟨#[97]⟩), .agg [nF, nI 1], 0), (.v (.string ⟨#[98]⟩), .agg [nT, nI 0], 1)] 2, true),
  (4, .map [(.v (.string ⟨#[97]⟩), .v (.int .u64 1), 0), (.v (.string ⟨#[98]⟩), .v (.int .u64 2), 1)] 2, true),
  (5, .row [.ptr 1 0, .map 2, .map 302, nS, nI (-1), .v (.int .u64 2), .map 4] 57 (0, 0) none, true),
  (6, .row [.v (.int .u64 0), .map 438] 60 (0, 0) none, true),
  (95, .row [nB 121] 5 (0, 0) (some 1), true),
  (302, .map [(.v (.string ⟨#[97]⟩), .agg [nF, nI 1], 0), (.v (.string ⟨#[98]⟩), .agg [nT, nI 0], 1)] 2, true),
  (438, .map [(.v (.string ⟨#[97]⟩), .agg [.v (.string ⟨#[97]⟩), .v (.int .u64 1048577), nI 1, .sl 444 0 1 none], 0)] 1, true),
  (444, .row [nB 120] 5 (0, 0) (some 1), true),
  (445, .row [.ptr 5 0] 33 (0, 0) none, true),
  (446, .row [.ptr 6 0] 35 (0, 0) none, true),
  (447, .map [(.v (.string ⟨#[97]⟩), nT, 0), (.v (.string ⟨#[98]⟩), nT, 1)] 2, true),
  (564, .row [.map 447] 77 (0, 0) none, true),
  (565, .row [nS] 80 (0, 0) none, true),
  (566, .dfr (some []), true),
  (567, .loop .ready none 102 (tmOf 13 4 [nS, .func (.func 72) [] [.ptr 564 0], .ptr 565 0, n0, nS, n0, .func (.func 72) [] [.ptr 564 0], n0, n0, n0, n0, n0, n0]) [7] (bodyAt Tryz.prog 102 [1, 0, 1, 0, 0]) (bodyAt Tryz.prog 102 [1, 0, 1, 0, 1]) 566, true),
  (568, .miter (some 447) 2 [1] 2, true)]) }
theorem g18 : stageV (E [] []) 4 670 [S18] [(true, [447, 564, 565, 566, 567, 568, 576, 578], [[39], []], 592)] = some [S19] := by kernel_rfl
theorem s18 (w : World) (told : ∀ r ∈ ([] : List (Nat × List SV)), Rx.Told w r) : AllSafe (E [] []) (laidOwn []) w 4 (laidVal []) [S18] := AllSafe.stage (K w told) (fun _ h => h) g18 (AllSafe.cons (s19 w told) AllSafe.nil)
noncomputable def S16 : SM := { top := { fn := 69, tm := (tmAt 11 4 11 [(2, nS), (10, .sl 524 0 1 none)]), todo := [.reg (opsOf (bodyAt Tryz.prog 69 [1, 1, 0])) [6], .code .ret], defers := [], ret := false, kind := .normal, «ro» := none }, callers := [{ fn := 35, tm := (tmAt 20 5 20 [(0, .ptr 6 0), (2, nS), (4, n0), (5, .ptr 6 0), (6, n0), (7, n0), (8, n0), (9, n0), (10, n0), (11, n0), (12, n0), (13, n0), (14, n0), (15, n0), (16, n0), (17, n0), (18, n0), (19, n0)]), todo := [.reg (opsOf (bodyAt Tryz.prog 35 [1, 0, 0])) [1, 2, 3], .code (bodyAt Tryz.prog 35 [1, 0, 1]), .code (bodyAt Tryz.prog 35 [1, 1])], defers := [], ret := false, kind := .normal, «ro» := none }, { fn := 13, tm := (tmAt 55 6 55 [(2, .ptr 445 0), (3, .ptr 446 0), (4, nS), (5, .ptr 448 0), (6, .func (.func 32) [] [.ptr 445 0, .ptr 446 0, .ptr 448 0]), (10, n0), (12, n0), (26, .ptr 6 0), (27, n0), (28, n0), (29, n0), (30, n0), (31, n0), (32, n0), (33, n0), (34, n0), (35, n0), (37, n0), (38, n0), (39, n0), (40, n0), (41, n0), (42, n0), (43, n0), (44, n0), (45, n0), (46, n0), (47, n0), (48, n0), (49, n0), (50, n0), (51, n0), (52, n0), (53, n0), (54, n0)]), todo := [.reg (opsOf (bodyAt Tryz.prog 13 [1, 1, 1, 1, 0, 0])) [1, 2, 3], .code (bodyAt Tryz.prog 13 [1, 1, 1, 1, 0, 1]), .code (bodyAt Tryz.prog 13 [1, 1, 1, 1, 1])], defers := [], ret := false, kind := .normal, «ro» := none }, { fn := 4, tm := (tmAt 62 6 62 [(0, nF), (3, nI 0), (4, nI 0), (5, nI 0), (6, n0), (23, .ptr 5 0), (24, .ptr 6 0), (25, n0), (26, n0), (27, n0), (28, n0), (29, n0), (30, n0), (31, n0), (32, n0), (33, n0), (34, n0), (35, n0), (36, n0), (37, n0), (38, n0), (39, n0), (40, n0), (41, n0), (42, n0), (43, n0), (44, n0), (45, n0), (46, n0), (47, n0), (48, n0), (49, n0), (50, n0), (51, n0), (52, n0), (53, n0), (54, n0), (55, n0), (56, n0), (57, n0), (58, n0), (59, n0), (60, n0), (61, n0)]), todo := [.reg (opsOf (bodyAt Tryz.prog 4 [1, 1, 1, 1, 1, 0])) [2, 3], .code (bodyAt Tryz.prog 4 [1, 1, 1, 1, 1, 1])], defers := [], ret := false, kind := .normal, «ro» := none }], mem := (memAt 12 528 0 [(0, .map [(nI 1, .agg [.sl 95 0 1 none, nI 1], 0)] 1, true),
  (1, .row [.map 0, nI 1, nI 100, nI (-1)] 96 (0, 0) none, true),
  (2, .map [(.v (.string ⟨#[97]⟩), .agg [nF, nI 1], 0), (.v (.string ⟨#[98]⟩), .agg [nT, nI 0], 1)] 2, true),
  (4, .map [(.v (.string ⟨#[97]⟩), .v (.int .u64 1), 0), (.v (.string ⟨#[98]⟩), .v (.int .u64 2), 1)] 2, true),
  (5, .row [.ptr 1 0, .map 2, .map 302, nS, nI (-1), .v (.int .u64 2), .map 4] 57 (0, 0) none, true),
  (6, .row [.v (.int .u64 0), .map 438] 60 (0, 0) none, true),
  (95, .row [nB 121] 5 (0, 0) (some 1), true),
  (302, .map [(.v (.string ⟨#[97]⟩), .agg [nF, nI 1], 0), (.v (.string ⟨#[98]⟩), .agg [nT, nI 0], 1)] 2, true),
  (438, .map [(.v (.string ⟨#[97]⟩), .agg [.v (.string ⟨#[97]⟩), .v (.int .u64 1048577), nI 1, .sl 444 0 1 none], 0)] 1, true),
  (444, .row [nB 120] 5 (0, 0) (some 1), true),
  (445, .row [.ptr 5 0] 33 (0, 0) none, true),
  (446, .row [.ptr 6 0] 35 (0, 0) none, true),
  (447, .map [(.v (.string ⟨#[97]⟩), nT, 0), (.v (.string ⟨#[98]⟩), nT, 1)] 2, true),
  (448, .row [.map 447] 77 (0, 0) none, true),
  (524, .row [.v (.string ⟨#[97]⟩)] 9 (0, 0) (some 1), true)]) }
theorem g16 : stageV (E [] []) 4 999 [S16] [(true, [448, 524, 528, 529, 530, 531, 532, 533, 534, 535, 536, 537, 538, 539, 540, 541, 542, 543, 544, 545, 546, 547, 548, 549, 550, 551, 552, 553, 554, 555, 556, 557, 558, 559, 560, 561, 562, 563], [[1, 2, 4], [0, 1, 3, 5, 6, 7, 8, 9, 10, 11], [0, 1], [0, 2, 3, 10], [5, 6, 10, 26, 27, 28, 29, 30, 31, 32, 33, 34, 35, 36, 37, 38], []], 576), (true, [448, 524, 528, 529, 530, 531, 532, 533, 534, 535, 536, 537, 538, 539, 540, 541, 542, 543, 544, 545, 546, 547, 548, 549, 550, 551, 552, 553, 554, 555, 556, 557, 558, 559, 560, 561, 562, 563], [[1, 2, 4], [0, 1, 3, 5, 6, 7, 8, 9, 10, 11], [0, 1], [0, 2, 3, 10], [5, 6, 10, 26, 27, 28, 29, 30, 31, 32, 33, 34, 35, 36, 37, 38], []], 576)] = some [S17, S18] := by kernel_rfl
theorem s16 (w : World) (told : ∀ r ∈ ([] : List (Nat × List SV)), Rx.Told w r) : AllSafe (E [] []) (laidOwn []) w 4 (laidVal []) [S16] := AllSafe.stage (K w told) (fun _ h => h) g16 (AllSafe.cons (s17 w told) (AllSafe.cons (s18 w told) AllSafe.nil))
noncomputable def S15 : SM := { top := { fn := 34, tm := (tmAt 11 4 11 [(2, nS), (10, .sl 467 0 2 none)]), todo := [.reg (opsOf (bodyAt Tryz.prog 34 [1, 1, 0])) [6], .code .ret], defers := [], ret := false, kind := .normal, «ro» := none }, callers := [{ fn := 13, tm := (tmAt 55 6 55 [(2, .ptr 445 0), (3, .ptr 446 0), (4, nS), (5, .ptr 448 0), (6, .func (.func 32) [] [.ptr 445 0, .ptr 446 0, .ptr 448 0]), (8, n0), (10, n0), (12, n0), (15, .ptr 5 0), (16, n0), (17, n0), (18, n0), (19, n0), (20, n0), (21, n0), (22, n0), (23, n0), (25, n0), (26, n0), (27, n0), (28, n0), (29, n0), (30, n0), (31, n0), (32, n0), (33, n0), (34, n0), (35, n0), (37, n0), (38, n0), (39, n0), (40, n0), (41, n0), (42, n0), (43, n0), (44, n0), (45, n0), (46, n0), (47, n0), (48, n0), (49, n0), (50, n0), (51, n0), (52, n0), (53, n0), (54, n0)]), todo := [.reg (opsOf (bodyAt Tryz.prog 13 [1, 1, 1, 0, 0])) [1, 2, 3], .code (bodyAt Tryz.prog 13 [1, 1, 1, 0, 1]), .code (bodyAt Tryz.prog 13 [1, 1, 1, 1])], defers := [], ret := false, kind := .normal, «ro» := none }, { fn := 4, tm := (tmAt 62 6 62 [(0, nF), (3, nI 0), (4, nI 0), (5, nI 0), (6, n0), (23, .ptr 5 0), (24, .ptr 6 0), (25, n0), (26, n0), (27, n0), (28, n0), (29, n0), (30, n0), (31, n0), (32, n0), (33, n0), (34, n0), (35, n0), (36, n0), (37, n0), (38, n0), (39, n0), (40, n0), (41, n0), (42, n0), (43, n0), (44, n0), (45, n0), (46, n0), (47, n0), (48, n0), (49, n0), (50, n0), (51, n0), (52, n0), (53, n0), (54, n0), (55, n0), (56, n0), (57, n0), (58, n0), (59, n0), (60, n0), (61, n0)]), todo := [.reg (opsOf (bodyAt Tryz.prog 4 [1, 1, 1, 1, 1, 0])) [2, 3], .code (bodyAt Tryz.prog 4 [1, 1, 1, 1, 1, 1])], defers := [], ret := false, kind := .normal, «ro» := none }], mem := (memAt 12 480 0 [(0, .map [(nI 1, .agg [.sl 95 0 1 none, nI 1], 0)] 1, true),
  (1, .row [.map 0, nI 1, nI 100, nI (-1)] 96 (0, 0) none, true),
  (2, .map [(.v (.string ⟨#[97]⟩), .agg [nF, nI 1], 0), (.v (.string ⟨#[98]⟩), .agg [nT, nI 0], 1)] 2, true),
  (4, .map [(.v (.string ⟨#[97]⟩), .v (.int .u64 1), 0), (.v (.string ⟨#[98]⟩), .v (.int .u64 2), 1)] 2, true),
  (5, .row [.ptr 1 0, .map 2, .map 302, nS, nI (-1), .v (.int .u64 2), .map 4] 57 (0, 0) none, true),
  (6, .row [.v (.int .u64 0), .map 438] 60 (0, 0) none, true),
  (95, .row [nB 121] 5 (0, 0) (some 1), true),
  (302, .map [(.v (.string ⟨#[97]⟩), .agg [nF, nI 1], 0), (.v (.string ⟨#[98]⟩), .agg [nT, nI 0], 1)] 2, true),
  (438, .map [(.v (.string ⟨#[97]⟩), .agg [.v (.string ⟨#[97]⟩), .v (.int .u64 1048577), nI 1, .sl 444 0 1 none], 0)] 1, true),
  (444, .row [nB 120] 5 (0, 0) (some 1), true),
  (445, .row [.ptr 5 0] 33 (0, 0) none, true),
  (446, .row [.ptr 6 0] 35 (0, 0) none, true),
  (447, .map [] 0, true),
  (448, .row [.map 447] 77 (0, 0) none, true),
  (467, .row [.v (.string ⟨#[97]⟩), .v (.string ⟨#[98]⟩)] 9 (0, 0) (some 1), true)]) }
theorem g15 : stageV (E [] []) 4 1600 [S15] [(true, [467, 480, 481, 482, 483, 484, 485, 486, 487, 488, 489, 490, 491, 492, 493, 494, 495, 496, 497, 498, 499, 500, 501, 502, 503, 504, 505, 506, 507, 508, 509, 510, 511, 512, 513, 514, 515, 516, 517, 518, 519, 520, 521, 522, 523], [[0, 1, 3, 4, 5, 6, 7, 8, 9], [1, 3], [8, 15, 16, 17, 18, 19, 20, 21, 22, 23, 24, 25], []], 528)] = some [S16] := by kernel_rfl
theorem s15 (w : World) (told : ∀ r ∈ ([] : List (Nat × List SV)), Rx.Told w r) : AllSafe (E [] []) (laidOwn []) w 4 (laidVal []) [S15] := AllSafe.stage (K w told) (fun _ h => h) g15 (AllSafe.cons (s16 w told) AllSafe.nil)
noncomputable def S13 : SM := { top := { fn := 100, tm := (tmAt 14 4 14 [(0, .yield 452), (3, n0), (5, .ptr 453 0), (6, .tup [nT, .v (.string ⟨#[97]⟩), .agg [nF, nI 1]]), (7, n0), (8, n0), (9, n0), (10, n0), (11, n0), (12, n0), (13, n0)]), todo := [.reg (opsOf (bodyAt Tryz.prog 100 [1, 0, 0, 0])) [1], .code (bodyAt Tryz.prog 100 [1, 0, 0, 1]), .inLoop (bodyAt Tryz.prog 100 [1, 0, 0]), .inBlock 0], defers := [], ret := false, kind := .normal, «ro» := none }, callers := [{ fn := 102, tm := (tmAt 13 4 13 [(2, .ptr 450 0), (4, nS), (12, n0)]), todo := [.inRF 452, .inBlock 0, .code (bodyAt Tryz.prog 102 [1, 1])], defers := [.coll 451], ret := false, kind := .normal, «ro» := none }, { fn := 70, tm := (tmAt 5 3 5 [(2, nS), (3, .func (.func 100) [] [.ptr 449 0]), (4, n0)]), todo := [.reg (opsOf (bodyAt Tryz.prog 70 [1, 0])) [1, 2], .code .ret], defers := [], ret := false, kind := .normal, «ro» := none }, { fn := 36, tm := (tmAt 12 4 12 [(1, .v (.func (.func 14) #[] #[])), (4, nS), (5, n0), (6, .func (.func 100) [] [.ptr 449 0]), (7, n0), (8, n0), (9, n0), (11, n0)]), todo := [.reg (opsOf (bodyAt Tryz.prog 36 [1, 0])) [1, 2], .code (bodyAt Tryz.prog 36 [1, 1])], defers := [], ret := false, kind := .normal, «ro» := none }, { fn := 34, tm := (tmAt 11 4 11 [(2, nS), (9, .func (.func 100) [] [.ptr 449 0]), (10, n0)]), todo := [.reg (opsOf (bodyAt Tryz.prog 34 [1, 1, 0])) [5, 6], .code .ret], defers := [], ret := false, kind := .normal, «ro» := none }, { fn := 13, tm := (tmAt 55 6 55 [(2, .ptr 445 0), (3, .ptr 446 0), (4, nS), (5, .ptr 448 0), (6, .func (.func 32) [] [.ptr 445 0, .ptr 446 0, .ptr 448 0]), (8, n0), (10, n0), (12, n0), (15, .ptr 5 0), (16, n0), (17, n0), (18, n0), (19, n0), (20, n0), (21, n0), (22, n0), (23, n0), (25, n0), (26, n0), (27, n0), (28, n0), (29, n0), (30, n0), (31, n0), (32, n0), (33, n0), (34, n0), (35, n0), (37, n0), (38, n0), (39, n0), (40, n0), (41, n0), (42, n0), (43, n0), (44, n0), (45, n0), (46, n0), (47, n0), (48, n0), (49, n0), (50, n0), (51, n0), (52, n0), (53, n0), (54, n0)]), todo := [.reg (opsOf (bodyAt Tryz.prog 13 [1, 1, 1, 0, 0])) [1, 2, 3], .code (bodyAt Tryz.prog 13 [1, 1, 1, 0, 1]), .code (bodyAt Tryz.prog 13 [1, 1, 1, 1])], defers := [], ret := false, kind := .normal, «ro» := none }, { fn := 4, tm := (tmAt 62 6 62 [(0, nF), (3, nI 0), (4, nI 0), (5, nI 0), (6, n0), (23, .ptr 5 0), (24, .ptr 6 0), (25, n0), (26, n0), (27, n0), (28, n0), (29, n0), (30, n0), (31, n0), (32, n0), (33, n0), (34, n0), (35, n0), (36, n0), (37, n0), (38, n0), (39, n0), (40, n0), (41, n0), (42, n0), (43, n0), (44, n0), (45, n0), (46, n0), (47, n0), (48, n0), (49, n0), (50, n0), (51, n0), (52, n0), (53, n0), (54, n0), (55, n0), (56, n0), (57, n0), (58, n0), (59, n0), (60, n0), (61, n0)]), todo := [.reg (opsOf (bodyAt Tryz.prog 4 [1, 1, 1, 1, 1, 0])) [2, 3], .code (bodyAt Tryz.prog 4 [1, 1, 1, 1, 1, 1])], defers := [], ret := false, kind := .normal, «ro» := none }], mem := (memAt 12 464 0 [(0, .map [(nI 1, .agg [.sl 95 0 1 none, nI 1], 0)] 1, true),
  (1, .row [.map 0, nI 1, nI 100, nI (-1)] 96 (0, 0) none, true),
  (2, .map [(.v (.string ⟨#[97]⟩), .agg [nF, nI 1], 0), (.v (.string ⟨#[98]⟩), .agg [nT, nI 0], 1)] 2, true),
  (4, .map [(.v (.string ⟨#[97]⟩), .v (.int .u64 1), 0), (.v (.string ⟨#[98]⟩), .v (.int .u64 2), 1)] 2, true),
  (5, .row [.ptr 1 0, .map 2, .map 302, nS, nI (-1), .v (.int .u64 2), .map 4] 57 (0, 0) none, true),
  (6, .row [.v (.int .u64 0), .map 438] 60 (0, 0) none, true),
  (95, .row [nB 121] 5 (0, 0) (some 1), true),
  (302, .map [(.v (.string ⟨#[97]⟩), .agg [nF, nI 1], 0), (.v (.string ⟨#[98]⟩), .agg [nT, nI 0], 1)] 2, true),
  (438, .map [(.v (.string ⟨#[97]⟩), .agg [.v (.string ⟨#[97]⟩), .v (.int .u64 1048577), nI 1, .sl 444 0 1 none], 0)] 1, true),
  (444, .row [nB 120] 5 (0, 0) (some 1), true),
  (445, .row [.ptr 5 0] 33 (0, 0) none, true),
  (446, .row [.ptr 6 0] 35 (0, 0) none, true),
  (447, .map [] 0, true),
  (448, .row [.map 447] 77 (0, 0) none, true),
  (449, .row [.map 2] 53 (0, 0) none, true),
  (450, .row [nS] 80 (0, 0) none, true),
  (451, .dfr (some []), true),
  (452, .loop .ready none 102 (tmOf 13 4 [nS, .func (.func 100) [] [.ptr 449 0], .ptr 450 0, n0, nS, n0, .func (.func 100) [] [.ptr 449 0], n0, n0, n0, n0, n0, n0]) [7] (bodyAt Tryz.prog 102 [1, 0, 1, 0, 0]) (bodyAt Tryz.prog 102 [1, 0, 1, 0, 1]) 451, true),
  (453, .miter (some 2) 2 [0] 2, true)]) }
theorem g13 : stageV (E [] []) 4 627 [S13] [(true, [449, 450, 451, 452, 453, 464, 466], [[9], [], []], 480)] = some [S15] := by kernel_rfl
theorem s13 (w : World) (told : ∀ r ∈ ([] : List (Nat × List SV)), Rx.Told w r) : AllSafe (E [] []) (laidOwn []) w 4 (laidVal []) [S13] := AllSafe.stage (K w told) (fun _ h => h) g13 (AllSafe.cons (s15 w told) AllSafe.nil)
noncomputable def S14 : SM := { top := { fn := 100, tm := (tmAt 14 4 14 [(0, .yield 452), (3, n0), (5, .ptr 453 0), (6, .tup [nT, .v (.string ⟨#[98]⟩), .agg [nT, nI 0]]), (7, n0), (8, n0), (9, n0), (10, n0), (11, n0), (12, n0), (13, n0)]), todo := [.reg (opsOf (bodyAt Tryz.prog 100 [1, 0, 0, 0])) [1], .code (bodyAt Tryz.prog 100 [1, 0, 0, 1]), .inLoop (bodyAt Tryz.prog 100 [1, 0, 0]), .inBlock 0], defers := [], ret := false, kind := .normal, «ro» := none }, callers := [{ fn := 102, tm := (tmAt 13 4 13 [(2, .ptr 450 0), (4, nS), (12, n0)]), todo := [.inRF 452, .inBlock 0, .code (bodyAt Tryz.prog 102 [1, 1])], defers := [.coll 451], ret := false, kind := .normal, «ro» := none }, { fn := 70, tm := (tmAt 5 3 5 [(2, nS), (3, .func (.func 100) [] [.ptr 449 0]), (4, n0)]), todo := [.reg (opsOf (bodyAt Tryz.prog 70 [1, 0])) [1, 2], .code .ret], defers := [], ret := false, kind := .normal, «ro» := none }, { fn := 36, tm := (tmAt 12 4 12 [(1, .v (.func (.func 14) #[] #[])), (4, nS), (5, n0), (6, .func (.func 100) [] [.ptr 449 0]), (7, n0), (8, n0), (9, n0), (11, n0)]), todo := [.reg (opsOf (bodyAt Tryz.prog 36 [1, 0])) [1, 2], .code (bodyAt Tryz.prog 36 [1, 1])], defers := [], ret := false, kind := .normal, «ro» := none }, { fn := 34, tm := (tmAt 11 4 11 [(2, nS), (9, .func (.func 100) [] [.ptr 449 0]), (10, n0)]), todo := [.reg (opsOf (bodyAt Tryz.prog 34 [1, 1, 0])) [5, 6], .code .ret], defers := [], ret := false, kind := .normal, «ro» := none }, { fn := 13, tm := (tmAt 55 6 55 [(2, .ptr 445 0), (3, .ptr 446 0), (4, nS), (5, .ptr 448 0), (6, .func (.func 32) [] [.ptr 445 0, .ptr 446 0, .ptr 448 0]), (8, n0), (10, n0), (12, n0), (15, .ptr 5 0), (16, n0), (17, n0), (18, n0), (19, n0), (20, n0), (21, n0), (22, n0), (23, n0), (25, n0), (26, n0), (27, n0), (28, n0), (29, n0), (30, n0), (31, n0), (32, n0), (33, n0), (34, n0), (35, n0), (37, n0), (38, n0), (39, n0), (40, n0), (41, n0), (42, n0), (43, n0), (44, n0), (45, n0), (46, n0), (47, n0), (48, n0), (49, n0), (50, n0), (51, n0), (52, n0), (53, n0), (54, n0)]), todo := [.reg (opsOf (bodyAt Tryz.prog 13 [1, 1, 1, 0, 0])) [1, 2, 3], .code (bodyAt Tryz.prog 13 [1, 1, 1, 0, 1]), .code (bodyAt Tryz.prog 13 [1, 1, 1, 1])], defers := [], ret := false, kind := .normal, «ro» := none }, { fn := 4, tm := (tmAt 62 6 62 [(0, nF), (3, nI 0), (4, nI 0), (5, nI 0), (6, n0), (23, .ptr 5 0), (24, .ptr 6 0), (25, n0), (26, n0), (27, n0), (28, n0), (29, n0), (30, n0), (31, n0), (32, n0), (33, n0), (34, n0), (35, n0), (36, n0), (37, n0), (38, n0), (39, n0), (40, n0), (41, n0), (42, n0), (43, n0), (44, n0), (45, n0), (46, n0), (47, n0), (48, n0), (49, n0), (50, n0), (51, n0), (52, n0), (53, n0), (54, n0), (55, n0), (56, n0), (57, n0), (58, n0), (59, n0), (60, n0), (61, n0)]), todo := [.reg (opsOf (bodyAt Tryz.prog 4 [1, 1, 1, 1, 1, 0])) [2, 3], .code (bodyAt Tryz.prog 4 [1, 1, 1, 1, 1, 1])], defers := [], ret := false, kind := .normal, «ro» := none }], mem := (memAt 12 464 0 [(0, .map [(nI 1, .agg [.sl 95 0 1 none, nI 1], 0)] 1, true),
  (1, .row [.map 0, nI 1, nI 100, nI (-1)] 96 (0, 0) none, true),
  (2, .map [(.v (.string ⟨#[97]⟩), .agg [nF, nI 1], 0), (.v (.string ⟨#[98]⟩), .agg [nT, nI 0], 1)] 2, true),
  (4, .map [(.v (.string ⟨#[97]⟩), .v (.int .u64 1), 0), (.v (.string ⟨#[98]⟩), .v (.int .u64 2), 1)] 2, true),
  (5, .row [.ptr 1 0, .map 2, .map 302, nS, nI (-1), .v (.int .u64 2), .map 4] 57 (0, 0) none, true),
  (6, .row [.v (.int .u64 0), .map 438] 60 (0, 0) none, true),
  (95, .row [nB 121] 5 (0, 0) (some 1), true),
  (302, .map [(.v (.string ⟨#[97]⟩), .agg [nF, nI 1], 0), (.v (.string ⟨#[98]⟩), .agg [nT, nI 0], 1)] 2, true),
  (438, .map [(.v (.string ⟨#[97]⟩), .agg [.v (.string ⟨#[97]⟩), .v (.int .u64 1048577), nI 1, .sl 444 0 1 none], 0)] 1, true),
  (444, .row [nB 120] 5 (0, 0) (some 1), true),
  (445, .row [.ptr 5 0] 33 (0, 0) none, true),
  (446, .row [.ptr 6 0] 35 (0, 0) none, true),
  (447, .map [] 0, true),
  (448, .row [.map 447] 77 (0, 0) none, true),
  (449, .row [.map 2] 53 (0, 0) none, true),
  (450, .row [nS] 80 (0, 0) none, true),
  (451, .dfr (some []), true),
  (452, .loop .ready none 102 (tmOf 13 4 [nS, .func (.func 100) [] [.ptr 449 0], .ptr 450 0, n0, nS, n0, .func (.func 100) [] [.ptr 449 0], n0, n0, n0, n0, n0, n0]) [7] (bodyAt Tryz.prog 102 [1, 0, 1, 0, 0]) (bodyAt Tryz.prog 102 [1, 0, 1, 0, 1]) 451, true),
  (453, .miter (some 2) 2 [1] 2, true)]) }
theorem g14 : stageV (E [] []) 4 670 [S14] [(true, [449, 450, 451, 452, 453, 464, 466], [[9], [], []], 480)] = some [S15] := by kernel_rfl
theorem s14 (w : World) (told : ∀ r ∈ ([] : List (Nat × List SV)), Rx.Told w r) : AllSafe (E [] []) (laidOwn []) w 4 (laidVal []) [S14] := AllSafe.stage (K w told) (fun _ h => h) g14 (AllSafe.cons (s15 w told) AllSafe.nil)
end Go.Proofs.YtjhmpmhkppglnaaGreat.scanPages
