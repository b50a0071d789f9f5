/- Facts of this translation's tables: sizes, places of fields, numbers of functions. -/
import Derived.Test.YtmbbhgglllfelaaDoorKitS
import Derived.Test.YtmbbhgglllfelaaDoorProg
import Derived.Shelf.Abstract
set_option autoImplicit false
set_option maxRecDepth 20000
namespace Go.Proofs.YtmbbhgglllfelaaDoor.T
open Go Go.Proofs Go.Shelf Go.Proofs.YtmbbhgglllfelaaDoor.K
theorem agg110 : aggB Tryd.prog 110 10 = true := by kernel_rfl
theorem agg46 : aggB Tryd.prog 46 2 = true := by kernel_rfl
theorem agg68 : aggB Tryd.prog 68 4 = true := by kernel_rfl
theorem agg72 : aggB Tryd.prog 72 4 = true := by kernel_rfl
theorem bld46 : bldB Tryd.prog 46 [(0, 1), (1, 1)] [S [], S []] := ⟨_, rfl, by kernel_rfl, by kernel_rfl⟩
theorem bld57 : bldB Tryd.prog 57 [(0, 1), (1, 1), (2, 1)] [.slice none 0 0, .slice none 0 0, .int .i64 0] := ⟨_, rfl, by kernel_rfl, by kernel_rfl⟩
theorem bld64 : bldB Tryd.prog 64 [(0, 1), (1, 1), (2, 1), (3, 1), (4, 1)] [.slice none 0 0, .slice none 0 0, .int .i64 0, .int .i64 0, .int .i64 0] := ⟨_, rfl, by kernel_rfl, by kernel_rfl⟩
theorem bld68 : bldB Tryd.prog 68 [(0, 1), (1, 1), (2, 1), (3, 1)] [.int .i64 0, .int .i64 0, S [], .int .i64 0] := ⟨_, rfl, by kernel_rfl, by kernel_rfl⟩
theorem bld72 : bldB Tryd.prog 72 [(0, 1), (1, 1), (2, 1), (3, 1)] [S [], .int .i64 0, S [], .slice none 0 0] := ⟨_, rfl, by kernel_rfl, by kernel_rfl⟩
theorem ent10 : ∀ args (w : World), (callFunc 10 args).run Tryd.prog w = .ok (.enter 10 args) w := enters_of Tryd.func10 (by kernel_rfl) rfl
theorem ent11 : ∀ args (w : World), (callFunc 11 args).run Tryd.prog w = .ok (.enter 11 args) w := enters_of Tryd.func11 (by kernel_rfl) rfl
theorem ent12 : ∀ args (w : World), (callFunc 12 args).run Tryd.prog w = .ok (.enter 12 args) w := enters_of Tryd.func12 (by kernel_rfl) rfl
theorem ent13 : ∀ args (w : World), (callFunc 13 args).run Tryd.prog w = .ok (.enter 13 args) w := enters_of Tryd.func13 (by kernel_rfl) rfl
theorem ent14 : ∀ args (w : World), (callFunc 14 args).run Tryd.prog w = .ok (.enter 14 args) w := enters_of Tryd.func14 (by kernel_rfl) rfl
theorem ent15 : ∀ args (w : World), (callFunc 15 args).run Tryd.prog w = .ok (.enter 15 args) w := enters_of Tryd.func15 (by kernel_rfl) rfl
theorem ent16 : ∀ args (w : World), (callFunc 16 args).run Tryd.prog w = .ok (.enter 16 args) w := enters_of Tryd.func16 (by kernel_rfl) rfl
theorem ent17 : ∀ args (w : World), (callFunc 17 args).run Tryd.prog w = .ok (.enter 17 args) w := enters_of Tryd.func17 (by kernel_rfl) rfl
theorem ent18 : ∀ args (w : World), (callFunc 18 args).run Tryd.prog w = .ok (.enter 18 args) w := enters_of Tryd.func18 (by kernel_rfl) rfl
theorem ent19 : ∀ args (w : World), (callFunc 19 args).run Tryd.prog w = .ok (.enter 19 args) w := enters_of Tryd.func19 (by kernel_rfl) rfl
theorem ent20 : ∀ args (w : World), (callFunc 20 args).run Tryd.prog w = .ok (.enter 20 args) w := enters_of Tryd.func20 (by kernel_rfl) rfl
theorem ent21 : ∀ args (w : World), (callFunc 21 args).run Tryd.prog w = .ok (.enter 21 args) w := enters_of Tryd.func21 (by kernel_rfl) rfl
theorem ent22 : ∀ args (w : World), (callFunc 22 args).run Tryd.prog w = .ok (.enter 22 args) w := enters_of Tryd.func22 (by kernel_rfl) rfl
theorem ent23 : ∀ args (w : World), (callFunc 23 args).run Tryd.prog w = .ok (.enter 23 args) w := enters_of Tryd.func23 (by kernel_rfl) rfl
theorem ent24 : ∀ args (w : World), (callFunc 24 args).run Tryd.prog w = .ok (.enter 24 args) w := enters_of Tryd.func24 (by kernel_rfl) rfl
theorem ent25 : ∀ args (w : World), (callFunc 25 args).run Tryd.prog w = .ok (.enter 25 args) w := enters_of Tryd.func25 (by kernel_rfl) rfl
theorem ent26 : ∀ args (w : World), (callFunc 26 args).run Tryd.prog w = .ok (.enter 26 args) w := enters_of Tryd.func26 (by kernel_rfl) rfl
theorem ent27 : ∀ args (w : World), (callFunc 27 args).run Tryd.prog w = .ok (.enter 27 args) w := enters_of Tryd.func27 (by kernel_rfl) rfl
theorem ent28 : ∀ args (w : World), (callFunc 28 args).run Tryd.prog w = .ok (.enter 28 args) w := enters_of Tryd.func28 (by kernel_rfl) rfl
theorem ent29 : ∀ args (w : World), (callFunc 29 args).run Tryd.prog w = .ok (.enter 29 args) w := enters_of Tryd.func29 (by kernel_rfl) rfl
theorem ent30 : ∀ args (w : World), (callFunc 30 args).run Tryd.prog w = .ok (.enter 30 args) w := enters_of Tryd.func30 (by kernel_rfl) rfl
theorem ent31 : ∀ args (w : World), (callFunc 31 args).run Tryd.prog w = .ok (.enter 31 args) w := enters_of Tryd.func31 (by kernel_rfl) rfl
theorem ent32 : ∀ args (w : World), (callFunc 32 args).run Tryd.prog w = .ok (.enter 32 args) w := enters_of Tryd.func32 (by kernel_rfl) rfl
theorem ent33 : ∀ args (w : World), (callFunc 33 args).run Tryd.prog w = .ok (.enter 33 args) w := enters_of Tryd.func33 (by kernel_rfl) rfl
theorem ent35 : ∀ args (w : World), (callFunc 35 args).run Tryd.prog w = .ok (.enter 35 args) w := enters_of Tryd.func35 (by kernel_rfl) rfl
theorem ent36 : ∀ args (w : World), (callFunc 36 args).run Tryd.prog w = .ok (.enter 36 args) w := enters_of Tryd.func36 (by kernel_rfl) rfl
theorem ent37 : ∀ args (w : World), (callFunc 37 args).run Tryd.prog w = .ok (.enter 37 args) w := enters_of Tryd.func37 (by kernel_rfl) rfl
theorem ent38 : ∀ args (w : World), (callFunc 38 args).run Tryd.prog w = .ok (.enter 38 args) w := enters_of Tryd.func38 (by kernel_rfl) rfl
theorem ent39 : ∀ args (w : World), (callFunc 39 args).run Tryd.prog w = .ok (.enter 39 args) w := enters_of Tryd.func39 (by kernel_rfl) rfl
theorem ent40 : ∀ args (w : World), (callFunc 40 args).run Tryd.prog w = .ok (.enter 40 args) w := enters_of Tryd.func40 (by kernel_rfl) rfl
theorem ent43 : ∀ args (w : World), (callFunc 43 args).run Tryd.prog w = .ok (.enter 43 args) w := enters_of Tryd.func43 (by kernel_rfl) rfl
theorem ent44 : ∀ args (w : World), (callFunc 44 args).run Tryd.prog w = .ok (.enter 44 args) w := enters_of Tryd.func44 (by kernel_rfl) rfl
theorem ent45 : ∀ args (w : World), (callFunc 45 args).run Tryd.prog w = .ok (.enter 45 args) w := enters_of Tryd.func45 (by kernel_rfl) rfl
theorem ent46 : ∀ args (w : World), (callFunc 46 args).run Tryd.prog w = .ok (.enter 46 args) w := enters_of Tryd.func46 (by kernel_rfl) rfl
theorem ent47 : ∀ args (w : World), (callFunc 47 args).run Tryd.prog w = .ok (.enter 47 args) w := enters_of Tryd.func47 (by kernel_rfl) rfl
theorem ent48 : ∀ args (w : World), (callFunc 48 args).run Tryd.prog w = .ok (.enter 48 args) w := enters_of Tryd.func48 (by kernel_rfl) rfl
theorem ent49 : ∀ args (w : World), (callFunc 49 args).run Tryd.prog w = .ok (.enter 49 args) w := enters_of Tryd.func49 (by kernel_rfl) rfl
theorem ent5 : ∀ args (w : World), (callFunc 5 args).run Tryd.prog w = .ok (.enter 5 args) w := enters_of Tryd.func5 (by kernel_rfl) rfl
theorem ent50 : ∀ args (w : World), (callFunc 50 args).run Tryd.prog w = .ok (.enter 50 args) w := enters_of Tryd.func50 (by kernel_rfl) rfl
theorem ent52 : ∀ args (w : World), (callFunc 52 args).run Tryd.prog w = .ok (.enter 52 args) w := enters_of Tryd.func52 (by kernel_rfl) rfl
theorem ent53 : ∀ args (w : World), (callFunc 53 args).run Tryd.prog w = .ok (.enter 53 args) w := enters_of Tryd.func53 (by kernel_rfl) rfl
theorem ent54 : ∀ args (w : World), (callFunc 54 args).run Tryd.prog w = .ok (.enter 54 args) w := enters_of Tryd.func54 (by kernel_rfl) rfl
theorem ent55 : ∀ args (w : World), (callFunc 55 args).run Tryd.prog w = .ok (.enter 55 args) w := enters_of Tryd.func55 (by kernel_rfl) rfl
theorem ent56 : ∀ args (w : World), (callFunc 56 args).run Tryd.prog w = .ok (.enter 56 args) w := enters_of Tryd.func56 (by kernel_rfl) rfl
theorem ent57 : ∀ args (w : World), (callFunc 57 args).run Tryd.prog w = .ok (.enter 57 args) w := enters_of Tryd.func57 (by kernel_rfl) rfl
theorem ent58 : ∀ args (w : World), (callFunc 58 args).run Tryd.prog w = .ok (.enter 58 args) w := enters_of Tryd.func58 (by kernel_rfl) rfl
theorem ent59 : ∀ args (w : World), (callFunc 59 args).run Tryd.prog w = .ok (.enter 59 args) w := enters_of Tryd.func59 (by kernel_rfl) rfl
theorem ent6 : ∀ args (w : World), (callFunc 6 args).run Tryd.prog w = .ok (.enter 6 args) w := enters_of Tryd.func6 (by kernel_rfl) rfl
theorem ent60 : ∀ args (w : World), (callFunc 60 args).run Tryd.prog w = .ok (.enter 60 args) w := enters_of Tryd.func60 (by kernel_rfl) rfl
theorem ent61 : ∀ args (w : World), (callFunc 61 args).run Tryd.prog w = .ok (.enter 61 args) w := enters_of Tryd.func61 (by kernel_rfl) rfl
theorem ent62 : ∀ args (w : World), (callFunc 62 args).run Tryd.prog w = .ok (.enter 62 args) w := enters_of Tryd.func62 (by kernel_rfl) rfl
theorem ent63 : ∀ args (w : World), (callFunc 63 args).run Tryd.prog w = .ok (.enter 63 args) w := enters_of Tryd.func63 (by kernel_rfl) rfl
theorem ent64 : ∀ args (w : World), (callFunc 64 args).run Tryd.prog w = .ok (.enter 64 args) w := enters_of Tryd.func64 (by kernel_rfl) rfl
theorem ent65 : ∀ args (w : World), (callFunc 65 args).run Tryd.prog w = .ok (.enter 65 args) w := enters_of Tryd.func65 (by kernel_rfl) rfl
theorem ent66 : ∀ args (w : World), (callFunc 66 args).run Tryd.prog w = .ok (.enter 66 args) w := enters_of Tryd.func66 (by kernel_rfl) rfl
theorem ent67 : ∀ args (w : World), (callFunc 67 args).run Tryd.prog w = .ok (.enter 67 args) w := enters_of Tryd.func67 (by kernel_rfl) rfl
theorem ent68 : ∀ args (w : World), (callFunc 68 args).run Tryd.prog w = .ok (.enter 68 args) w := enters_of Tryd.func68 (by kernel_rfl) rfl
theorem ent69 : ∀ args (w : World), (callFunc 69 args).run Tryd.prog w = .ok (.enter 69 args) w := enters_of Tryd.func69 (by kernel_rfl) rfl
theorem ent7 : ∀ args (w : World), (callFunc 7 args).run Tryd.prog w = .ok (.enter 7 args) w := enters_of Tryd.func7 (by kernel_rfl) rfl
theorem ent70 : ∀ args (w : World), (callFunc 70 args).run Tryd.prog w = .ok (.enter 70 args) w := enters_of Tryd.func70 (by kernel_rfl) rfl
theorem ent71 : ∀ args (w : World), (callFunc 71 args).run Tryd.prog w = .ok (.enter 71 args) w := enters_of Tryd.func71 (by kernel_rfl) rfl
theorem ent73 : ∀ args (w : World), (callFunc 73 args).run Tryd.prog w = .ok (.enter 73 args) w := enters_of Tryd.func73 (by kernel_rfl) rfl
theorem ent74 : ∀ args (w : World), (callFunc 74 args).run Tryd.prog w = .ok (.enter 74 args) w := enters_of Tryd.func74 (by kernel_rfl) rfl
theorem ent75 : ∀ args (w : World), (callFunc 75 args).run Tryd.prog w = .ok (.enter 75 args) w := enters_of Tryd.func75 (by kernel_rfl) rfl
theorem ent76 : ∀ args (w : World), (callFunc 76 args).run Tryd.prog w = .ok (.enter 76 args) w := enters_of Tryd.func76 (by kernel_rfl) rfl
theorem ent77 : ∀ args (w : World), (callFunc 77 args).run Tryd.prog w = .ok (.enter 77 args) w := enters_of Tryd.func77 (by kernel_rfl) rfl
theorem ent78 : ∀ args (w : World), (callFunc 78 args).run Tryd.prog w = .ok (.enter 78 args) w := enters_of Tryd.func78 (by kernel_rfl) rfl
theorem ent79 : ∀ args (w : World), (callFunc 79 args).run Tryd.prog w = .ok (.enter 79 args) w := enters_of Tryd.func79 (by kernel_rfl) rfl
theorem ent8 : ∀ args (w : World), (callFunc 8 args).run Tryd.prog w = .ok (.enter 8 args) w := enters_of Tryd.func8 (by kernel_rfl) rfl
theorem ent80 : ∀ args (w : World), (callFunc 80 args).run Tryd.prog w = .ok (.enter 80 args) w := enters_of Tryd.func80 (by kernel_rfl) rfl
theorem ent81 : ∀ args (w : World), (callFunc 81 args).run Tryd.prog w = .ok (.enter 81 args) w := enters_of Tryd.func81 (by kernel_rfl) rfl
theorem ent84 : ∀ args (w : World), (callFunc 84 args).run Tryd.prog w = .ok (.enter 84 args) w := enters_of Tryd.func84 (by kernel_rfl) rfl
theorem ent85 : ∀ args (w : World), (callFunc 85 args).run Tryd.prog w = .ok (.enter 85 args) w := enters_of Tryd.func85 (by kernel_rfl) rfl
theorem ent9 : ∀ args (w : World), (callFunc 9 args).run Tryd.prog w = .ok (.enter 9 args) w := enters_of Tryd.func9 (by kernel_rfl) rfl
theorem ent90 : ∀ args (w : World), (callFunc 90 args).run Tryd.prog w = .ok (.enter 90 args) w := enters_of Tryd.func90 (by kernel_rfl) rfl
theorem ent94 : ∀ args (w : World), (callFunc 94 args).run Tryd.prog w = .ok (.enter 94 args) w := enters_of Tryd.func94 (by kernel_rfl) rfl
theorem ent98 : ∀ args (w : World), (callFunc 98 args).run Tryd.prog w = .ok (.enter 98 args) w := enters_of Tryd.func98 (by kernel_rfl) rfl
theorem ent99 : ∀ args (w : World), (callFunc 99 args).run Tryd.prog w = .ok (.enter 99 args) w := enters_of Tryd.func99 (by kernel_rfl) rfl
theorem eq46 : eqB Tryd.prog 46 [.string, .string] := ⟨by kernel_rfl, by kernel_rfl⟩
theorem fld46_0 : fldB Tryd.prog 46 0 0 = true := by kernel_rfl
theorem fld46_1 : fldB Tryd.prog 46 1 1 = true := by kernel_rfl
theorem fld57_0 : fldB Tryd.prog 57 0 0 = true := by kernel_rfl
theorem fld57_1 : fldB Tryd.prog 57 1 1 = true := by kernel_rfl
theorem fld57_2 : fldB Tryd.prog 57 2 2 = true := by kernel_rfl
theorem fld64_0 : fldB Tryd.prog 64 0 0 = true := by kernel_rfl
theorem fld64_1 : fldB Tryd.prog 64 1 1 = true := by kernel_rfl
theorem fld64_2 : fldB Tryd.prog 64 2 2 = true := by kernel_rfl
theorem fld64_3 : fldB Tryd.prog 64 3 3 = true := by kernel_rfl
theorem fld64_4 : fldB Tryd.prog 64 4 4 = true := by kernel_rfl
theorem fld68_0 : fldB Tryd.prog 68 0 0 = true := by kernel_rfl
theorem fld68_1 : fldB Tryd.prog 68 1 1 = true := by kernel_rfl
theorem fld68_2 : fldB Tryd.prog 68 2 2 = true := by kernel_rfl
theorem fld68_3 : fldB Tryd.prog 68 3 3 = true := by kernel_rfl
theorem fld72_0 : fldB Tryd.prog 72 0 0 = true := by kernel_rfl
theorem fld72_1 : fldB Tryd.prog 72 1 1 = true := by kernel_rfl
theorem fld72_2 : fldB Tryd.prog 72 2 2 = true := by kernel_rfl
theorem fld72_3 : fldB Tryd.prog 72 3 3 = true := by kernel_rfl
theorem lit41 : litB Tryd.prog 41 46 2 := ⟨by kernel_rfl, _, _, rfl, by kernel_rfl, rfl, by kernel_rfl⟩
theorem lit52 : litB Tryd.prog 52 72 4 := ⟨by kernel_rfl, _, _, rfl, by kernel_rfl, rfl, by kernel_rfl⟩
theorem lit59 : litB Tryd.prog 59 68 4 := ⟨by kernel_rfl, _, _, rfl, by kernel_rfl, rfl, by kernel_rfl⟩
theorem lit70 : litB Tryd.prog 70 3 1 := ⟨by kernel_rfl, _, _, rfl, by kernel_rfl, rfl, by kernel_rfl⟩
theorem lit92 : litB Tryd.prog 92 9 1 := ⟨by kernel_rfl, _, _, rfl, by kernel_rfl, rfl, by kernel_rfl⟩
theorem map34 : mapB Tryd.prog 34 32 := ⟨_, rfl, rfl⟩
theorem mixed : Tryd.prog.follows .mixedOrders = true := by kernel_rfl
theorem one2 : oneB Tryd.prog 2 = true := by kernel_rfl
theorem one22 : oneB Tryd.prog 22 = true := by kernel_rfl
theorem one3 : oneB Tryd.prog 3 = true := by kernel_rfl
theorem one41 : oneB Tryd.prog 41 = true := by kernel_rfl
theorem one5 : oneB Tryd.prog 5 = true := by kernel_rfl
theorem one52 : oneB Tryd.prog 52 = true := by kernel_rfl
theorem one59 : oneB Tryd.prog 59 = true := by kernel_rfl
theorem one70 : oneB Tryd.prog 70 = true := by kernel_rfl
theorem one9 : oneB Tryd.prog 9 = true := by kernel_rfl
theorem one92 : oneB Tryd.prog 92 = true := by kernel_rfl
theorem size110 : sizeB Tryd.prog 110 10 = true := by kernel_rfl
theorem size2 : sizeB Tryd.prog 2 1 = true := by kernel_rfl
theorem size22 : sizeB Tryd.prog 22 1 = true := by kernel_rfl
theorem size3 : sizeB Tryd.prog 3 1 = true := by kernel_rfl
theorem size41 : sizeB Tryd.prog 41 1 = true := by kernel_rfl
theorem size46 : sizeB Tryd.prog 46 2 = true := by kernel_rfl
theorem size5 : sizeB Tryd.prog 5 1 = true := by kernel_rfl
theorem size52 : sizeB Tryd.prog 52 1 = true := by kernel_rfl
theorem size59 : sizeB Tryd.prog 59 1 = true := by kernel_rfl
theorem size68 : sizeB Tryd.prog 68 4 = true := by kernel_rfl
theorem size72 : sizeB Tryd.prog 72 4 = true := by kernel_rfl
theorem size9 : sizeB Tryd.prog 9 1 = true := by kernel_rfl
theorem size92 : sizeB Tryd.prog 92 1 = true := by kernel_rfl
theorem slice41 : sliceB Tryd.prog 41 46 2 32 := ⟨by kernel_rfl, by kernel_rfl, _, _, rfl, rfl, by kernel_rfl⟩
theorem slice52 : sliceB Tryd.prog 52 72 4 64 := ⟨by kernel_rfl, by kernel_rfl, _, _, rfl, rfl, by kernel_rfl⟩
theorem slice59 : sliceB Tryd.prog 59 68 4 40 := ⟨by kernel_rfl, by kernel_rfl, _, _, rfl, rfl, by kernel_rfl⟩
theorem u110 : Tryd.prog.underlying 110 = some (.array 10 92) := by kernel_rfl
theorem u112 : Tryd.prog.underlying 112 = some (.int .u64) := by kernel_rfl
theorem u113 : Tryd.prog.underlying 113 = some (.array 20 5) := by kernel_rfl
theorem u2 : Tryd.prog.underlying 2 = some (.int .i64) := by kernel_rfl
theorem u3 : Tryd.prog.underlying 3 = some (.int .i64) := by kernel_rfl
theorem u36 : Tryd.prog.underlying 36 = some (.int .u64) := by kernel_rfl
theorem u4 : Tryd.prog.underlying 4 = some (.bool) := by kernel_rfl
theorem u41 : Tryd.prog.underlying 41 = some (.slice 46) := by kernel_rfl
theorem u48 : Tryd.prog.underlying 48 = some (.slice 5) := by kernel_rfl
theorem u5 : Tryd.prog.underlying 5 = some (.int .u8) := by kernel_rfl
theorem u52 : Tryd.prog.underlying 52 = some (.slice 72) := by kernel_rfl
theorem u59 : Tryd.prog.underlying 59 = some (.slice 68) := by kernel_rfl
theorem u70 : Tryd.prog.underlying 70 = some (.slice 3) := by kernel_rfl
theorem u9 : Tryd.prog.underlying 9 = some (.string) := by kernel_rfl
theorem u92 : Tryd.prog.underlying 92 = some (.slice 9) := by kernel_rfl
theorem zagg110 : (Tryd.prog.info? 110).bind (·.zero) = some (.agg ⟨[.slice none 0 0, .slice none 0 0, .slice none 0 0, .slice none 0 0, .slice none 0 0, .slice none 0 0, .slice none 0 0, .slice none 0 0, .slice none 0 0, .slice none 0 0]⟩) := by kernel_rfl
theorem zero110 : zeroB Tryd.prog 110 [.slice none 0 0, .slice none 0 0, .slice none 0 0, .slice none 0 0, .slice none 0 0, .slice none 0 0, .slice none 0 0, .slice none 0 0, .slice none 0 0, .slice none 0 0] := ⟨_, _, rfl, rfl, by kernel_rfl⟩
theorem zero113 : zeroB Tryd.prog 113 [.int .u8 0, .int .u8 0, .int .u8 0, .int .u8 0, .int .u8 0, .int .u8 0, .int .u8 0, .int .u8 0, .int .u8 0, .int .u8 0, .int .u8 0, .int .u8 0, .int .u8 0, .int .u8 0, .int .u8 0, .int .u8 0, .int .u8 0, .int .u8 0, .int .u8 0, .int .u8 0] := ⟨_, _, rfl, rfl, by kernel_rfl⟩
theorem zero22 : zeroB Tryd.prog 22 [.int .i64 0] := ⟨_, _, rfl, rfl, by kernel_rfl⟩
theorem zero3 : zeroB Tryd.prog 3 [.int .i64 0] := ⟨_, _, rfl, rfl, by kernel_rfl⟩
theorem zero46 : zeroB Tryd.prog 46 [S [], S []] := ⟨_, _, rfl, rfl, by kernel_rfl⟩
theorem zero59 : zeroB Tryd.prog 59 [.slice none 0 0] := ⟨_, _, rfl, rfl, by kernel_rfl⟩
theorem zero68 : zeroB Tryd.prog 68 [.int .i64 0, .int .i64 0, S [], .int .i64 0] := ⟨_, _, rfl, rfl, by kernel_rfl⟩
theorem zero72 : zeroB Tryd.prog 72 [S [], .int .i64 0, S [], .slice none 0 0] := ⟨_, _, rfl, rfl, by kernel_rfl⟩
theorem zvn : zvB Tryd.prog 32 .nilFunc := ⟨_, rfl, rfl⟩
end Go.Proofs.YtmbbhgglllfelaaDoor.T
