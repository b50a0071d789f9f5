/- Facts of this translation's tables: sizes, places of fields, numbers of functions. -/
import Derived.Test.YtpelmhoocepenaaDoorKitS
import Derived.Test.YtpelmhoocepenaaDoorProg
import Derived.Shelf.Abstract
set_option autoImplicit false
set_option maxRecDepth 20000
namespace Go.Proofs.YtpelmhoocepenaaDoor.T
open Go Go.Proofs Go.Shelf Go.Proofs.YtpelmhoocepenaaDoor.K
theorem agg24 : aggB Tryd.prog 24 3 = true := by kernel_rfl
theorem agg39 : aggB Tryd.prog 39 6 = true := by kernel_rfl
theorem agg41 : aggB Tryd.prog 41 4 = true := by kernel_rfl
theorem agg65 : aggB Tryd.prog 65 2 = true := by kernel_rfl
theorem bld24 : bldB Tryd.prog 24 [(0, 1), (1, 1), (2, 1)] [.slice none 0 0, .int .i64 0, .int .i64 0] := ⟨_, rfl, by kernel_rfl, by kernel_rfl⟩
theorem bld39 : bldB Tryd.prog 39 [(0, 1), (1, 1), (2, 1), (3, 1), (4, 1), (5, 1)] [.int .i64 0, .int .i64 0, .int .i64 0, S [], .slice none 0 0, .int .i64 0] := ⟨_, rfl, by kernel_rfl, by kernel_rfl⟩
theorem bld41 : bldB Tryd.prog 41 [(0, 3), (3, 1)] [.slice none 0 0, .int .i64 0, .int .i64 0, .int .i64 0] := ⟨_, rfl, by kernel_rfl, by kernel_rfl⟩
theorem bld91 : bldB Tryd.prog 91 [(0, 3), (3, 1), (4, 1), (5, 1)] [.slice none 0 0, .int .i64 0, .int .i64 0, .int .i64 0, .slice none 0 0, .int .i64 0] := ⟨_, rfl, by kernel_rfl, by kernel_rfl⟩
theorem ent10 : ∀ args (w : World), (callFunc 10 args).run Tryd.prog w = .ok (.enter 10 args) w := enters_of Tryd.func10 (by kernel_rfl) rfl
theorem ent11 : ∀ args (w : World), (callFunc 11 args).run Tryd.prog w = .ok (.enter 11 args) w := enters_of Tryd.func11 (by kernel_rfl) rfl
theorem ent13 : ∀ args (w : World), (callFunc 13 args).run Tryd.prog w = .ok (.enter 13 args) w := enters_of Tryd.func13 (by kernel_rfl) rfl
theorem ent14 : ∀ args (w : World), (callFunc 14 args).run Tryd.prog w = .ok (.enter 14 args) w := enters_of Tryd.func14 (by kernel_rfl) rfl
theorem ent15 : ∀ args (w : World), (callFunc 15 args).run Tryd.prog w = .ok (.enter 15 args) w := enters_of Tryd.func15 (by kernel_rfl) rfl
theorem ent16 : ∀ args (w : World), (callFunc 16 args).run Tryd.prog w = .ok (.enter 16 args) w := enters_of Tryd.func16 (by kernel_rfl) rfl
theorem ent17 : ∀ args (w : World), (callFunc 17 args).run Tryd.prog w = .ok (.enter 17 args) w := enters_of Tryd.func17 (by kernel_rfl) rfl
theorem ent18 : ∀ args (w : World), (callFunc 18 args).run Tryd.prog w = .ok (.enter 18 args) w := enters_of Tryd.func18 (by kernel_rfl) rfl
theorem ent19 : ∀ args (w : World), (callFunc 19 args).run Tryd.prog w = .ok (.enter 19 args) w := enters_of Tryd.func19 (by kernel_rfl) rfl
theorem ent20 : ∀ args (w : World), (callFunc 20 args).run Tryd.prog w = .ok (.enter 20 args) w := enters_of Tryd.func20 (by kernel_rfl) rfl
theorem ent21 : ∀ args (w : World), (callFunc 21 args).run Tryd.prog w = .ok (.enter 21 args) w := enters_of Tryd.func21 (by kernel_rfl) rfl
theorem ent22 : ∀ args (w : World), (callFunc 22 args).run Tryd.prog w = .ok (.enter 22 args) w := enters_of Tryd.func22 (by kernel_rfl) rfl
theorem ent23 : ∀ args (w : World), (callFunc 23 args).run Tryd.prog w = .ok (.enter 23 args) w := enters_of Tryd.func23 (by kernel_rfl) rfl
theorem ent24 : ∀ args (w : World), (callFunc 24 args).run Tryd.prog w = .ok (.enter 24 args) w := enters_of Tryd.func24 (by kernel_rfl) rfl
theorem ent25 : ∀ args (w : World), (callFunc 25 args).run Tryd.prog w = .ok (.enter 25 args) w := enters_of Tryd.func25 (by kernel_rfl) rfl
theorem ent26 : ∀ args (w : World), (callFunc 26 args).run Tryd.prog w = .ok (.enter 26 args) w := enters_of Tryd.func26 (by kernel_rfl) rfl
theorem ent27 : ∀ args (w : World), (callFunc 27 args).run Tryd.prog w = .ok (.enter 27 args) w := enters_of Tryd.func27 (by kernel_rfl) rfl
theorem ent28 : ∀ args (w : World), (callFunc 28 args).run Tryd.prog w = .ok (.enter 28 args) w := enters_of Tryd.func28 (by kernel_rfl) rfl
theorem ent29 : ∀ args (w : World), (callFunc 29 args).run Tryd.prog w = .ok (.enter 29 args) w := enters_of Tryd.func29 (by kernel_rfl) rfl
theorem ent30 : ∀ args (w : World), (callFunc 30 args).run Tryd.prog w = .ok (.enter 30 args) w := enters_of Tryd.func30 (by kernel_rfl) rfl
theorem ent31 : ∀ args (w : World), (callFunc 31 args).run Tryd.prog w = .ok (.enter 31 args) w := enters_of Tryd.func31 (by kernel_rfl) rfl
theorem ent32 : ∀ args (w : World), (callFunc 32 args).run Tryd.prog w = .ok (.enter 32 args) w := enters_of Tryd.func32 (by kernel_rfl) rfl
theorem ent33 : ∀ args (w : World), (callFunc 33 args).run Tryd.prog w = .ok (.enter 33 args) w := enters_of Tryd.func33 (by kernel_rfl) rfl
theorem ent34 : ∀ args (w : World), (callFunc 34 args).run Tryd.prog w = .ok (.enter 34 args) w := enters_of Tryd.func34 (by kernel_rfl) rfl
theorem ent35 : ∀ args (w : World), (callFunc 35 args).run Tryd.prog w = .ok (.enter 35 args) w := enters_of Tryd.func35 (by kernel_rfl) rfl
theorem ent36 : ∀ args (w : World), (callFunc 36 args).run Tryd.prog w = .ok (.enter 36 args) w := enters_of Tryd.func36 (by kernel_rfl) rfl
theorem ent37 : ∀ args (w : World), (callFunc 37 args).run Tryd.prog w = .ok (.enter 37 args) w := enters_of Tryd.func37 (by kernel_rfl) rfl
theorem ent38 : ∀ args (w : World), (callFunc 38 args).run Tryd.prog w = .ok (.enter 38 args) w := enters_of Tryd.func38 (by kernel_rfl) rfl
theorem ent39 : ∀ args (w : World), (callFunc 39 args).run Tryd.prog w = .ok (.enter 39 args) w := enters_of Tryd.func39 (by kernel_rfl) rfl
theorem ent40 : ∀ args (w : World), (callFunc 40 args).run Tryd.prog w = .ok (.enter 40 args) w := enters_of Tryd.func40 (by kernel_rfl) rfl
theorem ent41 : ∀ args (w : World), (callFunc 41 args).run Tryd.prog w = .ok (.enter 41 args) w := enters_of Tryd.func41 (by kernel_rfl) rfl
theorem ent42 : ∀ args (w : World), (callFunc 42 args).run Tryd.prog w = .ok (.enter 42 args) w := enters_of Tryd.func42 (by kernel_rfl) rfl
theorem ent43 : ∀ args (w : World), (callFunc 43 args).run Tryd.prog w = .ok (.enter 43 args) w := enters_of Tryd.func43 (by kernel_rfl) rfl
theorem ent46 : ∀ args (w : World), (callFunc 46 args).run Tryd.prog w = .ok (.enter 46 args) w := enters_of Tryd.func46 (by kernel_rfl) rfl
theorem ent47 : ∀ args (w : World), (callFunc 47 args).run Tryd.prog w = .ok (.enter 47 args) w := enters_of Tryd.func47 (by kernel_rfl) rfl
theorem ent49 : ∀ args (w : World), (callFunc 49 args).run Tryd.prog w = .ok (.enter 49 args) w := enters_of Tryd.func49 (by kernel_rfl) rfl
theorem ent50 : ∀ args (w : World), (callFunc 50 args).run Tryd.prog w = .ok (.enter 50 args) w := enters_of Tryd.func50 (by kernel_rfl) rfl
theorem ent51 : ∀ args (w : World), (callFunc 51 args).run Tryd.prog w = .ok (.enter 51 args) w := enters_of Tryd.func51 (by kernel_rfl) rfl
theorem ent52 : ∀ args (w : World), (callFunc 52 args).run Tryd.prog w = .ok (.enter 52 args) w := enters_of Tryd.func52 (by kernel_rfl) rfl
theorem ent53 : ∀ args (w : World), (callFunc 53 args).run Tryd.prog w = .ok (.enter 53 args) w := enters_of Tryd.func53 (by kernel_rfl) rfl
theorem ent56 : ∀ args (w : World), (callFunc 56 args).run Tryd.prog w = .ok (.enter 56 args) w := enters_of Tryd.func56 (by kernel_rfl) rfl
theorem ent57 : ∀ args (w : World), (callFunc 57 args).run Tryd.prog w = .ok (.enter 57 args) w := enters_of Tryd.func57 (by kernel_rfl) rfl
theorem ent58 : ∀ args (w : World), (callFunc 58 args).run Tryd.prog w = .ok (.enter 58 args) w := enters_of Tryd.func58 (by kernel_rfl) rfl
theorem ent6 : ∀ args (w : World), (callFunc 6 args).run Tryd.prog w = .ok (.enter 6 args) w := enters_of Tryd.func6 (by kernel_rfl) rfl
theorem ent60 : ∀ args (w : World), (callFunc 60 args).run Tryd.prog w = .ok (.enter 60 args) w := enters_of Tryd.func60 (by kernel_rfl) rfl
theorem ent61 : ∀ args (w : World), (callFunc 61 args).run Tryd.prog w = .ok (.enter 61 args) w := enters_of Tryd.func61 (by kernel_rfl) rfl
theorem ent65 : ∀ args (w : World), (callFunc 65 args).run Tryd.prog w = .ok (.enter 65 args) w := enters_of Tryd.func65 (by kernel_rfl) rfl
theorem ent66 : ∀ args (w : World), (callFunc 66 args).run Tryd.prog w = .ok (.enter 66 args) w := enters_of Tryd.func66 (by kernel_rfl) rfl
theorem ent67 : ∀ args (w : World), (callFunc 67 args).run Tryd.prog w = .ok (.enter 67 args) w := enters_of Tryd.func67 (by kernel_rfl) rfl
theorem ent68 : ∀ args (w : World), (callFunc 68 args).run Tryd.prog w = .ok (.enter 68 args) w := enters_of Tryd.func68 (by kernel_rfl) rfl
theorem ent69 : ∀ args (w : World), (callFunc 69 args).run Tryd.prog w = .ok (.enter 69 args) w := enters_of Tryd.func69 (by kernel_rfl) rfl
theorem ent70 : ∀ args (w : World), (callFunc 70 args).run Tryd.prog w = .ok (.enter 70 args) w := enters_of Tryd.func70 (by kernel_rfl) rfl
theorem ent71 : ∀ args (w : World), (callFunc 71 args).run Tryd.prog w = .ok (.enter 71 args) w := enters_of Tryd.func71 (by kernel_rfl) rfl
theorem ent72 : ∀ args (w : World), (callFunc 72 args).run Tryd.prog w = .ok (.enter 72 args) w := enters_of Tryd.func72 (by kernel_rfl) rfl
theorem ent73 : ∀ args (w : World), (callFunc 73 args).run Tryd.prog w = .ok (.enter 73 args) w := enters_of Tryd.func73 (by kernel_rfl) rfl
theorem ent74 : ∀ args (w : World), (callFunc 74 args).run Tryd.prog w = .ok (.enter 74 args) w := enters_of Tryd.func74 (by kernel_rfl) rfl
theorem ent75 : ∀ args (w : World), (callFunc 75 args).run Tryd.prog w = .ok (.enter 75 args) w := enters_of Tryd.func75 (by kernel_rfl) rfl
theorem ent76 : ∀ args (w : World), (callFunc 76 args).run Tryd.prog w = .ok (.enter 76 args) w := enters_of Tryd.func76 (by kernel_rfl) rfl
theorem ent77 : ∀ args (w : World), (callFunc 77 args).run Tryd.prog w = .ok (.enter 77 args) w := enters_of Tryd.func77 (by kernel_rfl) rfl
theorem ent78 : ∀ args (w : World), (callFunc 78 args).run Tryd.prog w = .ok (.enter 78 args) w := enters_of Tryd.func78 (by kernel_rfl) rfl
theorem ent79 : ∀ args (w : World), (callFunc 79 args).run Tryd.prog w = .ok (.enter 79 args) w := enters_of Tryd.func79 (by kernel_rfl) rfl
theorem ent8 : ∀ args (w : World), (callFunc 8 args).run Tryd.prog w = .ok (.enter 8 args) w := enters_of Tryd.func8 (by kernel_rfl) rfl
theorem ent80 : ∀ args (w : World), (callFunc 80 args).run Tryd.prog w = .ok (.enter 80 args) w := enters_of Tryd.func80 (by kernel_rfl) rfl
theorem fld24_0 : fldB Tryd.prog 24 0 0 = true := by kernel_rfl
theorem fld24_1 : fldB Tryd.prog 24 1 1 = true := by kernel_rfl
theorem fld24_2 : fldB Tryd.prog 24 2 2 = true := by kernel_rfl
theorem fld39_0 : fldB Tryd.prog 39 0 0 = true := by kernel_rfl
theorem fld39_1 : fldB Tryd.prog 39 1 1 = true := by kernel_rfl
theorem fld39_2 : fldB Tryd.prog 39 2 2 = true := by kernel_rfl
theorem fld39_3 : fldB Tryd.prog 39 3 3 = true := by kernel_rfl
theorem fld39_4 : fldB Tryd.prog 39 4 4 = true := by kernel_rfl
theorem fld39_5 : fldB Tryd.prog 39 5 5 = true := by kernel_rfl
theorem fld41_0 : fldB Tryd.prog 41 0 0 = true := by kernel_rfl
theorem fld41_1 : fldB Tryd.prog 41 1 3 = true := by kernel_rfl
theorem fld65_0 : fldB Tryd.prog 65 0 0 = true := by kernel_rfl
theorem fld65_1 : fldB Tryd.prog 65 1 1 = true := by kernel_rfl
theorem fld91_0 : fldB Tryd.prog 91 0 0 = true := by kernel_rfl
theorem fld91_1 : fldB Tryd.prog 91 1 3 = true := by kernel_rfl
theorem fld91_2 : fldB Tryd.prog 91 2 4 = true := by kernel_rfl
theorem fld91_3 : fldB Tryd.prog 91 3 5 = true := by kernel_rfl
theorem lit29 : litB Tryd.prog 29 9 1 := ⟨by kernel_rfl, _, _, rfl, by kernel_rfl, rfl, by kernel_rfl⟩
theorem map63 : mapB Tryd.prog 63 4 := ⟨_, rfl, rfl⟩
theorem mixed : Tryd.prog.follows .mixedOrders = true := by kernel_rfl
theorem mk3 : (Tryd.prog.info? 3).any (fun i => Nat.beq (i.size) 1 && Nat.ble i.bytes 1000000) = true := by kernel_rfl
theorem one22 : oneB Tryd.prog 22 = true := by kernel_rfl
theorem one29 : oneB Tryd.prog 29 = true := by kernel_rfl
theorem one3 : oneB Tryd.prog 3 = true := by kernel_rfl
theorem one37 : oneB Tryd.prog 37 = true := by kernel_rfl
theorem one4 : oneB Tryd.prog 4 = true := by kernel_rfl
theorem one42 : oneB Tryd.prog 42 = true := by kernel_rfl
theorem one5 : oneB Tryd.prog 5 = true := by kernel_rfl
theorem one66 : oneB Tryd.prog 66 = true := by kernel_rfl
theorem one78 : oneB Tryd.prog 78 = true := by kernel_rfl
theorem one9 : oneB Tryd.prog 9 = true := by kernel_rfl
theorem size24 : sizeB Tryd.prog 24 3 = true := by kernel_rfl
theorem size29 : sizeB Tryd.prog 29 1 = true := by kernel_rfl
theorem size3 : sizeB Tryd.prog 3 1 = true := by kernel_rfl
theorem size39 : sizeB Tryd.prog 39 6 = true := by kernel_rfl
theorem size41 : sizeB Tryd.prog 41 4 = true := by kernel_rfl
theorem size42 : sizeB Tryd.prog 42 1 = true := by kernel_rfl
theorem size43 : sizeB Tryd.prog 43 5 = true := by kernel_rfl
theorem size5 : sizeB Tryd.prog 5 1 = true := by kernel_rfl
theorem size65 : sizeB Tryd.prog 65 2 = true := by kernel_rfl
theorem size66 : sizeB Tryd.prog 66 1 = true := by kernel_rfl
theorem size9 : sizeB Tryd.prog 9 1 = true := by kernel_rfl
theorem slice29 : sliceB Tryd.prog 29 9 1 16 := ⟨by kernel_rfl, by kernel_rfl, _, _, rfl, rfl, by kernel_rfl⟩
theorem u2 : Tryd.prog.underlying 2 = some (.int .i64) := by kernel_rfl
theorem u22 : Tryd.prog.underlying 22 = some (.slice 39) := by kernel_rfl
theorem u29 : Tryd.prog.underlying 29 = some (.slice 9) := by kernel_rfl
theorem u3 : Tryd.prog.underlying 3 = some (.int .i64) := by kernel_rfl
theorem u37 : Tryd.prog.underlying 37 = some (.slice 65) := by kernel_rfl
theorem u4 : Tryd.prog.underlying 4 = some (.bool) := by kernel_rfl
theorem u43 : Tryd.prog.underlying 43 = some (.array 5 42) := by kernel_rfl
theorem u49 : Tryd.prog.underlying 49 = some (.slice 3) := by kernel_rfl
theorem u5 : Tryd.prog.underlying 5 = some (.int .u8) := by kernel_rfl
theorem u53 : Tryd.prog.underlying 53 = some (.array 3 3) := by kernel_rfl
theorem u75 : Tryd.prog.underlying 75 = some (.slice 5) := by kernel_rfl
theorem u83 : Tryd.prog.underlying 83 = some (.int .u64) := by kernel_rfl
theorem u9 : Tryd.prog.underlying 9 = some (.string) := by kernel_rfl
theorem zagg43 : (Tryd.prog.info? 43).bind (·.zero) = some (.agg ⟨[.nilFunc, .nilFunc, .nilFunc, .nilFunc, .nilFunc]⟩) := by kernel_rfl
theorem zagg53 : (Tryd.prog.info? 53).bind (·.zero) = some (.agg ⟨[.int .i64 0, .int .i64 0, .int .i64 0]⟩) := by kernel_rfl
theorem zero24 : zeroB Tryd.prog 24 [.slice none 0 0, .int .i64 0, .int .i64 0] := ⟨_, _, rfl, rfl, by kernel_rfl⟩
theorem zero3 : zeroB Tryd.prog 3 [.int .i64 0] := ⟨_, _, rfl, rfl, by kernel_rfl⟩
theorem zero39 : zeroB Tryd.prog 39 [.int .i64 0, .int .i64 0, .int .i64 0, S [], .slice none 0 0, .int .i64 0] := ⟨_, _, rfl, rfl, by kernel_rfl⟩
theorem zero41 : zeroB Tryd.prog 41 [.slice none 0 0, .int .i64 0, .int .i64 0, .int .i64 0] := ⟨_, _, rfl, rfl, by kernel_rfl⟩
theorem zero43 : zeroB Tryd.prog 43 [.nilFunc, .nilFunc, .nilFunc, .nilFunc, .nilFunc] := ⟨_, _, rfl, rfl, by kernel_rfl⟩
theorem zero66 : zeroB Tryd.prog 66 [.int .i64 0] := ⟨_, _, rfl, rfl, by kernel_rfl⟩
theorem zvm63 : zvB Tryd.prog 4 (.bool false) := ⟨_, rfl, rfl⟩
end Go.Proofs.YtpelmhoocepenaaDoor.T
