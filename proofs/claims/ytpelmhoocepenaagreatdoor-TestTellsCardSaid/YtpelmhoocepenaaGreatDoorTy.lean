/- Facts of this translation's tables: sizes, places of fields, numbers of functions. -/
import Derived.Test.YtpelmhoocepenaaGreatDoorKitS
import Derived.Test.YtpelmhoocepenaaGreatDoorProg
import Derived.Shelf.Abstract
set_option autoImplicit false
set_option maxRecDepth 20000
namespace Go.Proofs.YtpelmhoocepenaaGreatDoor.T
open Go Go.Proofs Go.Shelf Go.Proofs.YtpelmhoocepenaaGreatDoor.K
theorem agg24 : aggB Tryz.prog 24 3 = true := by kernel_rfl
theorem agg34 : aggB Tryz.prog 34 4 = true := by kernel_rfl
theorem agg44 : aggB Tryz.prog 44 6 = true := by kernel_rfl
theorem agg56 : aggB Tryz.prog 56 2 = true := by kernel_rfl
theorem bld24 : bldB Tryz.prog 24 [(0, 1), (1, 1), (2, 1)] [.slice none 0 0, .int .i64 0, .int .i64 0] := ⟨_, rfl, by kernel_rfl, by kernel_rfl⟩
theorem bld34 : bldB Tryz.prog 34 [(0, 3), (3, 1)] [.slice none 0 0, .int .i64 0, .int .i64 0, .int .i64 0] := ⟨_, rfl, by kernel_rfl, by kernel_rfl⟩
theorem bld44 : bldB Tryz.prog 44 [(0, 1), (1, 1), (2, 1), (3, 1), (4, 1), (5, 1)] [.int .i64 0, .int .i64 0, .int .i64 0, S [], .slice none 0 0, .int .i64 0] := ⟨_, rfl, by kernel_rfl, by kernel_rfl⟩
theorem bld95 : bldB Tryz.prog 95 [(0, 3), (3, 1), (4, 1), (5, 1)] [.slice none 0 0, .int .i64 0, .int .i64 0, .int .i64 0, .slice none 0 0, .int .i64 0] := ⟨_, rfl, by kernel_rfl, by kernel_rfl⟩
theorem ent10 : ∀ args (w : World), (callFunc 10 args).run Tryz.prog w = .ok (.enter 10 args) w := enters_of Tryz.func10 (by kernel_rfl) rfl
theorem ent11 : ∀ args (w : World), (callFunc 11 args).run Tryz.prog w = .ok (.enter 11 args) w := enters_of Tryz.func11 (by kernel_rfl) rfl
theorem ent12 : ∀ args (w : World), (callFunc 12 args).run Tryz.prog w = .ok (.enter 12 args) w := enters_of Tryz.func12 (by kernel_rfl) rfl
theorem ent13 : ∀ args (w : World), (callFunc 13 args).run Tryz.prog w = .ok (.enter 13 args) w := enters_of Tryz.func13 (by kernel_rfl) rfl
theorem ent14 : ∀ args (w : World), (callFunc 14 args).run Tryz.prog w = .ok (.enter 14 args) w := enters_of Tryz.func14 (by kernel_rfl) rfl
theorem ent15 : ∀ args (w : World), (callFunc 15 args).run Tryz.prog w = .ok (.enter 15 args) w := enters_of Tryz.func15 (by kernel_rfl) rfl
theorem ent16 : ∀ args (w : World), (callFunc 16 args).run Tryz.prog w = .ok (.enter 16 args) w := enters_of Tryz.func16 (by kernel_rfl) rfl
theorem ent17 : ∀ args (w : World), (callFunc 17 args).run Tryz.prog w = .ok (.enter 17 args) w := enters_of Tryz.func17 (by kernel_rfl) rfl
theorem ent18 : ∀ args (w : World), (callFunc 18 args).run Tryz.prog w = .ok (.enter 18 args) w := enters_of Tryz.func18 (by kernel_rfl) rfl
theorem ent19 : ∀ args (w : World), (callFunc 19 args).run Tryz.prog w = .ok (.enter 19 args) w := enters_of Tryz.func19 (by kernel_rfl) rfl
theorem ent20 : ∀ args (w : World), (callFunc 20 args).run Tryz.prog w = .ok (.enter 20 args) w := enters_of Tryz.func20 (by kernel_rfl) rfl
theorem ent21 : ∀ args (w : World), (callFunc 21 args).run Tryz.prog w = .ok (.enter 21 args) w := enters_of Tryz.func21 (by kernel_rfl) rfl
theorem ent22 : ∀ args (w : World), (callFunc 22 args).run Tryz.prog w = .ok (.enter 22 args) w := enters_of Tryz.func22 (by kernel_rfl) rfl
theorem ent23 : ∀ args (w : World), (callFunc 23 args).run Tryz.prog w = .ok (.enter 23 args) w := enters_of Tryz.func23 (by kernel_rfl) rfl
theorem ent24 : ∀ args (w : World), (callFunc 24 args).run Tryz.prog w = .ok (.enter 24 args) w := enters_of Tryz.func24 (by kernel_rfl) rfl
theorem ent25 : ∀ args (w : World), (callFunc 25 args).run Tryz.prog w = .ok (.enter 25 args) w := enters_of Tryz.func25 (by kernel_rfl) rfl
theorem ent26 : ∀ args (w : World), (callFunc 26 args).run Tryz.prog w = .ok (.enter 26 args) w := enters_of Tryz.func26 (by kernel_rfl) rfl
theorem ent27 : ∀ args (w : World), (callFunc 27 args).run Tryz.prog w = .ok (.enter 27 args) w := enters_of Tryz.func27 (by kernel_rfl) rfl
theorem ent28 : ∀ args (w : World), (callFunc 28 args).run Tryz.prog w = .ok (.enter 28 args) w := enters_of Tryz.func28 (by kernel_rfl) rfl
theorem ent29 : ∀ args (w : World), (callFunc 29 args).run Tryz.prog w = .ok (.enter 29 args) w := enters_of Tryz.func29 (by kernel_rfl) rfl
theorem ent30 : ∀ args (w : World), (callFunc 30 args).run Tryz.prog w = .ok (.enter 30 args) w := enters_of Tryz.func30 (by kernel_rfl) rfl
theorem ent31 : ∀ args (w : World), (callFunc 31 args).run Tryz.prog w = .ok (.enter 31 args) w := enters_of Tryz.func31 (by kernel_rfl) rfl
theorem ent32 : ∀ args (w : World), (callFunc 32 args).run Tryz.prog w = .ok (.enter 32 args) w := enters_of Tryz.func32 (by kernel_rfl) rfl
theorem ent33 : ∀ args (w : World), (callFunc 33 args).run Tryz.prog w = .ok (.enter 33 args) w := enters_of Tryz.func33 (by kernel_rfl) rfl
theorem ent34 : ∀ args (w : World), (callFunc 34 args).run Tryz.prog w = .ok (.enter 34 args) w := enters_of Tryz.func34 (by kernel_rfl) rfl
theorem ent35 : ∀ args (w : World), (callFunc 35 args).run Tryz.prog w = .ok (.enter 35 args) w := enters_of Tryz.func35 (by kernel_rfl) rfl
theorem ent36 : ∀ args (w : World), (callFunc 36 args).run Tryz.prog w = .ok (.enter 36 args) w := enters_of Tryz.func36 (by kernel_rfl) rfl
theorem ent37 : ∀ args (w : World), (callFunc 37 args).run Tryz.prog w = .ok (.enter 37 args) w := enters_of Tryz.func37 (by kernel_rfl) rfl
theorem ent38 : ∀ args (w : World), (callFunc 38 args).run Tryz.prog w = .ok (.enter 38 args) w := enters_of Tryz.func38 (by kernel_rfl) rfl
theorem ent39 : ∀ args (w : World), (callFunc 39 args).run Tryz.prog w = .ok (.enter 39 args) w := enters_of Tryz.func39 (by kernel_rfl) rfl
theorem ent4 : ∀ args (w : World), (callFunc 4 args).run Tryz.prog w = .ok (.enter 4 args) w := enters_of Tryz.func4 (by kernel_rfl) rfl
theorem ent40 : ∀ args (w : World), (callFunc 40 args).run Tryz.prog w = .ok (.enter 40 args) w := enters_of Tryz.func40 (by kernel_rfl) rfl
theorem ent41 : ∀ args (w : World), (callFunc 41 args).run Tryz.prog w = .ok (.enter 41 args) w := enters_of Tryz.func41 (by kernel_rfl) rfl
theorem ent42 : ∀ args (w : World), (callFunc 42 args).run Tryz.prog w = .ok (.enter 42 args) w := enters_of Tryz.func42 (by kernel_rfl) rfl
theorem ent43 : ∀ args (w : World), (callFunc 43 args).run Tryz.prog w = .ok (.enter 43 args) w := enters_of Tryz.func43 (by kernel_rfl) rfl
theorem ent44 : ∀ args (w : World), (callFunc 44 args).run Tryz.prog w = .ok (.enter 44 args) w := enters_of Tryz.func44 (by kernel_rfl) rfl
theorem ent45 : ∀ args (w : World), (callFunc 45 args).run Tryz.prog w = .ok (.enter 45 args) w := enters_of Tryz.func45 (by kernel_rfl) rfl
theorem ent46 : ∀ args (w : World), (callFunc 46 args).run Tryz.prog w = .ok (.enter 46 args) w := enters_of Tryz.func46 (by kernel_rfl) rfl
theorem ent47 : ∀ args (w : World), (callFunc 47 args).run Tryz.prog w = .ok (.enter 47 args) w := enters_of Tryz.func47 (by kernel_rfl) rfl
theorem ent48 : ∀ args (w : World), (callFunc 48 args).run Tryz.prog w = .ok (.enter 48 args) w := enters_of Tryz.func48 (by kernel_rfl) rfl
theorem ent49 : ∀ args (w : World), (callFunc 49 args).run Tryz.prog w = .ok (.enter 49 args) w := enters_of Tryz.func49 (by kernel_rfl) rfl
theorem ent5 : ∀ args (w : World), (callFunc 5 args).run Tryz.prog w = .ok (.enter 5 args) w := enters_of Tryz.func5 (by kernel_rfl) rfl
theorem ent50 : ∀ args (w : World), (callFunc 50 args).run Tryz.prog w = .ok (.enter 50 args) w := enters_of Tryz.func50 (by kernel_rfl) rfl
theorem ent51 : ∀ args (w : World), (callFunc 51 args).run Tryz.prog w = .ok (.enter 51 args) w := enters_of Tryz.func51 (by kernel_rfl) rfl
theorem ent52 : ∀ args (w : World), (callFunc 52 args).run Tryz.prog w = .ok (.enter 52 args) w := enters_of Tryz.func52 (by kernel_rfl) rfl
theorem ent53 : ∀ args (w : World), (callFunc 53 args).run Tryz.prog w = .ok (.enter 53 args) w := enters_of Tryz.func53 (by kernel_rfl) rfl
theorem ent54 : ∀ args (w : World), (callFunc 54 args).run Tryz.prog w = .ok (.enter 54 args) w := enters_of Tryz.func54 (by kernel_rfl) rfl
theorem ent55 : ∀ args (w : World), (callFunc 55 args).run Tryz.prog w = .ok (.enter 55 args) w := enters_of Tryz.func55 (by kernel_rfl) rfl
theorem ent56 : ∀ args (w : World), (callFunc 56 args).run Tryz.prog w = .ok (.enter 56 args) w := enters_of Tryz.func56 (by kernel_rfl) rfl
theorem ent59 : ∀ args (w : World), (callFunc 59 args).run Tryz.prog w = .ok (.enter 59 args) w := enters_of Tryz.func59 (by kernel_rfl) rfl
theorem ent6 : ∀ args (w : World), (callFunc 6 args).run Tryz.prog w = .ok (.enter 6 args) w := enters_of Tryz.func6 (by kernel_rfl) rfl
theorem ent60 : ∀ args (w : World), (callFunc 60 args).run Tryz.prog w = .ok (.enter 60 args) w := enters_of Tryz.func60 (by kernel_rfl) rfl
theorem ent62 : ∀ args (w : World), (callFunc 62 args).run Tryz.prog w = .ok (.enter 62 args) w := enters_of Tryz.func62 (by kernel_rfl) rfl
theorem ent63 : ∀ args (w : World), (callFunc 63 args).run Tryz.prog w = .ok (.enter 63 args) w := enters_of Tryz.func63 (by kernel_rfl) rfl
theorem ent64 : ∀ args (w : World), (callFunc 64 args).run Tryz.prog w = .ok (.enter 64 args) w := enters_of Tryz.func64 (by kernel_rfl) rfl
theorem ent65 : ∀ args (w : World), (callFunc 65 args).run Tryz.prog w = .ok (.enter 65 args) w := enters_of Tryz.func65 (by kernel_rfl) rfl
theorem ent66 : ∀ args (w : World), (callFunc 66 args).run Tryz.prog w = .ok (.enter 66 args) w := enters_of Tryz.func66 (by kernel_rfl) rfl
theorem ent67 : ∀ args (w : World), (callFunc 67 args).run Tryz.prog w = .ok (.enter 67 args) w := enters_of Tryz.func67 (by kernel_rfl) rfl
theorem ent68 : ∀ args (w : World), (callFunc 68 args).run Tryz.prog w = .ok (.enter 68 args) w := enters_of Tryz.func68 (by kernel_rfl) rfl
theorem ent7 : ∀ args (w : World), (callFunc 7 args).run Tryz.prog w = .ok (.enter 7 args) w := enters_of Tryz.func7 (by kernel_rfl) rfl
theorem ent71 : ∀ args (w : World), (callFunc 71 args).run Tryz.prog w = .ok (.enter 71 args) w := enters_of Tryz.func71 (by kernel_rfl) rfl
theorem ent72 : ∀ args (w : World), (callFunc 72 args).run Tryz.prog w = .ok (.enter 72 args) w := enters_of Tryz.func72 (by kernel_rfl) rfl
theorem ent73 : ∀ args (w : World), (callFunc 73 args).run Tryz.prog w = .ok (.enter 73 args) w := enters_of Tryz.func73 (by kernel_rfl) rfl
theorem ent74 : ∀ args (w : World), (callFunc 74 args).run Tryz.prog w = .ok (.enter 74 args) w := enters_of Tryz.func74 (by kernel_rfl) rfl
theorem ent76 : ∀ args (w : World), (callFunc 76 args).run Tryz.prog w = .ok (.enter 76 args) w := enters_of Tryz.func76 (by kernel_rfl) rfl
theorem ent77 : ∀ args (w : World), (callFunc 77 args).run Tryz.prog w = .ok (.enter 77 args) w := enters_of Tryz.func77 (by kernel_rfl) rfl
theorem ent8 : ∀ args (w : World), (callFunc 8 args).run Tryz.prog w = .ok (.enter 8 args) w := enters_of Tryz.func8 (by kernel_rfl) rfl
theorem ent81 : ∀ args (w : World), (callFunc 81 args).run Tryz.prog w = .ok (.enter 81 args) w := enters_of Tryz.func81 (by kernel_rfl) rfl
theorem ent82 : ∀ args (w : World), (callFunc 82 args).run Tryz.prog w = .ok (.enter 82 args) w := enters_of Tryz.func82 (by kernel_rfl) rfl
theorem ent83 : ∀ args (w : World), (callFunc 83 args).run Tryz.prog w = .ok (.enter 83 args) w := enters_of Tryz.func83 (by kernel_rfl) rfl
theorem ent84 : ∀ args (w : World), (callFunc 84 args).run Tryz.prog w = .ok (.enter 84 args) w := enters_of Tryz.func84 (by kernel_rfl) rfl
theorem ent85 : ∀ args (w : World), (callFunc 85 args).run Tryz.prog w = .ok (.enter 85 args) w := enters_of Tryz.func85 (by kernel_rfl) rfl
theorem ent86 : ∀ args (w : World), (callFunc 86 args).run Tryz.prog w = .ok (.enter 86 args) w := enters_of Tryz.func86 (by kernel_rfl) rfl
theorem ent87 : ∀ args (w : World), (callFunc 87 args).run Tryz.prog w = .ok (.enter 87 args) w := enters_of Tryz.func87 (by kernel_rfl) rfl
theorem ent88 : ∀ args (w : World), (callFunc 88 args).run Tryz.prog w = .ok (.enter 88 args) w := enters_of Tryz.func88 (by kernel_rfl) rfl
theorem ent89 : ∀ args (w : World), (callFunc 89 args).run Tryz.prog w = .ok (.enter 89 args) w := enters_of Tryz.func89 (by kernel_rfl) rfl
theorem ent9 : ∀ args (w : World), (callFunc 9 args).run Tryz.prog w = .ok (.enter 9 args) w := enters_of Tryz.func9 (by kernel_rfl) rfl
theorem ent90 : ∀ args (w : World), (callFunc 90 args).run Tryz.prog w = .ok (.enter 90 args) w := enters_of Tryz.func90 (by kernel_rfl) rfl
theorem ent91 : ∀ args (w : World), (callFunc 91 args).run Tryz.prog w = .ok (.enter 91 args) w := enters_of Tryz.func91 (by kernel_rfl) rfl
theorem ent92 : ∀ args (w : World), (callFunc 92 args).run Tryz.prog w = .ok (.enter 92 args) w := enters_of Tryz.func92 (by kernel_rfl) rfl
theorem ent93 : ∀ args (w : World), (callFunc 93 args).run Tryz.prog w = .ok (.enter 93 args) w := enters_of Tryz.func93 (by kernel_rfl) rfl
theorem ent94 : ∀ args (w : World), (callFunc 94 args).run Tryz.prog w = .ok (.enter 94 args) w := enters_of Tryz.func94 (by kernel_rfl) rfl
theorem ent95 : ∀ args (w : World), (callFunc 95 args).run Tryz.prog w = .ok (.enter 95 args) w := enters_of Tryz.func95 (by kernel_rfl) rfl
theorem ent96 : ∀ args (w : World), (callFunc 96 args).run Tryz.prog w = .ok (.enter 96 args) w := enters_of Tryz.func96 (by kernel_rfl) rfl
theorem fld24_0 : fldB Tryz.prog 24 0 0 = true := by kernel_rfl
theorem fld24_1 : fldB Tryz.prog 24 1 1 = true := by kernel_rfl
theorem fld24_2 : fldB Tryz.prog 24 2 2 = true := by kernel_rfl
theorem fld34_0 : fldB Tryz.prog 34 0 0 = true := by kernel_rfl
theorem fld34_1 : fldB Tryz.prog 34 1 3 = true := by kernel_rfl
theorem fld44_0 : fldB Tryz.prog 44 0 0 = true := by kernel_rfl
theorem fld44_1 : fldB Tryz.prog 44 1 1 = true := by kernel_rfl
theorem fld44_2 : fldB Tryz.prog 44 2 2 = true := by kernel_rfl
theorem fld44_3 : fldB Tryz.prog 44 3 3 = true := by kernel_rfl
theorem fld44_4 : fldB Tryz.prog 44 4 4 = true := by kernel_rfl
theorem fld44_5 : fldB Tryz.prog 44 5 5 = true := by kernel_rfl
theorem fld56_0 : fldB Tryz.prog 56 0 0 = true := by kernel_rfl
theorem fld56_1 : fldB Tryz.prog 56 1 1 = true := by kernel_rfl
theorem fld95_0 : fldB Tryz.prog 95 0 0 = true := by kernel_rfl
theorem fld95_1 : fldB Tryz.prog 95 1 3 = true := by kernel_rfl
theorem fld95_2 : fldB Tryz.prog 95 2 4 = true := by kernel_rfl
theorem fld95_3 : fldB Tryz.prog 95 3 5 = true := by kernel_rfl
theorem lit25 : litB Tryz.prog 25 9 1 := ⟨by kernel_rfl, _, _, rfl, by kernel_rfl, rfl, by kernel_rfl⟩
theorem map65 : mapB Tryz.prog 65 4 := ⟨_, rfl, rfl⟩
theorem mixed : Tryz.prog.follows .mixedOrders = true := by kernel_rfl
theorem mk3 : (Tryz.prog.info? 3).any (fun i => Nat.beq (i.size) 1 && Nat.ble i.bytes 1000000) = true := by kernel_rfl
theorem one22 : oneB Tryz.prog 22 = true := by kernel_rfl
theorem one25 : oneB Tryz.prog 25 = true := by kernel_rfl
theorem one3 : oneB Tryz.prog 3 = true := by kernel_rfl
theorem one4 : oneB Tryz.prog 4 = true := by kernel_rfl
theorem one42 : oneB Tryz.prog 42 = true := by kernel_rfl
theorem one5 : oneB Tryz.prog 5 = true := by kernel_rfl
theorem one71 : oneB Tryz.prog 71 = true := by kernel_rfl
theorem one82 : oneB Tryz.prog 82 = true := by kernel_rfl
theorem one9 : oneB Tryz.prog 9 = true := by kernel_rfl
theorem size24 : sizeB Tryz.prog 24 3 = true := by kernel_rfl
theorem size25 : sizeB Tryz.prog 25 1 = true := by kernel_rfl
theorem size3 : sizeB Tryz.prog 3 1 = true := by kernel_rfl
theorem size34 : sizeB Tryz.prog 34 4 = true := by kernel_rfl
theorem size35 : sizeB Tryz.prog 35 1 = true := by kernel_rfl
theorem size36 : sizeB Tryz.prog 36 5 = true := by kernel_rfl
theorem size44 : sizeB Tryz.prog 44 6 = true := by kernel_rfl
theorem size5 : sizeB Tryz.prog 5 1 = true := by kernel_rfl
theorem size56 : sizeB Tryz.prog 56 2 = true := by kernel_rfl
theorem size71 : sizeB Tryz.prog 71 1 = true := by kernel_rfl
theorem size9 : sizeB Tryz.prog 9 1 = true := by kernel_rfl
theorem slice25 : sliceB Tryz.prog 25 9 1 16 := ⟨by kernel_rfl, by kernel_rfl, _, _, rfl, rfl, by kernel_rfl⟩
theorem u2 : Tryz.prog.underlying 2 = some (.int .i64) := by kernel_rfl
theorem u22 : Tryz.prog.underlying 22 = some (.slice 44) := by kernel_rfl
theorem u25 : Tryz.prog.underlying 25 = some (.slice 9) := by kernel_rfl
theorem u3 : Tryz.prog.underlying 3 = some (.int .i64) := by kernel_rfl
theorem u36 : Tryz.prog.underlying 36 = some (.array 5 35) := by kernel_rfl
theorem u42 : Tryz.prog.underlying 42 = some (.slice 56) := by kernel_rfl
theorem u45 : Tryz.prog.underlying 45 = some (.slice 3) := by kernel_rfl
theorem u5 : Tryz.prog.underlying 5 = some (.int .u8) := by kernel_rfl
theorem u57 : Tryz.prog.underlying 57 = some (.array 3 3) := by kernel_rfl
theorem u66 : Tryz.prog.underlying 66 = some (.int .u64) := by kernel_rfl
theorem u79 : Tryz.prog.underlying 79 = some (.slice 5) := by kernel_rfl
theorem u87 : Tryz.prog.underlying 87 = some (.int .u64) := by kernel_rfl
theorem u9 : Tryz.prog.underlying 9 = some (.string) := by kernel_rfl
theorem zagg36 : (Tryz.prog.info? 36).bind (·.zero) = some (.agg ⟨[.nilFunc, .nilFunc, .nilFunc, .nilFunc, .nilFunc]⟩) := by kernel_rfl
theorem zagg57 : (Tryz.prog.info? 57).bind (·.zero) = some (.agg ⟨[.int .i64 0, .int .i64 0, .int .i64 0]⟩) := by kernel_rfl
theorem zero24 : zeroB Tryz.prog 24 [.slice none 0 0, .int .i64 0, .int .i64 0] := ⟨_, _, rfl, rfl, by kernel_rfl⟩
theorem zero3 : zeroB Tryz.prog 3 [.int .i64 0] := ⟨_, _, rfl, rfl, by kernel_rfl⟩
theorem zero34 : zeroB Tryz.prog 34 [.slice none 0 0, .int .i64 0, .int .i64 0, .int .i64 0] := ⟨_, _, rfl, rfl, by kernel_rfl⟩
theorem zero36 : zeroB Tryz.prog 36 [.nilFunc, .nilFunc, .nilFunc, .nilFunc, .nilFunc] := ⟨_, _, rfl, rfl, by kernel_rfl⟩
theorem zero44 : zeroB Tryz.prog 44 [.int .i64 0, .int .i64 0, .int .i64 0, S [], .slice none 0 0, .int .i64 0] := ⟨_, _, rfl, rfl, by kernel_rfl⟩
theorem zero71 : zeroB Tryz.prog 71 [.int .i64 0] := ⟨_, _, rfl, rfl, by kernel_rfl⟩
theorem zvm65 : zvB Tryz.prog 4 (.bool false) := ⟨_, rfl, rfl⟩
end Go.Proofs.YtpelmhoocepenaaGreatDoor.T
