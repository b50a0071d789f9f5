/- Facts of this translation's tables: sizes, places of fields, numbers of functions. -/
import Derived.Test.YtlpndcpbnbeohaaDoorKitS
import Derived.Test.YtlpndcpbnbeohaaDoorProg
import Derived.Shelf.Abstract
set_option autoImplicit false
set_option maxRecDepth 20000
namespace Go.Proofs.YtlpndcpbnbeohaaDoor.T
open Go Go.Proofs Go.Shelf Go.Proofs.YtlpndcpbnbeohaaDoor.K
theorem agg60 : aggB Tryd.prog 60 5 = true := by kernel_rfl
theorem agg68 : aggB Tryd.prog 68 6 = true := by kernel_rfl
theorem bld42 : bldB Tryd.prog 42 [(0, 2), (2, 1), (3, 1), (4, 1), (5, 1)] [.pointer none, .slice none 0 0, .slice none 0 0, .bool false, .bool false, .int .i64 0] := ⟨_, rfl, by kernel_rfl, by kernel_rfl⟩
theorem bld48 : bldB Tryd.prog 48 [(0, 1), (1, 1), (2, 1), (3, 1), (4, 1)] [.slice none 0 0, .bool false, S [], .int .i64 0, .bool false] := ⟨_, rfl, by kernel_rfl, by kernel_rfl⟩
theorem bld60 : bldB Tryd.prog 60 [(0, 1), (1, 1), (2, 1), (3, 1), (4, 1)] [.bool false, .bool false, .int .i64 0, .int .i64 0, .int .u8 0] := ⟨_, rfl, by kernel_rfl, by kernel_rfl⟩
theorem bld68 : bldB Tryd.prog 68 [(0, 1), (1, 1), (2, 1), (3, 1), (4, 1), (5, 1)] [.bool false, .bool false, .int .i64 0, .int .i64 0, .bool false, .int .u8 0] := ⟨_, rfl, by kernel_rfl, by kernel_rfl⟩
theorem byte38 : byteB Tryd.prog 38 9 5 := ⟨by kernel_rfl, by kernel_rfl, by kernel_rfl, by kernel_rfl, by kernel_rfl⟩
theorem cells5 : Tryd.prog.cellsOf 5 = 1 := by kernel_rfl
theorem ent10 : ∀ args (w : World), (callFunc 10 args).run Tryd.prog w = .ok (.enter 10 args) w := enters_of Tryd.func10 (by kernel_rfl) rfl
theorem ent11 : ∀ args (w : World), (callFunc 11 args).run Tryd.prog w = .ok (.enter 11 args) w := enters_of Tryd.func11 (by kernel_rfl) rfl
theorem ent12 : ∀ args (w : World), (callFunc 12 args).run Tryd.prog w = .ok (.enter 12 args) w := enters_of Tryd.func12 (by kernel_rfl) rfl
theorem ent13 : ∀ args (w : World), (callFunc 13 args).run Tryd.prog w = .ok (.enter 13 args) w := enters_of Tryd.func13 (by kernel_rfl) rfl
theorem ent14 : ∀ args (w : World), (callFunc 14 args).run Tryd.prog w = .ok (.enter 14 args) w := enters_of Tryd.func14 (by kernel_rfl) rfl
theorem ent16 : ∀ args (w : World), (callFunc 16 args).run Tryd.prog w = .ok (.enter 16 args) w := enters_of Tryd.func16 (by kernel_rfl) rfl
theorem ent17 : ∀ args (w : World), (callFunc 17 args).run Tryd.prog w = .ok (.enter 17 args) w := enters_of Tryd.func17 (by kernel_rfl) rfl
theorem ent18 : ∀ args (w : World), (callFunc 18 args).run Tryd.prog w = .ok (.enter 18 args) w := enters_of Tryd.func18 (by kernel_rfl) rfl
theorem ent19 : ∀ args (w : World), (callFunc 19 args).run Tryd.prog w = .ok (.enter 19 args) w := enters_of Tryd.func19 (by kernel_rfl) rfl
theorem ent20 : ∀ args (w : World), (callFunc 20 args).run Tryd.prog w = .ok (.enter 20 args) w := enters_of Tryd.func20 (by kernel_rfl) rfl
theorem ent21 : ∀ args (w : World), (callFunc 21 args).run Tryd.prog w = .ok (.enter 21 args) w := enters_of Tryd.func21 (by kernel_rfl) rfl
theorem ent22 : ∀ args (w : World), (callFunc 22 args).run Tryd.prog w = .ok (.enter 22 args) w := enters_of Tryd.func22 (by kernel_rfl) rfl
theorem ent23 : ∀ args (w : World), (callFunc 23 args).run Tryd.prog w = .ok (.enter 23 args) w := enters_of Tryd.func23 (by kernel_rfl) rfl
theorem ent25 : ∀ args (w : World), (callFunc 25 args).run Tryd.prog w = .ok (.enter 25 args) w := enters_of Tryd.func25 (by kernel_rfl) rfl
theorem ent26 : ∀ args (w : World), (callFunc 26 args).run Tryd.prog w = .ok (.enter 26 args) w := enters_of Tryd.func26 (by kernel_rfl) rfl
theorem ent27 : ∀ args (w : World), (callFunc 27 args).run Tryd.prog w = .ok (.enter 27 args) w := enters_of Tryd.func27 (by kernel_rfl) rfl
theorem ent28 : ∀ args (w : World), (callFunc 28 args).run Tryd.prog w = .ok (.enter 28 args) w := enters_of Tryd.func28 (by kernel_rfl) rfl
theorem ent29 : ∀ args (w : World), (callFunc 29 args).run Tryd.prog w = .ok (.enter 29 args) w := enters_of Tryd.func29 (by kernel_rfl) rfl
theorem ent30 : ∀ args (w : World), (callFunc 30 args).run Tryd.prog w = .ok (.enter 30 args) w := enters_of Tryd.func30 (by kernel_rfl) rfl
theorem ent31 : ∀ args (w : World), (callFunc 31 args).run Tryd.prog w = .ok (.enter 31 args) w := enters_of Tryd.func31 (by kernel_rfl) rfl
theorem ent32 : ∀ args (w : World), (callFunc 32 args).run Tryd.prog w = .ok (.enter 32 args) w := enters_of Tryd.func32 (by kernel_rfl) rfl
theorem ent33 : ∀ args (w : World), (callFunc 33 args).run Tryd.prog w = .ok (.enter 33 args) w := enters_of Tryd.func33 (by kernel_rfl) rfl
theorem ent34 : ∀ args (w : World), (callFunc 34 args).run Tryd.prog w = .ok (.enter 34 args) w := enters_of Tryd.func34 (by kernel_rfl) rfl
theorem ent37 : ∀ args (w : World), (callFunc 37 args).run Tryd.prog w = .ok (.enter 37 args) w := enters_of Tryd.func37 (by kernel_rfl) rfl
theorem ent38 : ∀ args (w : World), (callFunc 38 args).run Tryd.prog w = .ok (.enter 38 args) w := enters_of Tryd.func38 (by kernel_rfl) rfl
theorem ent39 : ∀ args (w : World), (callFunc 39 args).run Tryd.prog w = .ok (.enter 39 args) w := enters_of Tryd.func39 (by kernel_rfl) rfl
theorem ent40 : ∀ args (w : World), (callFunc 40 args).run Tryd.prog w = .ok (.enter 40 args) w := enters_of Tryd.func40 (by kernel_rfl) rfl
theorem ent41 : ∀ args (w : World), (callFunc 41 args).run Tryd.prog w = .ok (.enter 41 args) w := enters_of Tryd.func41 (by kernel_rfl) rfl
theorem ent42 : ∀ args (w : World), (callFunc 42 args).run Tryd.prog w = .ok (.enter 42 args) w := enters_of Tryd.func42 (by kernel_rfl) rfl
theorem ent43 : ∀ args (w : World), (callFunc 43 args).run Tryd.prog w = .ok (.enter 43 args) w := enters_of Tryd.func43 (by kernel_rfl) rfl
theorem ent44 : ∀ args (w : World), (callFunc 44 args).run Tryd.prog w = .ok (.enter 44 args) w := enters_of Tryd.func44 (by kernel_rfl) rfl
theorem ent45 : ∀ args (w : World), (callFunc 45 args).run Tryd.prog w = .ok (.enter 45 args) w := enters_of Tryd.func45 (by kernel_rfl) rfl
theorem ent46 : ∀ args (w : World), (callFunc 46 args).run Tryd.prog w = .ok (.enter 46 args) w := enters_of Tryd.func46 (by kernel_rfl) rfl
theorem ent47 : ∀ args (w : World), (callFunc 47 args).run Tryd.prog w = .ok (.enter 47 args) w := enters_of Tryd.func47 (by kernel_rfl) rfl
theorem ent48 : ∀ args (w : World), (callFunc 48 args).run Tryd.prog w = .ok (.enter 48 args) w := enters_of Tryd.func48 (by kernel_rfl) rfl
theorem ent49 : ∀ args (w : World), (callFunc 49 args).run Tryd.prog w = .ok (.enter 49 args) w := enters_of Tryd.func49 (by kernel_rfl) rfl
theorem ent50 : ∀ args (w : World), (callFunc 50 args).run Tryd.prog w = .ok (.enter 50 args) w := enters_of Tryd.func50 (by kernel_rfl) rfl
theorem ent54 : ∀ args (w : World), (callFunc 54 args).run Tryd.prog w = .ok (.enter 54 args) w := enters_of Tryd.func54 (by kernel_rfl) rfl
theorem ent55 : ∀ args (w : World), (callFunc 55 args).run Tryd.prog w = .ok (.enter 55 args) w := enters_of Tryd.func55 (by kernel_rfl) rfl
theorem ent56 : ∀ args (w : World), (callFunc 56 args).run Tryd.prog w = .ok (.enter 56 args) w := enters_of Tryd.func56 (by kernel_rfl) rfl
theorem ent57 : ∀ args (w : World), (callFunc 57 args).run Tryd.prog w = .ok (.enter 57 args) w := enters_of Tryd.func57 (by kernel_rfl) rfl
theorem ent60 : ∀ args (w : World), (callFunc 60 args).run Tryd.prog w = .ok (.enter 60 args) w := enters_of Tryd.func60 (by kernel_rfl) rfl
theorem ent61 : ∀ args (w : World), (callFunc 61 args).run Tryd.prog w = .ok (.enter 61 args) w := enters_of Tryd.func61 (by kernel_rfl) rfl
theorem ent64 : ∀ args (w : World), (callFunc 64 args).run Tryd.prog w = .ok (.enter 64 args) w := enters_of Tryd.func64 (by kernel_rfl) rfl
theorem ent66 : ∀ args (w : World), (callFunc 66 args).run Tryd.prog w = .ok (.enter 66 args) w := enters_of Tryd.func66 (by kernel_rfl) rfl
theorem ent7 : ∀ args (w : World), (callFunc 7 args).run Tryd.prog w = .ok (.enter 7 args) w := enters_of Tryd.func7 (by kernel_rfl) rfl
theorem ent72 : ∀ args (w : World), (callFunc 72 args).run Tryd.prog w = .ok (.enter 72 args) w := enters_of Tryd.func72 (by kernel_rfl) rfl
theorem ent76 : ∀ args (w : World), (callFunc 76 args).run Tryd.prog w = .ok (.enter 76 args) w := enters_of Tryd.func76 (by kernel_rfl) rfl
theorem ent8 : ∀ args (w : World), (callFunc 8 args).run Tryd.prog w = .ok (.enter 8 args) w := enters_of Tryd.func8 (by kernel_rfl) rfl
theorem ent80 : ∀ args (w : World), (callFunc 80 args).run Tryd.prog w = .ok (.enter 80 args) w := enters_of Tryd.func80 (by kernel_rfl) rfl
theorem ent9 : ∀ args (w : World), (callFunc 9 args).run Tryd.prog w = .ok (.enter 9 args) w := enters_of Tryd.func9 (by kernel_rfl) rfl
theorem fld40_0 : fldB Tryd.prog 40 0 0 = true := by kernel_rfl
theorem fld40_1 : fldB Tryd.prog 40 1 1 = true := by kernel_rfl
theorem fld42_0 : fldB Tryd.prog 42 0 0 = true := by kernel_rfl
theorem fld42_1 : fldB Tryd.prog 42 1 2 = true := by kernel_rfl
theorem fld42_2 : fldB Tryd.prog 42 2 3 = true := by kernel_rfl
theorem fld42_3 : fldB Tryd.prog 42 3 4 = true := by kernel_rfl
theorem fld42_4 : fldB Tryd.prog 42 4 5 = true := by kernel_rfl
theorem fld48_0 : fldB Tryd.prog 48 0 0 = true := by kernel_rfl
theorem fld48_1 : fldB Tryd.prog 48 1 1 = true := by kernel_rfl
theorem fld48_2 : fldB Tryd.prog 48 2 2 = true := by kernel_rfl
theorem fld48_3 : fldB Tryd.prog 48 3 3 = true := by kernel_rfl
theorem fld48_4 : fldB Tryd.prog 48 4 4 = true := by kernel_rfl
theorem fld60_0 : fldB Tryd.prog 60 0 0 = true := by kernel_rfl
theorem fld60_1 : fldB Tryd.prog 60 1 1 = true := by kernel_rfl
theorem fld60_2 : fldB Tryd.prog 60 2 2 = true := by kernel_rfl
theorem fld60_3 : fldB Tryd.prog 60 3 3 = true := by kernel_rfl
theorem fld60_4 : fldB Tryd.prog 60 4 4 = true := by kernel_rfl
theorem fld68_0 : fldB Tryd.prog 68 0 0 = true := by kernel_rfl
theorem fld68_1 : fldB Tryd.prog 68 1 1 = true := by kernel_rfl
theorem fld68_2 : fldB Tryd.prog 68 2 2 = true := by kernel_rfl
theorem fld68_3 : fldB Tryd.prog 68 3 3 = true := by kernel_rfl
theorem fld68_4 : fldB Tryd.prog 68 4 4 = true := by kernel_rfl
theorem fld68_5 : fldB Tryd.prog 68 5 5 = true := by kernel_rfl
theorem isSome40 : (Tryd.prog.info? 40).isSome = true := by kernel_rfl
theorem lies40_40 : liesAt Tryd.prog Tryd.prog.depth 40 (2 / Tryd.prog.cellsOf 40) 0 40 1 = true := by kernel_rfl
theorem lies40_42 : liesAt Tryd.prog Tryd.prog.depth 42 (6 / Tryd.prog.cellsOf 42) 0 40 1 = true := by kernel_rfl
theorem lit22 : litB Tryd.prog 22 9 1 := ⟨by kernel_rfl, _, _, rfl, by kernel_rfl, rfl, by kernel_rfl⟩
theorem lit38 : litB Tryd.prog 38 5 1 := ⟨by kernel_rfl, _, _, rfl, by kernel_rfl, rfl, by kernel_rfl⟩
theorem mixed : Tryd.prog.follows .mixedOrders = true := by kernel_rfl
theorem noesc : ∀ (x : Value) (w : World), (callFunc 52 ⟨[x]⟩).run Tryd.prog w = .ok (.value x) w := fun x w => by rw [run_callFunc_extern Tryd.func52 (by kernel_rfl) (by kernel_rfl) (by kernel_rfl) (e := Extern.AbiNoEscape.same) (by kernel_rfl)]; rfl
theorem nz40 : (Tryd.prog.info? 40).map (fun i => i.size != 0) = some true := by kernel_rfl
theorem one22 : oneB Tryd.prog 22 = true := by kernel_rfl
theorem one3 : oneB Tryd.prog 3 = true := by kernel_rfl
theorem one37 : oneB Tryd.prog 37 = true := by kernel_rfl
theorem one38 : oneB Tryd.prog 38 = true := by kernel_rfl
theorem one4 : oneB Tryd.prog 4 = true := by kernel_rfl
theorem one5 : oneB Tryd.prog 5 = true := by kernel_rfl
theorem one9 : oneB Tryd.prog 9 = true := by kernel_rfl
theorem size22 : sizeB Tryd.prog 22 1 = true := by kernel_rfl
theorem size3 : sizeB Tryd.prog 3 1 = true := by kernel_rfl
theorem size37 : sizeB Tryd.prog 37 1 = true := by kernel_rfl
theorem size38 : sizeB Tryd.prog 38 1 = true := by kernel_rfl
theorem size4 : sizeB Tryd.prog 4 1 = true := by kernel_rfl
theorem size5 : sizeB Tryd.prog 5 1 = true := by kernel_rfl
theorem size60 : sizeB Tryd.prog 60 5 = true := by kernel_rfl
theorem size68 : sizeB Tryd.prog 68 6 = true := by kernel_rfl
theorem size9 : sizeB Tryd.prog 9 1 = true := by kernel_rfl
theorem slice38 : sliceB Tryd.prog 38 5 1 1 := ⟨by kernel_rfl, by kernel_rfl, _, _, rfl, rfl, by kernel_rfl⟩
theorem u2 : Tryd.prog.underlying 2 = some (.int .i64) := by kernel_rfl
theorem u22 : Tryd.prog.underlying 22 = some (.slice 9) := by kernel_rfl
theorem u3 : Tryd.prog.underlying 3 = some (.int .i64) := by kernel_rfl
theorem u37 : Tryd.prog.underlying 37 = some (.pointer 40) := by kernel_rfl
theorem u38 : Tryd.prog.underlying 38 = some (.slice 5) := by kernel_rfl
theorem u4 : Tryd.prog.underlying 4 = some (.bool) := by kernel_rfl
theorem u5 : Tryd.prog.underlying 5 = some (.int .u8) := by kernel_rfl
theorem u58 : Tryd.prog.underlying 58 = some (.int .u64) := by kernel_rfl
theorem u66 : Tryd.prog.underlying 66 = some (.pointer 5) := by kernel_rfl
theorem u88 : Tryd.prog.underlying 88 = some (.unsafePointer) := by kernel_rfl
theorem u9 : Tryd.prog.underlying 9 = some (.string) := by kernel_rfl
theorem u96 : Tryd.prog.underlying 96 = some (.array 64 5) := by kernel_rfl
theorem zero40 : zeroB Tryd.prog 40 [.pointer none, .slice none 0 0] := ⟨_, _, rfl, rfl, by kernel_rfl⟩
theorem zero60 : zeroB Tryd.prog 60 [.bool false, .bool false, .int .i64 0, .int .i64 0, .int .u8 0] := ⟨_, _, rfl, rfl, by kernel_rfl⟩
theorem zero68 : zeroB Tryd.prog 68 [.bool false, .bool false, .int .i64 0, .int .i64 0, .bool false, .int .u8 0] := ⟨_, _, rfl, rfl, by kernel_rfl⟩
theorem zero96 : zeroB Tryd.prog 96 [.int .u8 0, .int .u8 0, .int .u8 0, .int .u8 0, .int .u8 0, .int .u8 0, .int .u8 0, .int .u8 0, .int .u8 0, .int .u8 0, .int .u8 0, .int .u8 0, .int .u8 0, .int .u8 0, .int .u8 0, .int .u8 0, .int .u8 0, .int .u8 0, .int .u8 0, .int .u8 0, .int .u8 0, .int .u8 0, .int .u8 0, .int .u8 0, .int .u8 0, .int .u8 0, .int .u8 0, .int .u8 0, .int .u8 0, .int .u8 0, .int .u8 0, .int .u8 0, .int .u8 0, .int .u8 0, .int .u8 0, .int .u8 0, .int .u8 0, .int .u8 0, .int .u8 0, .int .u8 0, .int .u8 0, .int .u8 0, .int .u8 0, .int .u8 0, .int .u8 0, .int .u8 0, .int .u8 0, .int .u8 0, .int .u8 0, .int .u8 0, .int .u8 0, .int .u8 0, .int .u8 0, .int .u8 0, .int .u8 0, .int .u8 0, .int .u8 0, .int .u8 0, .int .u8 0, .int .u8 0, .int .u8 0, .int .u8 0, .int .u8 0, .int .u8 0] := ⟨_, _, rfl, rfl, by kernel_rfl⟩
end Go.Proofs.YtlpndcpbnbeohaaDoor.T
