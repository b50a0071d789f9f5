import Derived.Test.YtghjmiggobpmoaaGreatDoorTok
import Derived.Test.YtghjmiggobpmoaaGreatDoorKitFl
import Derived.Test.YtghjmiggobpmoaaGreatDoorProg
import Derived.Shelf.Abstract
set_option autoImplicit false
set_option maxRecDepth 20000
namespace Go.Proofs.YtghjmiggobpmoaaGreatDoor.T
open Go Go.Proofs Go.Shelf Go.Proofs.YtghjmiggobpmoaaGreatDoor.K
theorem agg30 : aggB Tryz.prog 30 9 = true := by kernel_rfl
theorem agg40 : aggB Tryz.prog 40 5 = true := by kernel_rfl
theorem agg51 : aggB Tryz.prog 51 5 = true := by kernel_rfl
theorem agg56 : aggB Tryz.prog 56 2 = true := by kernel_rfl
theorem agg59 : aggB Tryz.prog 59 2 = true := by kernel_rfl
theorem agg75 : aggB Tryz.prog 75 2 = true := by kernel_rfl
theorem bld30 : bldB Tryz.prog 30 [(0, 1), (1, 1), (2, 1), (3, 1), (4, 1), (5, 1), (6, 1), (7, 1), (8, 1)] [.int .i64 0, S [], .bool false, .bool false, .slice none 0 0, .slice none 0 0, .slice none 0 0, .slice none 0 0, .slice none 0 0] := ⟨_, rfl, by kernel_rfl, by kernel_rfl⟩
theorem bld40 : bldB Tryz.prog 40 [(0, 1), (1, 1), (2, 1), (3, 1), (4, 1)] [.int .i64 0, S [], S [], S [], .bool false] := ⟨_, rfl, by kernel_rfl, by kernel_rfl⟩
theorem bld45 : bldB Tryz.prog 45 [(0, 1), (1, 1)] [.int .i64 0, .int .i64 0] := ⟨_, rfl, by kernel_rfl, by kernel_rfl⟩
theorem bld49 : bldB Tryz.prog 49 [(0, 1), (1, 1)] [.slice none 0 0, .int .i64 0] := ⟨_, rfl, by kernel_rfl, by kernel_rfl⟩
theorem bld51 : bldB Tryz.prog 51 [(0, 1), (1, 1), (2, 1), (3, 1), (4, 1)] [.int .i64 0, S [], .int .i64 0, S [], .bool false] := ⟨_, rfl, by kernel_rfl, by kernel_rfl⟩
theorem bld56 : bldB Tryz.prog 56 [(0, 1), (1, 1)] [S [], S []] := ⟨_, rfl, by kernel_rfl, by kernel_rfl⟩
theorem bld59 : bldB Tryz.prog 59 [(0, 1), (1, 1)] [.slice none 0 0, .slice none 0 0] := ⟨_, rfl, by kernel_rfl, by kernel_rfl⟩
theorem bld69 : bldB Tryz.prog 69 [(0, 1), (1, 1), (2, 1)] [S [], .slice none 0 0, .slice none 0 0] := ⟨_, rfl, by kernel_rfl, by kernel_rfl⟩
theorem bld75 : bldB Tryz.prog 75 [(0, 1), (1, 1)] [.int .i64 0, .bool false] := ⟨_, rfl, by kernel_rfl, by kernel_rfl⟩
theorem byte96 : byteB Tryz.prog 96 9 5 := ⟨by kernel_rfl, by kernel_rfl, by kernel_rfl, by kernel_rfl, by kernel_rfl⟩
theorem cells5 : Tryz.prog.cellsOf 5 = 1 := by kernel_rfl
theorem ent100 : ∀ args (w : World), (callFunc 100 args).run Tryz.prog w = .ok (.enter 100 args) w := enters_of Tryz.func100 (by kernel_rfl) rfl
theorem ent101 : ∀ args (w : World), (callFunc 101 args).run Tryz.prog w = .ok (.enter 101 args) w := enters_of Tryz.func101 (by kernel_rfl) rfl
theorem ent102 : ∀ args (w : World), (callFunc 102 args).run Tryz.prog w = .ok (.enter 102 args) w := enters_of Tryz.func102 (by kernel_rfl) rfl
theorem ent103 : ∀ args (w : World), (callFunc 103 args).run Tryz.prog w = .ok (.enter 103 args) w := enters_of Tryz.func103 (by kernel_rfl) rfl
theorem ent104 : ∀ args (w : World), (callFunc 104 args).run Tryz.prog w = .ok (.enter 104 args) w := enters_of Tryz.func104 (by kernel_rfl) rfl
theorem ent105 : ∀ args (w : World), (callFunc 105 args).run Tryz.prog w = .ok (.enter 105 args) w := enters_of Tryz.func105 (by kernel_rfl) rfl
theorem ent106 : ∀ args (w : World), (callFunc 106 args).run Tryz.prog w = .ok (.enter 106 args) w := enters_of Tryz.func106 (by kernel_rfl) rfl
theorem ent107 : ∀ args (w : World), (callFunc 107 args).run Tryz.prog w = .ok (.enter 107 args) w := enters_of Tryz.func107 (by kernel_rfl) rfl
theorem ent108 : ∀ args (w : World), (callFunc 108 args).run Tryz.prog w = .ok (.enter 108 args) w := enters_of Tryz.func108 (by kernel_rfl) rfl
theorem ent109 : ∀ args (w : World), (callFunc 109 args).run Tryz.prog w = .ok (.enter 109 args) w := enters_of Tryz.func109 (by kernel_rfl) rfl
theorem ent114 : ∀ args (w : World), (callFunc 114 args).run Tryz.prog w = .ok (.enter 114 args) w := enters_of Tryz.func114 (by kernel_rfl) rfl
theorem ent115 : ∀ args (w : World), (callFunc 115 args).run Tryz.prog w = .ok (.enter 115 args) w := enters_of Tryz.func115 (by kernel_rfl) rfl
theorem ent116 : ∀ args (w : World), (callFunc 116 args).run Tryz.prog w = .ok (.enter 116 args) w := enters_of Tryz.func116 (by kernel_rfl) rfl
theorem ent118 : ∀ args (w : World), (callFunc 118 args).run Tryz.prog w = .ok (.enter 118 args) w := enters_of Tryz.func118 (by kernel_rfl) rfl
theorem ent119 : ∀ args (w : World), (callFunc 119 args).run Tryz.prog w = .ok (.enter 119 args) w := enters_of Tryz.func119 (by kernel_rfl) rfl
theorem ent12 : ∀ args (w : World), (callFunc 12 args).run Tryz.prog w = .ok (.enter 12 args) w := enters_of Tryz.func12 (by kernel_rfl) rfl
theorem ent13 : ∀ args (w : World), (callFunc 13 args).run Tryz.prog w = .ok (.enter 13 args) w := enters_of Tryz.func13 (by kernel_rfl) rfl
theorem ent14 : ∀ args (w : World), (callFunc 14 args).run Tryz.prog w = .ok (.enter 14 args) w := enters_of Tryz.func14 (by kernel_rfl) rfl
theorem ent15 : ∀ args (w : World), (callFunc 15 args).run Tryz.prog w = .ok (.enter 15 args) w := enters_of Tryz.func15 (by kernel_rfl) rfl
theorem ent16 : ∀ args (w : World), (callFunc 16 args).run Tryz.prog w = .ok (.enter 16 args) w := enters_of Tryz.func16 (by kernel_rfl) rfl
theorem ent17 : ∀ args (w : World), (callFunc 17 args).run Tryz.prog w = .ok (.enter 17 args) w := enters_of Tryz.func17 (by kernel_rfl) rfl
theorem ent18 : ∀ args (w : World), (callFunc 18 args).run Tryz.prog w = .ok (.enter 18 args) w := enters_of Tryz.func18 (by kernel_rfl) rfl
theorem ent19 : ∀ args (w : World), (callFunc 19 args).run Tryz.prog w = .ok (.enter 19 args) w := enters_of Tryz.func19 (by kernel_rfl) rfl
theorem ent26 : ∀ args (w : World), (callFunc 26 args).run Tryz.prog w = .ok (.enter 26 args) w := enters_of Tryz.func26 (by kernel_rfl) rfl
theorem ent27 : ∀ args (w : World), (callFunc 27 args).run Tryz.prog w = .ok (.enter 27 args) w := enters_of Tryz.func27 (by kernel_rfl) rfl
theorem ent28 : ∀ args (w : World), (callFunc 28 args).run Tryz.prog w = .ok (.enter 28 args) w := enters_of Tryz.func28 (by kernel_rfl) rfl
theorem ent29 : ∀ args (w : World), (callFunc 29 args).run Tryz.prog w = .ok (.enter 29 args) w := enters_of Tryz.func29 (by kernel_rfl) rfl
theorem ent30 : ∀ args (w : World), (callFunc 30 args).run Tryz.prog w = .ok (.enter 30 args) w := enters_of Tryz.func30 (by kernel_rfl) rfl
theorem ent31 : ∀ args (w : World), (callFunc 31 args).run Tryz.prog w = .ok (.enter 31 args) w := enters_of Tryz.func31 (by kernel_rfl) rfl
theorem ent32 : ∀ args (w : World), (callFunc 32 args).run Tryz.prog w = .ok (.enter 32 args) w := enters_of Tryz.func32 (by kernel_rfl) rfl
theorem ent33 : ∀ args (w : World), (callFunc 33 args).run Tryz.prog w = .ok (.enter 33 args) w := enters_of Tryz.func33 (by kernel_rfl) rfl
theorem ent34 : ∀ args (w : World), (callFunc 34 args).run Tryz.prog w = .ok (.enter 34 args) w := enters_of Tryz.func34 (by kernel_rfl) rfl
theorem ent35 : ∀ args (w : World), (callFunc 35 args).run Tryz.prog w = .ok (.enter 35 args) w := enters_of Tryz.func35 (by kernel_rfl) rfl
theorem ent37 : ∀ args (w : World), (callFunc 37 args).run Tryz.prog w = .ok (.enter 37 args) w := enters_of Tryz.func37 (by kernel_rfl) rfl
theorem ent38 : ∀ args (w : World), (callFunc 38 args).run Tryz.prog w = .ok (.enter 38 args) w := enters_of Tryz.func38 (by kernel_rfl) rfl
theorem ent39 : ∀ args (w : World), (callFunc 39 args).run Tryz.prog w = .ok (.enter 39 args) w := enters_of Tryz.func39 (by kernel_rfl) rfl
theorem ent40 : ∀ args (w : World), (callFunc 40 args).run Tryz.prog w = .ok (.enter 40 args) w := enters_of Tryz.func40 (by kernel_rfl) rfl
theorem ent41 : ∀ args (w : World), (callFunc 41 args).run Tryz.prog w = .ok (.enter 41 args) w := enters_of Tryz.func41 (by kernel_rfl) rfl
theorem ent42 : ∀ args (w : World), (callFunc 42 args).run Tryz.prog w = .ok (.enter 42 args) w := enters_of Tryz.func42 (by kernel_rfl) rfl
theorem ent43 : ∀ args (w : World), (callFunc 43 args).run Tryz.prog w = .ok (.enter 43 args) w := enters_of Tryz.func43 (by kernel_rfl) rfl
theorem ent44 : ∀ args (w : World), (callFunc 44 args).run Tryz.prog w = .ok (.enter 44 args) w := enters_of Tryz.func44 (by kernel_rfl) rfl
theorem ent45 : ∀ args (w : World), (callFunc 45 args).run Tryz.prog w = .ok (.enter 45 args) w := enters_of Tryz.func45 (by kernel_rfl) rfl
theorem ent46 : ∀ args (w : World), (callFunc 46 args).run Tryz.prog w = .ok (.enter 46 args) w := enters_of Tryz.func46 (by kernel_rfl) rfl
theorem ent47 : ∀ args (w : World), (callFunc 47 args).run Tryz.prog w = .ok (.enter 47 args) w := enters_of Tryz.func47 (by kernel_rfl) rfl
theorem ent48 : ∀ args (w : World), (callFunc 48 args).run Tryz.prog w = .ok (.enter 48 args) w := enters_of Tryz.func48 (by kernel_rfl) rfl
theorem ent49 : ∀ args (w : World), (callFunc 49 args).run Tryz.prog w = .ok (.enter 49 args) w := enters_of Tryz.func49 (by kernel_rfl) rfl
theorem ent50 : ∀ args (w : World), (callFunc 50 args).run Tryz.prog w = .ok (.enter 50 args) w := enters_of Tryz.func50 (by kernel_rfl) rfl
theorem ent51 : ∀ args (w : World), (callFunc 51 args).run Tryz.prog w = .ok (.enter 51 args) w := enters_of Tryz.func51 (by kernel_rfl) rfl
theorem ent52 : ∀ args (w : World), (callFunc 52 args).run Tryz.prog w = .ok (.enter 52 args) w := enters_of Tryz.func52 (by kernel_rfl) rfl
theorem ent53 : ∀ args (w : World), (callFunc 53 args).run Tryz.prog w = .ok (.enter 53 args) w := enters_of Tryz.func53 (by kernel_rfl) rfl
theorem ent54 : ∀ args (w : World), (callFunc 54 args).run Tryz.prog w = .ok (.enter 54 args) w := enters_of Tryz.func54 (by kernel_rfl) rfl
theorem ent55 : ∀ args (w : World), (callFunc 55 args).run Tryz.prog w = .ok (.enter 55 args) w := enters_of Tryz.func55 (by kernel_rfl) rfl
theorem ent56 : ∀ args (w : World), (callFunc 56 args).run Tryz.prog w = .ok (.enter 56 args) w := enters_of Tryz.func56 (by kernel_rfl) rfl
theorem ent58 : ∀ args (w : World), (callFunc 58 args).run Tryz.prog w = .ok (.enter 58 args) w := enters_of Tryz.func58 (by kernel_rfl) rfl
theorem ent6 : ∀ args (w : World), (callFunc 6 args).run Tryz.prog w = .ok (.enter 6 args) w := enters_of Tryz.func6 (by kernel_rfl) rfl
theorem ent62 : ∀ args (w : World), (callFunc 62 args).run Tryz.prog w = .ok (.enter 62 args) w := enters_of Tryz.func62 (by kernel_rfl) rfl
theorem ent63 : ∀ args (w : World), (callFunc 63 args).run Tryz.prog w = .ok (.enter 63 args) w := enters_of Tryz.func63 (by kernel_rfl) rfl
theorem ent64 : ∀ args (w : World), (callFunc 64 args).run Tryz.prog w = .ok (.enter 64 args) w := enters_of Tryz.func64 (by kernel_rfl) rfl
theorem ent65 : ∀ args (w : World), (callFunc 65 args).run Tryz.prog w = .ok (.enter 65 args) w := enters_of Tryz.func65 (by kernel_rfl) rfl
theorem ent67 : ∀ args (w : World), (callFunc 67 args).run Tryz.prog w = .ok (.enter 67 args) w := enters_of Tryz.func67 (by kernel_rfl) rfl
theorem ent68 : ∀ args (w : World), (callFunc 68 args).run Tryz.prog w = .ok (.enter 68 args) w := enters_of Tryz.func68 (by kernel_rfl) rfl
theorem ent69 : ∀ args (w : World), (callFunc 69 args).run Tryz.prog w = .ok (.enter 69 args) w := enters_of Tryz.func69 (by kernel_rfl) rfl
theorem ent7 : ∀ args (w : World), (callFunc 7 args).run Tryz.prog w = .ok (.enter 7 args) w := enters_of Tryz.func7 (by kernel_rfl) rfl
theorem ent77 : ∀ args (w : World), (callFunc 77 args).run Tryz.prog w = .ok (.enter 77 args) w := enters_of Tryz.func77 (by kernel_rfl) rfl
theorem ent78 : ∀ args (w : World), (callFunc 78 args).run Tryz.prog w = .ok (.enter 78 args) w := enters_of Tryz.func78 (by kernel_rfl) rfl
theorem ent79 : ∀ args (w : World), (callFunc 79 args).run Tryz.prog w = .ok (.enter 79 args) w := enters_of Tryz.func79 (by kernel_rfl) rfl
theorem ent8 : ∀ args (w : World), (callFunc 8 args).run Tryz.prog w = .ok (.enter 8 args) w := enters_of Tryz.func8 (by kernel_rfl) rfl
theorem ent80 : ∀ args (w : World), (callFunc 80 args).run Tryz.prog w = .ok (.enter 80 args) w := enters_of Tryz.func80 (by kernel_rfl) rfl
theorem ent81 : ∀ args (w : World), (callFunc 81 args).run Tryz.prog w = .ok (.enter 81 args) w := enters_of Tryz.func81 (by kernel_rfl) rfl
theorem ent82 : ∀ args (w : World), (callFunc 82 args).run Tryz.prog w = .ok (.enter 82 args) w := enters_of Tryz.func82 (by kernel_rfl) rfl
theorem ent84 : ∀ args (w : World), (callFunc 84 args).run Tryz.prog w = .ok (.enter 84 args) w := enters_of Tryz.func84 (by kernel_rfl) rfl
theorem ent85 : ∀ args (w : World), (callFunc 85 args).run Tryz.prog w = .ok (.enter 85 args) w := enters_of Tryz.func85 (by kernel_rfl) rfl
theorem ent86 : ∀ args (w : World), (callFunc 86 args).run Tryz.prog w = .ok (.enter 86 args) w := enters_of Tryz.func86 (by kernel_rfl) rfl
theorem ent87 : ∀ args (w : World), (callFunc 87 args).run Tryz.prog w = .ok (.enter 87 args) w := enters_of Tryz.func87 (by kernel_rfl) rfl
theorem ent88 : ∀ args (w : World), (callFunc 88 args).run Tryz.prog w = .ok (.enter 88 args) w := enters_of Tryz.func88 (by kernel_rfl) rfl
theorem ent89 : ∀ args (w : World), (callFunc 89 args).run Tryz.prog w = .ok (.enter 89 args) w := enters_of Tryz.func89 (by kernel_rfl) rfl
theorem ent9 : ∀ args (w : World), (callFunc 9 args).run Tryz.prog w = .ok (.enter 9 args) w := enters_of Tryz.func9 (by kernel_rfl) rfl
theorem ent97 : ∀ args (w : World), (callFunc 97 args).run Tryz.prog w = .ok (.enter 97 args) w := enters_of Tryz.func97 (by kernel_rfl) rfl
theorem ent98 : ∀ args (w : World), (callFunc 98 args).run Tryz.prog w = .ok (.enter 98 args) w := enters_of Tryz.func98 (by kernel_rfl) rfl
theorem ent99 : ∀ args (w : World), (callFunc 99 args).run Tryz.prog w = .ok (.enter 99 args) w := enters_of Tryz.func99 (by kernel_rfl) rfl
theorem eq40 : eqB Tryz.prog 40 [.int .i64, .string, .string, .string, .bool] := ⟨by kernel_rfl, by kernel_rfl⟩
theorem eq56 : eqB Tryz.prog 56 [.string, .string] := ⟨by kernel_rfl, by kernel_rfl⟩
theorem fld30_0 : fldB Tryz.prog 30 0 0 = true := by kernel_rfl
theorem fld30_1 : fldB Tryz.prog 30 1 1 = true := by kernel_rfl
theorem fld30_2 : fldB Tryz.prog 30 2 2 = true := by kernel_rfl
theorem fld30_3 : fldB Tryz.prog 30 3 3 = true := by kernel_rfl
theorem fld30_4 : fldB Tryz.prog 30 4 4 = true := by kernel_rfl
theorem fld30_5 : fldB Tryz.prog 30 5 5 = true := by kernel_rfl
theorem fld30_6 : fldB Tryz.prog 30 6 6 = true := by kernel_rfl
theorem fld30_7 : fldB Tryz.prog 30 7 7 = true := by kernel_rfl
theorem fld30_8 : fldB Tryz.prog 30 8 8 = true := by kernel_rfl
theorem fld40_0 : fldB Tryz.prog 40 0 0 = true := by kernel_rfl
theorem fld40_1 : fldB Tryz.prog 40 1 1 = true := by kernel_rfl
theorem fld40_2 : fldB Tryz.prog 40 2 2 = true := by kernel_rfl
theorem fld40_3 : fldB Tryz.prog 40 3 3 = true := by kernel_rfl
theorem fld40_4 : fldB Tryz.prog 40 4 4 = true := by kernel_rfl
theorem fld45_0 : fldB Tryz.prog 45 0 0 = true := by kernel_rfl
theorem fld45_1 : fldB Tryz.prog 45 1 1 = true := by kernel_rfl
theorem fld49_0 : fldB Tryz.prog 49 0 0 = true := by kernel_rfl
theorem fld49_1 : fldB Tryz.prog 49 1 1 = true := by kernel_rfl
theorem fld51_0 : fldB Tryz.prog 51 0 0 = true := by kernel_rfl
theorem fld51_1 : fldB Tryz.prog 51 1 1 = true := by kernel_rfl
theorem fld51_2 : fldB Tryz.prog 51 2 2 = true := by kernel_rfl
theorem fld51_3 : fldB Tryz.prog 51 3 3 = true := by kernel_rfl
theorem fld51_4 : fldB Tryz.prog 51 4 4 = true := by kernel_rfl
theorem fld59_0 : fldB Tryz.prog 59 0 0 = true := by kernel_rfl
theorem fld59_1 : fldB Tryz.prog 59 1 1 = true := by kernel_rfl
theorem fld69_0 : fldB Tryz.prog 69 0 0 = true := by kernel_rfl
theorem fld69_1 : fldB Tryz.prog 69 1 1 = true := by kernel_rfl
theorem fld69_2 : fldB Tryz.prog 69 2 2 = true := by kernel_rfl
theorem fld75_0 : fldB Tryz.prog 75 0 0 = true := by kernel_rfl
theorem fld75_1 : fldB Tryz.prog 75 1 1 = true := by kernel_rfl
theorem fld98_0 : fldB Tryz.prog 98 0 0 = true := by kernel_rfl
theorem fld98_1 : fldB Tryz.prog 98 1 1 = true := by kernel_rfl
theorem fone51_0 : foneB Tryz.prog 51 0 0 = true := by kernel_rfl
theorem fone51_1 : foneB Tryz.prog 51 1 1 = true := by kernel_rfl
theorem fone51_2 : foneB Tryz.prog 51 2 2 = true := by kernel_rfl
theorem if20 : Tryz.prog.underlying 20 = some (.interface (Tryz.prog.methodsAt 20)) := by kernel_rfl
theorem isSome98 : (Tryz.prog.info? 98).isSome = true := by kernel_rfl
theorem lies98_98 : liesAt Tryz.prog Tryz.prog.depth 98 (2 / Tryz.prog.cellsOf 98) 0 98 1 = true := by kernel_rfl
theorem lit23 : litB Tryz.prog 23 9 1 := ⟨by kernel_rfl, _, _, rfl, by kernel_rfl, rfl, by kernel_rfl⟩
theorem lit25 : litB Tryz.prog 25 56 2 := ⟨by kernel_rfl, _, _, rfl, by kernel_rfl, rfl, by kernel_rfl⟩
theorem lit26 : litB Tryz.prog 26 40 5 := ⟨by kernel_rfl, _, _, rfl, by kernel_rfl, rfl, by kernel_rfl⟩
theorem lit27 : litB Tryz.prog 27 30 9 := ⟨by kernel_rfl, _, _, rfl, by kernel_rfl, rfl, by kernel_rfl⟩
theorem lit28 : litB Tryz.prog 28 59 2 := ⟨by kernel_rfl, _, _, rfl, by kernel_rfl, rfl, by kernel_rfl⟩
theorem lit41 : litB Tryz.prog 41 51 5 := ⟨by kernel_rfl, _, _, rfl, by kernel_rfl, rfl, by kernel_rfl⟩
theorem lit67 : litB Tryz.prog 67 75 2 := ⟨by kernel_rfl, _, _, rfl, by kernel_rfl, rfl, by kernel_rfl⟩
theorem mixed : Tryz.prog.follows .mixedOrders = true := by kernel_rfl
theorem noesc : ∀ (x : Value) (w : World), (callFunc 90 ⟨[x]⟩).run Tryz.prog w = .ok (.value x) w := fun x w => by rw [run_callFunc_extern Tryz.func90 (by kernel_rfl) (by kernel_rfl) (by kernel_rfl) (e := Extern.AbiNoEscape.same) (by kernel_rfl)]; rfl
theorem nz98 : (Tryz.prog.info? 98).map (fun i => i.size != 0) = some true := by kernel_rfl
theorem one23 : oneB Tryz.prog 23 = true := by kernel_rfl
theorem one25 : oneB Tryz.prog 25 = true := by kernel_rfl
theorem one26 : oneB Tryz.prog 26 = true := by kernel_rfl
theorem one27 : oneB Tryz.prog 27 = true := by kernel_rfl
theorem one28 : oneB Tryz.prog 28 = true := by kernel_rfl
theorem one3 : oneB Tryz.prog 3 = true := by kernel_rfl
theorem one31 : oneB Tryz.prog 31 = true := by kernel_rfl
theorem one4 : oneB Tryz.prog 4 = true := by kernel_rfl
theorem one41 : oneB Tryz.prog 41 = true := by kernel_rfl
theorem one5 : oneB Tryz.prog 5 = true := by kernel_rfl
theorem one66 : oneB Tryz.prog 66 = true := by kernel_rfl
theorem one67 : oneB Tryz.prog 67 = true := by kernel_rfl
theorem one9 : oneB Tryz.prog 9 = true := by kernel_rfl
theorem one95 : oneB Tryz.prog 95 = true := by kernel_rfl
theorem one96 : oneB Tryz.prog 96 = true := by kernel_rfl
theorem size23 : sizeB Tryz.prog 23 1 = true := by kernel_rfl
theorem size25 : sizeB Tryz.prog 25 1 = true := by kernel_rfl
theorem size26 : sizeB Tryz.prog 26 1 = true := by kernel_rfl
theorem size27 : sizeB Tryz.prog 27 1 = true := by kernel_rfl
theorem size28 : sizeB Tryz.prog 28 1 = true := by kernel_rfl
theorem size3 : sizeB Tryz.prog 3 1 = true := by kernel_rfl
theorem size30 : sizeB Tryz.prog 30 9 = true := by kernel_rfl
theorem size31 : sizeB Tryz.prog 31 1 = true := by kernel_rfl
theorem size4 : sizeB Tryz.prog 4 1 = true := by kernel_rfl
theorem size40 : sizeB Tryz.prog 40 5 = true := by kernel_rfl
theorem size41 : sizeB Tryz.prog 41 1 = true := by kernel_rfl
theorem size45 : sizeB Tryz.prog 45 2 = true := by kernel_rfl
theorem size51 : sizeB Tryz.prog 51 5 = true := by kernel_rfl
theorem size56 : sizeB Tryz.prog 56 2 = true := by kernel_rfl
theorem size59 : sizeB Tryz.prog 59 2 = true := by kernel_rfl
theorem size66 : sizeB Tryz.prog 66 1 = true := by kernel_rfl
theorem size67 : sizeB Tryz.prog 67 1 = true := by kernel_rfl
theorem size75 : sizeB Tryz.prog 75 2 = true := by kernel_rfl
theorem size9 : sizeB Tryz.prog 9 1 = true := by kernel_rfl
theorem size95 : sizeB Tryz.prog 95 1 = true := by kernel_rfl
theorem size96 : sizeB Tryz.prog 96 1 = true := by kernel_rfl
theorem slice23 : sliceB Tryz.prog 23 9 1 16 := ⟨by kernel_rfl, by kernel_rfl, _, _, rfl, rfl, by kernel_rfl⟩
theorem slice25 : sliceB Tryz.prog 25 56 2 32 := ⟨by kernel_rfl, by kernel_rfl, _, _, rfl, rfl, by kernel_rfl⟩
theorem slice26 : sliceB Tryz.prog 26 40 5 64 := ⟨by kernel_rfl, by kernel_rfl, _, _, rfl, rfl, by kernel_rfl⟩
theorem slice27 : sliceB Tryz.prog 27 30 9 152 := ⟨by kernel_rfl, by kernel_rfl, _, _, rfl, rfl, by kernel_rfl⟩
theorem slice28 : sliceB Tryz.prog 28 59 2 48 := ⟨by kernel_rfl, by kernel_rfl, _, _, rfl, rfl, by kernel_rfl⟩
theorem slice41 : sliceB Tryz.prog 41 51 5 56 := ⟨by kernel_rfl, by kernel_rfl, _, _, rfl, rfl, by kernel_rfl⟩
theorem slice67 : sliceB Tryz.prog 67 75 2 16 := ⟨by kernel_rfl, by kernel_rfl, _, _, rfl, rfl, by kernel_rfl⟩
theorem u114 : Tryz.prog.underlying 114 = some (.int .i64) := by kernel_rfl
theorem u116 : Tryz.prog.underlying 116 = some (.string) := by kernel_rfl
theorem u118 : Tryz.prog.underlying 118 = some (.pointer 5) := by kernel_rfl
theorem u131 : Tryz.prog.underlying 131 = some (.unsafePointer) := by kernel_rfl
theorem u21 : Tryz.prog.underlying 21 = some (.int .i32) := by kernel_rfl
theorem u23 : Tryz.prog.underlying 23 = some (.slice 9) := by kernel_rfl
theorem u24 : Tryz.prog.underlying 24 = some (.int .u64) := by kernel_rfl
theorem u25 : Tryz.prog.underlying 25 = some (.slice 56) := by kernel_rfl
theorem u26 : Tryz.prog.underlying 26 = some (.slice 40) := by kernel_rfl
theorem u27 : Tryz.prog.underlying 27 = some (.slice 30) := by kernel_rfl
theorem u28 : Tryz.prog.underlying 28 = some (.slice 59) := by kernel_rfl
theorem u3 : Tryz.prog.underlying 3 = some (.int .i64) := by kernel_rfl
theorem u4 : Tryz.prog.underlying 4 = some (.bool) := by kernel_rfl
theorem u41 : Tryz.prog.underlying 41 = some (.slice 51) := by kernel_rfl
theorem u5 : Tryz.prog.underlying 5 = some (.int .u8) := by kernel_rfl
theorem u67 : Tryz.prog.underlying 67 = some (.slice 75) := by kernel_rfl
theorem u9 : Tryz.prog.underlying 9 = some (.string) := by kernel_rfl
theorem u95 : Tryz.prog.underlying 95 = some (.pointer 98) := by kernel_rfl
theorem u96 : Tryz.prog.underlying 96 = some (.slice 5) := by kernel_rfl
theorem ux45 : Tryz.prog.underlying 45 = some ((Tryz.prog.underlying 45).getD .string) := by kernel_rfl
theorem zero3 : zeroB Tryz.prog 3 [.int .i64 0] := ⟨_, _, rfl, rfl, by kernel_rfl⟩
theorem zero30 : zeroB Tryz.prog 30 [.int .i64 0, S [], .bool false, .bool false, .slice none 0 0, .slice none 0 0, .slice none 0 0, .slice none 0 0, .slice none 0 0] := ⟨_, _, rfl, rfl, by kernel_rfl⟩
theorem zero31 : zeroB Tryz.prog 31 [.int .i64 0] := ⟨_, _, rfl, rfl, by kernel_rfl⟩
theorem zero40 : zeroB Tryz.prog 40 [.int .i64 0, S [], S [], S [], .bool false] := ⟨_, _, rfl, rfl, by kernel_rfl⟩
theorem zero45 : zeroB Tryz.prog 45 [.int .i64 0, .int .i64 0] := ⟨_, _, rfl, rfl, by kernel_rfl⟩
theorem zero51 : zeroB Tryz.prog 51 [.int .i64 0, S [], .int .i64 0, S [], .bool false] := ⟨_, _, rfl, rfl, by kernel_rfl⟩
theorem zero56 : zeroB Tryz.prog 56 [S [], S []] := ⟨_, _, rfl, rfl, by kernel_rfl⟩
theorem zero59 : zeroB Tryz.prog 59 [.slice none 0 0, .slice none 0 0] := ⟨_, _, rfl, rfl, by kernel_rfl⟩
theorem zero66 : zeroB Tryz.prog 66 [.pointer none] := ⟨_, _, rfl, rfl, by kernel_rfl⟩
theorem zero75 : zeroB Tryz.prog 75 [.int .i64 0, .bool false] := ⟨_, _, rfl, rfl, by kernel_rfl⟩
theorem zero9 : zeroB Tryz.prog 9 [S []] := ⟨_, _, rfl, rfl, by kernel_rfl⟩
theorem zero98 : zeroB Tryz.prog 98 [.pointer none, .slice none 0 0] := ⟨_, _, rfl, rfl, by kernel_rfl⟩
end Go.Proofs.YtghjmiggobpmoaaGreatDoor.T
