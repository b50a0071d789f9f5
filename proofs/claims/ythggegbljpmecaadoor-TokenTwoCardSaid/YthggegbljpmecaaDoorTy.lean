/- Facts of this translation's tables: sizes, places of fields, numbers of functions. -/
import Derived.Test.YthggegbljpmecaaDoorKitS
import Derived.Test.YthggegbljpmecaaDoorProg
import Derived.Shelf.Abstract
set_option autoImplicit false
set_option maxRecDepth 20000
namespace Go.Proofs.YthggegbljpmecaaDoor.T
open Go Go.Proofs Go.Shelf Go.Proofs.YthggegbljpmecaaDoor.K
theorem agg28 : aggB Tryd.prog 28 5 = true := by kernel_rfl
theorem agg51 : aggB Tryd.prog 51 2 = true := by kernel_rfl
theorem bld28 : bldB Tryd.prog 28 [(0, 1), (1, 1), (2, 1), (3, 1), (4, 1)] [.int .i64 0, S [], .int .i64 0, S [], .bool false] := ⟨_, rfl, by kernel_rfl, by kernel_rfl⟩
theorem bld46 : bldB Tryd.prog 46 [(0, 1), (1, 1), (2, 1)] [S [], .slice none 0 0, .slice none 0 0] := ⟨_, rfl, by kernel_rfl, by kernel_rfl⟩
theorem bld51 : bldB Tryd.prog 51 [(0, 1), (1, 1)] [.int .i64 0, .bool false] := ⟨_, rfl, by kernel_rfl, by kernel_rfl⟩
theorem byte54 : byteB Tryd.prog 54 9 5 := ⟨by kernel_rfl, by kernel_rfl, by kernel_rfl, by kernel_rfl, by kernel_rfl⟩
theorem cells5 : Tryd.prog.cellsOf 5 = 1 := by kernel_rfl
theorem ent10 : ∀ args (w : World), (callFunc 10 args).run Tryd.prog w = .ok (.enter 10 args) w := enters_of Tryd.func10 (by kernel_rfl) rfl
theorem ent11 : ∀ args (w : World), (callFunc 11 args).run Tryd.prog w = .ok (.enter 11 args) w := enters_of Tryd.func11 (by kernel_rfl) rfl
theorem ent18 : ∀ args (w : World), (callFunc 18 args).run Tryd.prog w = .ok (.enter 18 args) w := enters_of Tryd.func18 (by kernel_rfl) rfl
theorem ent19 : ∀ args (w : World), (callFunc 19 args).run Tryd.prog w = .ok (.enter 19 args) w := enters_of Tryd.func19 (by kernel_rfl) rfl
theorem ent20 : ∀ args (w : World), (callFunc 20 args).run Tryd.prog w = .ok (.enter 20 args) w := enters_of Tryd.func20 (by kernel_rfl) rfl
theorem ent21 : ∀ args (w : World), (callFunc 21 args).run Tryd.prog w = .ok (.enter 21 args) w := enters_of Tryd.func21 (by kernel_rfl) rfl
theorem ent22 : ∀ args (w : World), (callFunc 22 args).run Tryd.prog w = .ok (.enter 22 args) w := enters_of Tryd.func22 (by kernel_rfl) rfl
theorem ent23 : ∀ args (w : World), (callFunc 23 args).run Tryd.prog w = .ok (.enter 23 args) w := enters_of Tryd.func23 (by kernel_rfl) rfl
theorem ent24 : ∀ args (w : World), (callFunc 24 args).run Tryd.prog w = .ok (.enter 24 args) w := enters_of Tryd.func24 (by kernel_rfl) rfl
theorem ent25 : ∀ args (w : World), (callFunc 25 args).run Tryd.prog w = .ok (.enter 25 args) w := enters_of Tryd.func25 (by kernel_rfl) rfl
theorem ent26 : ∀ args (w : World), (callFunc 26 args).run Tryd.prog w = .ok (.enter 26 args) w := enters_of Tryd.func26 (by kernel_rfl) rfl
theorem ent27 : ∀ args (w : World), (callFunc 27 args).run Tryd.prog w = .ok (.enter 27 args) w := enters_of Tryd.func27 (by kernel_rfl) rfl
theorem ent33 : ∀ args (w : World), (callFunc 33 args).run Tryd.prog w = .ok (.enter 33 args) w := enters_of Tryd.func33 (by kernel_rfl) rfl
theorem ent34 : ∀ args (w : World), (callFunc 34 args).run Tryd.prog w = .ok (.enter 34 args) w := enters_of Tryd.func34 (by kernel_rfl) rfl
theorem ent35 : ∀ args (w : World), (callFunc 35 args).run Tryd.prog w = .ok (.enter 35 args) w := enters_of Tryd.func35 (by kernel_rfl) rfl
theorem ent37 : ∀ args (w : World), (callFunc 37 args).run Tryd.prog w = .ok (.enter 37 args) w := enters_of Tryd.func37 (by kernel_rfl) rfl
theorem ent38 : ∀ args (w : World), (callFunc 38 args).run Tryd.prog w = .ok (.enter 38 args) w := enters_of Tryd.func38 (by kernel_rfl) rfl
theorem ent40 : ∀ args (w : World), (callFunc 40 args).run Tryd.prog w = .ok (.enter 40 args) w := enters_of Tryd.func40 (by kernel_rfl) rfl
theorem ent41 : ∀ args (w : World), (callFunc 41 args).run Tryd.prog w = .ok (.enter 41 args) w := enters_of Tryd.func41 (by kernel_rfl) rfl
theorem ent42 : ∀ args (w : World), (callFunc 42 args).run Tryd.prog w = .ok (.enter 42 args) w := enters_of Tryd.func42 (by kernel_rfl) rfl
theorem ent54 : ∀ args (w : World), (callFunc 54 args).run Tryd.prog w = .ok (.enter 54 args) w := enters_of Tryd.func54 (by kernel_rfl) rfl
theorem ent58 : ∀ args (w : World), (callFunc 58 args).run Tryd.prog w = .ok (.enter 58 args) w := enters_of Tryd.func58 (by kernel_rfl) rfl
theorem ent59 : ∀ args (w : World), (callFunc 59 args).run Tryd.prog w = .ok (.enter 59 args) w := enters_of Tryd.func59 (by kernel_rfl) rfl
theorem ent60 : ∀ args (w : World), (callFunc 60 args).run Tryd.prog w = .ok (.enter 60 args) w := enters_of Tryd.func60 (by kernel_rfl) rfl
theorem ent61 : ∀ args (w : World), (callFunc 61 args).run Tryd.prog w = .ok (.enter 61 args) w := enters_of Tryd.func61 (by kernel_rfl) rfl
theorem ent62 : ∀ args (w : World), (callFunc 62 args).run Tryd.prog w = .ok (.enter 62 args) w := enters_of Tryd.func62 (by kernel_rfl) rfl
theorem ent64 : ∀ args (w : World), (callFunc 64 args).run Tryd.prog w = .ok (.enter 64 args) w := enters_of Tryd.func64 (by kernel_rfl) rfl
theorem ent69 : ∀ args (w : World), (callFunc 69 args).run Tryd.prog w = .ok (.enter 69 args) w := enters_of Tryd.func69 (by kernel_rfl) rfl
theorem ent70 : ∀ args (w : World), (callFunc 70 args).run Tryd.prog w = .ok (.enter 70 args) w := enters_of Tryd.func70 (by kernel_rfl) rfl
theorem ent71 : ∀ args (w : World), (callFunc 71 args).run Tryd.prog w = .ok (.enter 71 args) w := enters_of Tryd.func71 (by kernel_rfl) rfl
theorem ent72 : ∀ args (w : World), (callFunc 72 args).run Tryd.prog w = .ok (.enter 72 args) w := enters_of Tryd.func72 (by kernel_rfl) rfl
theorem ent73 : ∀ args (w : World), (callFunc 73 args).run Tryd.prog w = .ok (.enter 73 args) w := enters_of Tryd.func73 (by kernel_rfl) rfl
theorem ent74 : ∀ args (w : World), (callFunc 74 args).run Tryd.prog w = .ok (.enter 74 args) w := enters_of Tryd.func74 (by kernel_rfl) rfl
theorem ent8 : ∀ args (w : World), (callFunc 8 args).run Tryd.prog w = .ok (.enter 8 args) w := enters_of Tryd.func8 (by kernel_rfl) rfl
theorem ent85 : ∀ args (w : World), (callFunc 85 args).run Tryd.prog w = .ok (.enter 85 args) w := enters_of Tryd.func85 (by kernel_rfl) rfl
theorem ent9 : ∀ args (w : World), (callFunc 9 args).run Tryd.prog w = .ok (.enter 9 args) w := enters_of Tryd.func9 (by kernel_rfl) rfl
theorem ent90 : ∀ args (w : World), (callFunc 90 args).run Tryd.prog w = .ok (.enter 90 args) w := enters_of Tryd.func90 (by kernel_rfl) rfl
theorem ent91 : ∀ args (w : World), (callFunc 91 args).run Tryd.prog w = .ok (.enter 91 args) w := enters_of Tryd.func91 (by kernel_rfl) rfl
theorem eq28 : eqB Tryd.prog 28 [.int .i64, .string, .int .i64, .string, .bool] := ⟨by kernel_rfl, by kernel_rfl⟩
theorem fld28_0 : fldB Tryd.prog 28 0 0 = true := by kernel_rfl
theorem fld28_1 : fldB Tryd.prog 28 1 1 = true := by kernel_rfl
theorem fld28_2 : fldB Tryd.prog 28 2 2 = true := by kernel_rfl
theorem fld28_3 : fldB Tryd.prog 28 3 3 = true := by kernel_rfl
theorem fld28_4 : fldB Tryd.prog 28 4 4 = true := by kernel_rfl
theorem fld46_0 : fldB Tryd.prog 46 0 0 = true := by kernel_rfl
theorem fld46_1 : fldB Tryd.prog 46 1 1 = true := by kernel_rfl
theorem fld46_2 : fldB Tryd.prog 46 2 2 = true := by kernel_rfl
theorem fld51_0 : fldB Tryd.prog 51 0 0 = true := by kernel_rfl
theorem fld51_1 : fldB Tryd.prog 51 1 1 = true := by kernel_rfl
theorem fld56_0 : fldB Tryd.prog 56 0 0 = true := by kernel_rfl
theorem fld56_1 : fldB Tryd.prog 56 1 1 = true := by kernel_rfl
theorem if20 : Tryd.prog.underlying 20 = some (.interface (Tryd.prog.methodsAt 20)) := by kernel_rfl
theorem isSome56 : (Tryd.prog.info? 56).isSome = true := by kernel_rfl
theorem lies56_56 : liesAt Tryd.prog Tryd.prog.depth 56 (2 / Tryd.prog.cellsOf 56) 0 56 1 = true := by kernel_rfl
theorem lit23 : litB Tryd.prog 23 28 5 := ⟨by kernel_rfl, _, _, rfl, by kernel_rfl, rfl, by kernel_rfl⟩
theorem lit44 : litB Tryd.prog 44 51 2 := ⟨by kernel_rfl, _, _, rfl, by kernel_rfl, rfl, by kernel_rfl⟩
theorem mixed : Tryd.prog.follows .mixedOrders = true := by kernel_rfl
theorem noesc : ∀ (x : Value) (w : World), (callFunc 75 ⟨[x]⟩).run Tryd.prog w = .ok (.value x) w := fun x w => by rw [run_callFunc_extern Tryd.func75 (by kernel_rfl) (by kernel_rfl) (by kernel_rfl) (e := Extern.AbiNoEscape.same) (by kernel_rfl)]; rfl
theorem nz56 : (Tryd.prog.info? 56).map (fun i => i.size != 0) = some true := by kernel_rfl
theorem one23 : oneB Tryd.prog 23 = true := by kernel_rfl
theorem one24 : oneB Tryd.prog 24 = true := by kernel_rfl
theorem one3 : oneB Tryd.prog 3 = true := by kernel_rfl
theorem one4 : oneB Tryd.prog 4 = true := by kernel_rfl
theorem one43 : oneB Tryd.prog 43 = true := by kernel_rfl
theorem one44 : oneB Tryd.prog 44 = true := by kernel_rfl
theorem one5 : oneB Tryd.prog 5 = true := by kernel_rfl
theorem one53 : oneB Tryd.prog 53 = true := by kernel_rfl
theorem one54 : oneB Tryd.prog 54 = true := by kernel_rfl
theorem one9 : oneB Tryd.prog 9 = true := by kernel_rfl
theorem size23 : sizeB Tryd.prog 23 1 = true := by kernel_rfl
theorem size24 : sizeB Tryd.prog 24 1 = true := by kernel_rfl
theorem size28 : sizeB Tryd.prog 28 5 = true := by kernel_rfl
theorem size3 : sizeB Tryd.prog 3 1 = true := by kernel_rfl
theorem size4 : sizeB Tryd.prog 4 1 = true := by kernel_rfl
theorem size43 : sizeB Tryd.prog 43 1 = true := by kernel_rfl
theorem size44 : sizeB Tryd.prog 44 1 = true := by kernel_rfl
theorem size51 : sizeB Tryd.prog 51 2 = true := by kernel_rfl
theorem size53 : sizeB Tryd.prog 53 1 = true := by kernel_rfl
theorem size54 : sizeB Tryd.prog 54 1 = true := by kernel_rfl
theorem size9 : sizeB Tryd.prog 9 1 = true := by kernel_rfl
theorem slice23 : sliceB Tryd.prog 23 28 5 56 := ⟨by kernel_rfl, by kernel_rfl, _, _, rfl, rfl, by kernel_rfl⟩
theorem slice44 : sliceB Tryd.prog 44 51 2 16 := ⟨by kernel_rfl, by kernel_rfl, _, _, rfl, rfl, by kernel_rfl⟩
theorem u102 : Tryd.prog.underlying 102 = some (.slice 9) := by kernel_rfl
theorem u116 : Tryd.prog.underlying 116 = some (.unsafePointer) := by kernel_rfl
theorem u23 : Tryd.prog.underlying 23 = some (.slice 28) := by kernel_rfl
theorem u44 : Tryd.prog.underlying 44 = some (.slice 51) := by kernel_rfl
theorem u53 : Tryd.prog.underlying 53 = some (.pointer 56) := by kernel_rfl
theorem u54 : Tryd.prog.underlying 54 = some (.slice 5) := by kernel_rfl
theorem u83 : Tryd.prog.underlying 83 = some (.int .i64) := by kernel_rfl
theorem u85 : Tryd.prog.underlying 85 = some (.string) := by kernel_rfl
theorem u87 : Tryd.prog.underlying 87 = some (.pointer 5) := by kernel_rfl
theorem u9 : Tryd.prog.underlying 9 = some (.string) := by kernel_rfl
theorem zero24 : zeroB Tryd.prog 24 [.int .i64 0] := ⟨_, _, rfl, rfl, by kernel_rfl⟩
theorem zero28 : zeroB Tryd.prog 28 [.int .i64 0, S [], .int .i64 0, S [], .bool false] := ⟨_, _, rfl, rfl, by kernel_rfl⟩
theorem zero3 : zeroB Tryd.prog 3 [.int .i64 0] := ⟨_, _, rfl, rfl, by kernel_rfl⟩
theorem zero43 : zeroB Tryd.prog 43 [.pointer none] := ⟨_, _, rfl, rfl, by kernel_rfl⟩
theorem zero51 : zeroB Tryd.prog 51 [.int .i64 0, .bool false] := ⟨_, _, rfl, rfl, by kernel_rfl⟩
theorem zero56 : zeroB Tryd.prog 56 [.pointer none, .slice none 0 0] := ⟨_, _, rfl, rfl, by kernel_rfl⟩
theorem zero9 : zeroB Tryd.prog 9 [S []] := ⟨_, _, rfl, rfl, by kernel_rfl⟩
end Go.Proofs.YthggegbljpmecaaDoor.T
