/- Facts of this translation's tables: sizes, places of fields, numbers of functions. -/
import Derived.Test.YthggegbljpmecaaDoorKitS
import Derived.Test.YthggegbljpmecaaDoorProg
import Derived.Shelf.Abstract
set_option autoImplicit false
set_option maxRecDepth 20000
namespace Go.Proofs.YthggegbljpmecaaDoor.T
open Go Go.Proofs Go.Shelf Go.Proofs.YthggegbljpmecaaDoor.K
theorem agg42 : aggB Tryd.prog 42 6 = true := by kernel_rfl
theorem agg70 : aggB Tryd.prog 70 1 = true := by kernel_rfl
theorem agg90 : aggB Tryd.prog 90 2 = true := by kernel_rfl
theorem bld42 : bldB Tryd.prog 42 [(0, 1), (1, 1), (2, 1), (3, 1), (4, 1), (5, 1)] [.int .i64 0, S [], S [], S [], S [], .bool false] := ⟨_, rfl, by kernel_rfl, by kernel_rfl⟩
theorem bld70 : bldB Tryd.prog 70 [(0, 1)] [.int .i64 0] := ⟨_, rfl, by kernel_rfl, by kernel_rfl⟩
theorem bld90 : bldB Tryd.prog 90 [(0, 1), (1, 1)] [.slice none 0 0, .int .i64 0] := ⟨_, rfl, by kernel_rfl, by kernel_rfl⟩
theorem cells5 : Tryd.prog.cellsOf 5 = 1 := by kernel_rfl
theorem ent101 : ∀ args (w : World), (callFunc 101 args).run Tryd.prog w = .ok (.enter 101 args) w := enters_of Tryd.func101 (by kernel_rfl) rfl
theorem ent102 : ∀ args (w : World), (callFunc 102 args).run Tryd.prog w = .ok (.enter 102 args) w := enters_of Tryd.func102 (by kernel_rfl) rfl
theorem ent111 : ∀ args (w : World), (callFunc 111 args).run Tryd.prog w = .ok (.enter 111 args) w := enters_of Tryd.func111 (by kernel_rfl) rfl
theorem ent112 : ∀ args (w : World), (callFunc 112 args).run Tryd.prog w = .ok (.enter 112 args) w := enters_of Tryd.func112 (by kernel_rfl) rfl
theorem ent117 : ∀ args (w : World), (callFunc 117 args).run Tryd.prog w = .ok (.enter 117 args) w := enters_of Tryd.func117 (by kernel_rfl) rfl
theorem ent12 : ∀ args (w : World), (callFunc 12 args).run Tryd.prog w = .ok (.enter 12 args) w := enters_of Tryd.func12 (by kernel_rfl) rfl
theorem ent13 : ∀ args (w : World), (callFunc 13 args).run Tryd.prog w = .ok (.enter 13 args) w := enters_of Tryd.func13 (by kernel_rfl) rfl
theorem ent15 : ∀ args (w : World), (callFunc 15 args).run Tryd.prog w = .ok (.enter 15 args) w := enters_of Tryd.func15 (by kernel_rfl) rfl
theorem ent16 : ∀ args (w : World), (callFunc 16 args).run Tryd.prog w = .ok (.enter 16 args) w := enters_of Tryd.func16 (by kernel_rfl) rfl
theorem ent19 : ∀ args (w : World), (callFunc 19 args).run Tryd.prog w = .ok (.enter 19 args) w := enters_of Tryd.func19 (by kernel_rfl) rfl
theorem ent21 : ∀ args (w : World), (callFunc 21 args).run Tryd.prog w = .ok (.enter 21 args) w := enters_of Tryd.func21 (by kernel_rfl) rfl
theorem ent22 : ∀ args (w : World), (callFunc 22 args).run Tryd.prog w = .ok (.enter 22 args) w := enters_of Tryd.func22 (by kernel_rfl) rfl
theorem ent25 : ∀ args (w : World), (callFunc 25 args).run Tryd.prog w = .ok (.enter 25 args) w := enters_of Tryd.func25 (by kernel_rfl) rfl
theorem ent26 : ∀ args (w : World), (callFunc 26 args).run Tryd.prog w = .ok (.enter 26 args) w := enters_of Tryd.func26 (by kernel_rfl) rfl
theorem ent28 : ∀ args (w : World), (callFunc 28 args).run Tryd.prog w = .ok (.enter 28 args) w := enters_of Tryd.func28 (by kernel_rfl) rfl
theorem ent31 : ∀ args (w : World), (callFunc 31 args).run Tryd.prog w = .ok (.enter 31 args) w := enters_of Tryd.func31 (by kernel_rfl) rfl
theorem ent36 : ∀ args (w : World), (callFunc 36 args).run Tryd.prog w = .ok (.enter 36 args) w := enters_of Tryd.func36 (by kernel_rfl) rfl
theorem ent40 : ∀ args (w : World), (callFunc 40 args).run Tryd.prog w = .ok (.enter 40 args) w := enters_of Tryd.func40 (by kernel_rfl) rfl
theorem ent41 : ∀ args (w : World), (callFunc 41 args).run Tryd.prog w = .ok (.enter 41 args) w := enters_of Tryd.func41 (by kernel_rfl) rfl
theorem ent42 : ∀ args (w : World), (callFunc 42 args).run Tryd.prog w = .ok (.enter 42 args) w := enters_of Tryd.func42 (by kernel_rfl) rfl
theorem ent44 : ∀ args (w : World), (callFunc 44 args).run Tryd.prog w = .ok (.enter 44 args) w := enters_of Tryd.func44 (by kernel_rfl) rfl
theorem ent45 : ∀ args (w : World), (callFunc 45 args).run Tryd.prog w = .ok (.enter 45 args) w := enters_of Tryd.func45 (by kernel_rfl) rfl
theorem ent51 : ∀ args (w : World), (callFunc 51 args).run Tryd.prog w = .ok (.enter 51 args) w := enters_of Tryd.func51 (by kernel_rfl) rfl
theorem ent52 : ∀ args (w : World), (callFunc 52 args).run Tryd.prog w = .ok (.enter 52 args) w := enters_of Tryd.func52 (by kernel_rfl) rfl
theorem ent53 : ∀ args (w : World), (callFunc 53 args).run Tryd.prog w = .ok (.enter 53 args) w := enters_of Tryd.func53 (by kernel_rfl) rfl
theorem ent54 : ∀ args (w : World), (callFunc 54 args).run Tryd.prog w = .ok (.enter 54 args) w := enters_of Tryd.func54 (by kernel_rfl) rfl
theorem ent61 : ∀ args (w : World), (callFunc 61 args).run Tryd.prog w = .ok (.enter 61 args) w := enters_of Tryd.func61 (by kernel_rfl) rfl
theorem ent69 : ∀ args (w : World), (callFunc 69 args).run Tryd.prog w = .ok (.enter 69 args) w := enters_of Tryd.func69 (by kernel_rfl) rfl
theorem ent70 : ∀ args (w : World), (callFunc 70 args).run Tryd.prog w = .ok (.enter 70 args) w := enters_of Tryd.func70 (by kernel_rfl) rfl
theorem ent71 : ∀ args (w : World), (callFunc 71 args).run Tryd.prog w = .ok (.enter 71 args) w := enters_of Tryd.func71 (by kernel_rfl) rfl
theorem ent72 : ∀ args (w : World), (callFunc 72 args).run Tryd.prog w = .ok (.enter 72 args) w := enters_of Tryd.func72 (by kernel_rfl) rfl
theorem ent73 : ∀ args (w : World), (callFunc 73 args).run Tryd.prog w = .ok (.enter 73 args) w := enters_of Tryd.func73 (by kernel_rfl) rfl
theorem ent74 : ∀ args (w : World), (callFunc 74 args).run Tryd.prog w = .ok (.enter 74 args) w := enters_of Tryd.func74 (by kernel_rfl) rfl
theorem ent76 : ∀ args (w : World), (callFunc 76 args).run Tryd.prog w = .ok (.enter 76 args) w := enters_of Tryd.func76 (by kernel_rfl) rfl
theorem ent77 : ∀ args (w : World), (callFunc 77 args).run Tryd.prog w = .ok (.enter 77 args) w := enters_of Tryd.func77 (by kernel_rfl) rfl
theorem ent78 : ∀ args (w : World), (callFunc 78 args).run Tryd.prog w = .ok (.enter 78 args) w := enters_of Tryd.func78 (by kernel_rfl) rfl
theorem ent79 : ∀ args (w : World), (callFunc 79 args).run Tryd.prog w = .ok (.enter 79 args) w := enters_of Tryd.func79 (by kernel_rfl) rfl
theorem ent80 : ∀ args (w : World), (callFunc 80 args).run Tryd.prog w = .ok (.enter 80 args) w := enters_of Tryd.func80 (by kernel_rfl) rfl
theorem ent84 : ∀ args (w : World), (callFunc 84 args).run Tryd.prog w = .ok (.enter 84 args) w := enters_of Tryd.func84 (by kernel_rfl) rfl
theorem ent85 : ∀ args (w : World), (callFunc 85 args).run Tryd.prog w = .ok (.enter 85 args) w := enters_of Tryd.func85 (by kernel_rfl) rfl
theorem ent90 : ∀ args (w : World), (callFunc 90 args).run Tryd.prog w = .ok (.enter 90 args) w := enters_of Tryd.func90 (by kernel_rfl) rfl
theorem ent91 : ∀ args (w : World), (callFunc 91 args).run Tryd.prog w = .ok (.enter 91 args) w := enters_of Tryd.func91 (by kernel_rfl) rfl
theorem ent92 : ∀ args (w : World), (callFunc 92 args).run Tryd.prog w = .ok (.enter 92 args) w := enters_of Tryd.func92 (by kernel_rfl) rfl
theorem ent93 : ∀ args (w : World), (callFunc 93 args).run Tryd.prog w = .ok (.enter 93 args) w := enters_of Tryd.func93 (by kernel_rfl) rfl
theorem ent94 : ∀ args (w : World), (callFunc 94 args).run Tryd.prog w = .ok (.enter 94 args) w := enters_of Tryd.func94 (by kernel_rfl) rfl
theorem ent95 : ∀ args (w : World), (callFunc 95 args).run Tryd.prog w = .ok (.enter 95 args) w := enters_of Tryd.func95 (by kernel_rfl) rfl
theorem eq42 : eqB Tryd.prog 42 [.int .i64, .string, .string, .string, .string, .bool] := ⟨by kernel_rfl, by kernel_rfl⟩
theorem fld42_0 : fldB Tryd.prog 42 0 0 = true := by kernel_rfl
theorem fld42_1 : fldB Tryd.prog 42 1 1 = true := by kernel_rfl
theorem fld42_2 : fldB Tryd.prog 42 2 2 = true := by kernel_rfl
theorem fld42_3 : fldB Tryd.prog 42 3 3 = true := by kernel_rfl
theorem fld42_4 : fldB Tryd.prog 42 4 4 = true := by kernel_rfl
theorem fld42_5 : fldB Tryd.prog 42 5 5 = true := by kernel_rfl
theorem fld56_0 : fldB Tryd.prog 56 0 0 = true := by kernel_rfl
theorem fld56_1 : fldB Tryd.prog 56 1 1 = true := by kernel_rfl
theorem fld70_0 : fldB Tryd.prog 70 0 0 = true := by kernel_rfl
theorem fld90_0 : fldB Tryd.prog 90 0 0 = true := by kernel_rfl
theorem fld90_1 : fldB Tryd.prog 90 1 1 = true := by kernel_rfl
theorem if20 : Tryd.prog.underlying 20 = some (.interface (Tryd.prog.methodsAt 20)) := by kernel_rfl
theorem isSome56 : (Tryd.prog.info? 56).isSome = true := by kernel_rfl
theorem lies56_56 : liesAt Tryd.prog Tryd.prog.depth 56 (2 / Tryd.prog.cellsOf 56) 0 56 1 = true := by kernel_rfl
theorem lit34 : litB Tryd.prog 34 42 6 := ⟨by kernel_rfl, _, _, rfl, by kernel_rfl, rfl, by kernel_rfl⟩
theorem lit54 : litB Tryd.prog 54 5 1 := ⟨by kernel_rfl, _, _, rfl, by kernel_rfl, rfl, by kernel_rfl⟩
theorem mixed : Tryd.prog.follows .mixedOrders = true := by kernel_rfl
theorem noesc : ∀ (x : Value) (w : World), (callFunc 75 ⟨[x]⟩).run Tryd.prog w = .ok (.value x) w := fun x w => by rw [run_callFunc_extern Tryd.func75 (by kernel_rfl) (by kernel_rfl) (by kernel_rfl) (e := Extern.AbiNoEscape.same) (by kernel_rfl)]; rfl
theorem nz56 : (Tryd.prog.info? 56).map (fun i => i.size != 0) = some true := by kernel_rfl
theorem one24 : oneB Tryd.prog 24 = true := by kernel_rfl
theorem one3 : oneB Tryd.prog 3 = true := by kernel_rfl
theorem one34 : oneB Tryd.prog 34 = true := by kernel_rfl
theorem one4 : oneB Tryd.prog 4 = true := by kernel_rfl
theorem one5 : oneB Tryd.prog 5 = true := by kernel_rfl
theorem one53 : oneB Tryd.prog 53 = true := by kernel_rfl
theorem one54 : oneB Tryd.prog 54 = true := by kernel_rfl
theorem one9 : oneB Tryd.prog 9 = true := by kernel_rfl
theorem size24 : sizeB Tryd.prog 24 1 = true := by kernel_rfl
theorem size3 : sizeB Tryd.prog 3 1 = true := by kernel_rfl
theorem size34 : sizeB Tryd.prog 34 1 = true := by kernel_rfl
theorem size42 : sizeB Tryd.prog 42 6 = true := by kernel_rfl
theorem size53 : sizeB Tryd.prog 53 1 = true := by kernel_rfl
theorem size54 : sizeB Tryd.prog 54 1 = true := by kernel_rfl
theorem size9 : sizeB Tryd.prog 9 1 = true := by kernel_rfl
theorem size90 : sizeB Tryd.prog 90 2 = true := by kernel_rfl
theorem slice34 : sliceB Tryd.prog 34 42 6 80 := ⟨by kernel_rfl, by kernel_rfl, _, _, rfl, rfl, by kernel_rfl⟩
theorem u102 : Tryd.prog.underlying 102 = some (.slice 9) := by kernel_rfl
theorem u116 : Tryd.prog.underlying 116 = some (.unsafePointer) := by kernel_rfl
theorem u34 : Tryd.prog.underlying 34 = some (.slice 42) := by kernel_rfl
theorem u4 : Tryd.prog.underlying 4 = some (.bool) := by kernel_rfl
theorem u53 : Tryd.prog.underlying 53 = some (.pointer 56) := by kernel_rfl
theorem u54 : Tryd.prog.underlying 54 = some (.slice 5) := by kernel_rfl
theorem u83 : Tryd.prog.underlying 83 = some (.int .i64) := by kernel_rfl
theorem u85 : Tryd.prog.underlying 85 = some (.string) := by kernel_rfl
theorem u87 : Tryd.prog.underlying 87 = some (.pointer 5) := by kernel_rfl
theorem u9 : Tryd.prog.underlying 9 = some (.string) := by kernel_rfl
theorem zero24 : zeroB Tryd.prog 24 [.int .i64 0] := ⟨_, _, rfl, rfl, by kernel_rfl⟩
theorem zero3 : zeroB Tryd.prog 3 [.int .i64 0] := ⟨_, _, rfl, rfl, by kernel_rfl⟩
theorem zero34 : zeroB Tryd.prog 34 [.slice none 0 0] := ⟨_, _, rfl, rfl, by kernel_rfl⟩
theorem zero42 : zeroB Tryd.prog 42 [.int .i64 0, S [], S [], S [], S [], .bool false] := ⟨_, _, rfl, rfl, by kernel_rfl⟩
theorem zero56 : zeroB Tryd.prog 56 [.pointer none, .slice none 0 0] := ⟨_, _, rfl, rfl, by kernel_rfl⟩
theorem zero9 : zeroB Tryd.prog 9 [S []] := ⟨_, _, rfl, rfl, by kernel_rfl⟩
theorem zero90 : zeroB Tryd.prog 90 [.slice none 0 0, .int .i64 0] := ⟨_, _, rfl, rfl, by kernel_rfl⟩
end Go.Proofs.YthggegbljpmecaaDoor.T
