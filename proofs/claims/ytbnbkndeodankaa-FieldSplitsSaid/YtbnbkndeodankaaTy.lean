/- Facts of this translation's tables: sizes, places of fields, numbers of functions. -/
import Derived.Test.YtbnbkndeodankaaKitK
import Derived.Test.YtbnbkndeodankaaProg
import Derived.Shelf.Abstract
set_option autoImplicit false
namespace Go.Proofs.Ytbnbkndeodankaa.T
open Go Go.Proofs Go.Shelf Go.Proofs.Ytbnbkndeodankaa.K
theorem agg27 : aggB Try.prog 27 2 = true := by kernel_rfl
theorem agg31 : aggB Try.prog 31 2 = true := by kernel_rfl
theorem bld27 : bldB Try.prog 27 [(0, 1), (1, 1)] [.int .i64 0, S []] := ⟨_, rfl, by kernel_rfl, by kernel_rfl⟩
theorem bld31 : bldB Try.prog 31 [(0, 1), (1, 1)] [S [], S []] := ⟨_, rfl, by kernel_rfl, by kernel_rfl⟩
theorem bld42 : bldB Try.prog 42 [(0, 2), (2, 1), (3, 1), (4, 1)] [S [], S [], .bool false, .bool false, .slice none 0 0] := ⟨_, rfl, by kernel_rfl, by kernel_rfl⟩
theorem bld59 : bldB Try.prog 59 [(0, 2), (2, 1), (3, 1), (4, 1)] [S [], S [], .bool false, .bool false, .slice none 0 0] := ⟨_, rfl, by kernel_rfl, by kernel_rfl⟩
theorem byte34 : byteB Try.prog 34 9 5 := ⟨by kernel_rfl, by kernel_rfl, by kernel_rfl, by kernel_rfl, by kernel_rfl⟩
theorem cells5 : Try.prog.cellsOf 5 = 1 := by kernel_rfl
theorem ent10 : ∀ args (w : World), (callFunc 10 args).run Try.prog w = .ok (.enter 10 args) w := enters_of Try.func10 (by kernel_rfl) rfl
theorem ent11 : ∀ args (w : World), (callFunc 11 args).run Try.prog w = .ok (.enter 11 args) w := enters_of Try.func11 (by kernel_rfl) rfl
theorem ent12 : ∀ args (w : World), (callFunc 12 args).run Try.prog w = .ok (.enter 12 args) w := enters_of Try.func12 (by kernel_rfl) rfl
theorem ent13 : ∀ args (w : World), (callFunc 13 args).run Try.prog w = .ok (.enter 13 args) w := enters_of Try.func13 (by kernel_rfl) rfl
theorem ent14 : ∀ args (w : World), (callFunc 14 args).run Try.prog w = .ok (.enter 14 args) w := enters_of Try.func14 (by kernel_rfl) rfl
theorem ent15 : ∀ args (w : World), (callFunc 15 args).run Try.prog w = .ok (.enter 15 args) w := enters_of Try.func15 (by kernel_rfl) rfl
theorem ent16 : ∀ args (w : World), (callFunc 16 args).run Try.prog w = .ok (.enter 16 args) w := enters_of Try.func16 (by kernel_rfl) rfl
theorem ent17 : ∀ args (w : World), (callFunc 17 args).run Try.prog w = .ok (.enter 17 args) w := enters_of Try.func17 (by kernel_rfl) rfl
theorem ent18 : ∀ args (w : World), (callFunc 18 args).run Try.prog w = .ok (.enter 18 args) w := enters_of Try.func18 (by kernel_rfl) rfl
theorem ent19 : ∀ args (w : World), (callFunc 19 args).run Try.prog w = .ok (.enter 19 args) w := enters_of Try.func19 (by kernel_rfl) rfl
theorem ent20 : ∀ args (w : World), (callFunc 20 args).run Try.prog w = .ok (.enter 20 args) w := enters_of Try.func20 (by kernel_rfl) rfl
theorem ent21 : ∀ args (w : World), (callFunc 21 args).run Try.prog w = .ok (.enter 21 args) w := enters_of Try.func21 (by kernel_rfl) rfl
theorem ent22 : ∀ args (w : World), (callFunc 22 args).run Try.prog w = .ok (.enter 22 args) w := enters_of Try.func22 (by kernel_rfl) rfl
theorem ent23 : ∀ args (w : World), (callFunc 23 args).run Try.prog w = .ok (.enter 23 args) w := enters_of Try.func23 (by kernel_rfl) rfl
theorem ent24 : ∀ args (w : World), (callFunc 24 args).run Try.prog w = .ok (.enter 24 args) w := enters_of Try.func24 (by kernel_rfl) rfl
theorem ent25 : ∀ args (w : World), (callFunc 25 args).run Try.prog w = .ok (.enter 25 args) w := enters_of Try.func25 (by kernel_rfl) rfl
theorem ent26 : ∀ args (w : World), (callFunc 26 args).run Try.prog w = .ok (.enter 26 args) w := enters_of Try.func26 (by kernel_rfl) rfl
theorem ent27 : ∀ args (w : World), (callFunc 27 args).run Try.prog w = .ok (.enter 27 args) w := enters_of Try.func27 (by kernel_rfl) rfl
theorem ent28 : ∀ args (w : World), (callFunc 28 args).run Try.prog w = .ok (.enter 28 args) w := enters_of Try.func28 (by kernel_rfl) rfl
theorem ent29 : ∀ args (w : World), (callFunc 29 args).run Try.prog w = .ok (.enter 29 args) w := enters_of Try.func29 (by kernel_rfl) rfl
theorem ent30 : ∀ args (w : World), (callFunc 30 args).run Try.prog w = .ok (.enter 30 args) w := enters_of Try.func30 (by kernel_rfl) rfl
theorem ent35 : ∀ args (w : World), (callFunc 35 args).run Try.prog w = .ok (.enter 35 args) w := enters_of Try.func35 (by kernel_rfl) rfl
theorem ent7 : ∀ args (w : World), (callFunc 7 args).run Try.prog w = .ok (.enter 7 args) w := enters_of Try.func7 (by kernel_rfl) rfl
theorem ent8 : ∀ args (w : World), (callFunc 8 args).run Try.prog w = .ok (.enter 8 args) w := enters_of Try.func8 (by kernel_rfl) rfl
theorem ent9 : ∀ args (w : World), (callFunc 9 args).run Try.prog w = .ok (.enter 9 args) w := enters_of Try.func9 (by kernel_rfl) rfl
theorem eq31 : eqB Try.prog 31 [.string, .string] := ⟨by kernel_rfl, by kernel_rfl⟩
theorem fld27_0 : fldB Try.prog 27 0 0 = true := by kernel_rfl
theorem fld27_1 : fldB Try.prog 27 1 1 = true := by kernel_rfl
theorem fld31_0 : fldB Try.prog 31 0 0 = true := by kernel_rfl
theorem fld31_1 : fldB Try.prog 31 1 1 = true := by kernel_rfl
theorem fld42_0 : fldB Try.prog 42 0 0 = true := by kernel_rfl
theorem fld42_1 : fldB Try.prog 42 1 2 = true := by kernel_rfl
theorem fld42_2 : fldB Try.prog 42 2 3 = true := by kernel_rfl
theorem fld42_3 : fldB Try.prog 42 3 4 = true := by kernel_rfl
theorem fld50_0 : fldB Try.prog 50 0 0 = true := by kernel_rfl
theorem fld50_1 : fldB Try.prog 50 1 1 = true := by kernel_rfl
theorem fld59_0 : fldB Try.prog 59 0 0 = true := by kernel_rfl
theorem fld59_1 : fldB Try.prog 59 1 2 = true := by kernel_rfl
theorem fld59_2 : fldB Try.prog 59 2 3 = true := by kernel_rfl
theorem fld59_3 : fldB Try.prog 59 3 4 = true := by kernel_rfl
theorem isSome50 : (Try.prog.info? 50).isSome = true := by kernel_rfl
theorem lies50 : liesAt Try.prog Try.prog.depth 50 (2 / Try.prog.cellsOf 50) 0 50 1 = true := by kernel_rfl
theorem lit22 : litB Try.prog 22 27 2 := ⟨by kernel_rfl, _, _, rfl, by kernel_rfl, rfl, by kernel_rfl⟩
theorem lit28 : litB Try.prog 28 31 2 := ⟨by kernel_rfl, _, _, rfl, by kernel_rfl, rfl, by kernel_rfl⟩
theorem lit33 : litB Try.prog 33 9 1 := ⟨by kernel_rfl, _, _, rfl, by kernel_rfl, rfl, by kernel_rfl⟩
theorem lit34 : litB Try.prog 34 5 1 := ⟨by kernel_rfl, _, _, rfl, by kernel_rfl, rfl, by kernel_rfl⟩
theorem mixed : Try.prog.follows .mixedOrders = true := by kernel_rfl
theorem noesc : ∀ (x : Value) (w : World), (callFunc 37 ⟨[x]⟩).run Try.prog w = .ok (.value x) w := fun x w => by rw [run_callFunc_extern Try.func37 (by kernel_rfl) (by kernel_rfl) (by kernel_rfl) (e := Extern.AbiNoEscape.same) (by kernel_rfl)]; rfl
theorem nz50 : (Try.prog.info? 50).map (fun i => i.size != 0) = some true := by kernel_rfl
theorem one28 : oneB Try.prog 28 = true := by kernel_rfl
theorem one3 : oneB Try.prog 3 = true := by kernel_rfl
theorem one34 : oneB Try.prog 34 = true := by kernel_rfl
theorem one4 : oneB Try.prog 4 = true := by kernel_rfl
theorem one40 : oneB Try.prog 40 = true := by kernel_rfl
theorem one48 : oneB Try.prog 48 = true := by kernel_rfl
theorem one9 : oneB Try.prog 9 = true := by kernel_rfl
theorem size27 : sizeB Try.prog 27 2 = true := by kernel_rfl
theorem size28 : sizeB Try.prog 28 1 = true := by kernel_rfl
theorem size3 : sizeB Try.prog 3 1 = true := by kernel_rfl
theorem size31 : sizeB Try.prog 31 2 = true := by kernel_rfl
theorem size34 : sizeB Try.prog 34 1 = true := by kernel_rfl
theorem size4 : sizeB Try.prog 4 1 = true := by kernel_rfl
theorem size40 : sizeB Try.prog 40 1 = true := by kernel_rfl
theorem size48 : sizeB Try.prog 48 1 = true := by kernel_rfl
theorem size9 : sizeB Try.prog 9 1 = true := by kernel_rfl
theorem slice22 : sliceB Try.prog 22 27 2 24 := ⟨by kernel_rfl, by kernel_rfl, _, _, rfl, rfl, by kernel_rfl⟩
theorem slice28 : sliceB Try.prog 28 31 2 32 := ⟨by kernel_rfl, by kernel_rfl, _, _, rfl, rfl, by kernel_rfl⟩
theorem slice33 : sliceB Try.prog 33 9 1 16 := ⟨by kernel_rfl, by kernel_rfl, _, _, rfl, rfl, by kernel_rfl⟩
theorem u22 : Try.prog.underlying 22 = some (.slice 27) := by kernel_rfl
theorem u25 : Try.prog.underlying 25 = some (.array 256 4) := by kernel_rfl
theorem u28 : Try.prog.underlying 28 = some (.slice 31) := by kernel_rfl
theorem u33 : Try.prog.underlying 33 = some (.slice 9) := by kernel_rfl
theorem u34 : Try.prog.underlying 34 = some (.slice 5) := by kernel_rfl
theorem u4 : Try.prog.underlying 4 = some (.bool) := by kernel_rfl
theorem u48 : Try.prog.underlying 48 = some (.pointer 50) := by kernel_rfl
theorem u5 : Try.prog.underlying 5 = some (.int .u8) := by kernel_rfl
theorem u70 : Try.prog.underlying 70 = some (.pointer 5) := by kernel_rfl
theorem u71 : Try.prog.underlying 71 = some (.unsafePointer) := by kernel_rfl
theorem u9 : Try.prog.underlying 9 = some (.string) := by kernel_rfl
theorem zero25 : zeroB Try.prog 25 [.bool false, .bool false, .bool false, .bool false, .bool false, .bool false, .bool false, .bool false, .bool false, .bool false, .bool false, .bool false, .bool false, .bool false, .bool false, .bool false, .bool false, .bool false, .bool false, .bool false, .bool false, .bool false, .bool false, .bool false, .bool false, .bool false, .bool false, .bool false, .bool false, .bool false, .bool false, .bool false, .bool false, .bool false, .bool false, .bool false, .bool false, .bool false, .bool false, .bool false, .bool false, .bool false, .bool false, .bool false, .bool false, .bool false, .bool false, .bool false, .bool false, .bool false, .bool false, .bool false, .bool false, .bool false, .bool false, .bool false, .bool false, .bool false, .bool false, .bool false, .bool false, .bool false, .bool false, .bool false, .bool false, .bool false, .bool false, .bool false, .bool false, .bool false, .bool false, .bool false, .bool false, .bool false, .bool false, .bool false, .bool false, .bool false, .bool false, .bool false, .bool false, .bool false, .bool false, .bool false, .bool false, .bool false, .bool false, .bool false, .bool false, .bool false, .bool false, .bool false, .bool false, .bool false, .bool false, .bool false, .bool false, .bool false, .bool false, .bool false, .bool false, .bool false, .bool false, .bool false, .bool false, .bool false, .bool false, .bool false, .bool false, .bool false, .bool false, .bool false, .bool false, .bool false, .bool false, .bool false, .bool false, .bool false, .bool false, .bool false, .bool false, .bool false, .bool false, .bool false, .bool false, .bool false, .bool false, .bool false, .bool false, .bool false, .bool false, .bool false, .bool false, .bool false, .bool false, .bool false, .bool false, .bool false, .bool false, .bool false, .bool false, .bool false, .bool false, .bool false, .bool false, .bool false, .bool false, .bool false, .bool false, .bool false, .bool false, .bool false, .bool false, .bool false, .bool false, .bool false, .bool false, .bool false, .bool false, .bool false, .bool false, .bool false, .bool false, .bool false, .bool false, .bool false, .bool false, .bool false, .bool false, .bool false, .bool false, .bool false, .bool false, .bool false, .bool false, .bool false, .bool false, .bool false, .bool false, .bool false, .bool false, .bool false, .bool false, .bool false, .bool false, .bool false, .bool false, .bool false, .bool false, .bool false, .bool false, .bool false, .bool false, .bool false, .bool false, .bool false, .bool false, .bool false, .bool false, .bool false, .bool false, .bool false, .bool false, .bool false, .bool false, .bool false, .bool false, .bool false, .bool false, .bool false, .bool false, .bool false, .bool false, .bool false, .bool false, .bool false, .bool false, .bool false, .bool false, .bool false, .bool false, .bool false, .bool false, .bool false, .bool false, .bool false, .bool false, .bool false, .bool false, .bool false, .bool false, .bool false, .bool false, .bool false, .bool false, .bool false, .bool false, .bool false, .bool false, .bool false, .bool false, .bool false, .bool false, .bool false, .bool false, .bool false, .bool false, .bool false, .bool false, .bool false, .bool false, .bool false, .bool false, .bool false, .bool false, .bool false] := ⟨_, _, rfl, rfl, by kernel_rfl⟩
theorem zero27 : zeroB Try.prog 27 [.int .i64 0, S []] := ⟨_, _, rfl, rfl, by kernel_rfl⟩
theorem zero31 : zeroB Try.prog 31 [S [], S []] := ⟨_, _, rfl, rfl, by kernel_rfl⟩
theorem zero40 : zeroB Try.prog 40 [.pointer none] := ⟨_, _, rfl, rfl, by kernel_rfl⟩
theorem zero50 : zeroB Try.prog 50 [.pointer none, .slice none 0 0] := ⟨_, _, rfl, rfl, by kernel_rfl⟩
end Go.Proofs.Ytbnbkndeodankaa.T
