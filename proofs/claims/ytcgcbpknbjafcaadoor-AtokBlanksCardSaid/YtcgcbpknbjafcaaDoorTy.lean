/- Facts of this translation's tables: sizes, places of fields, numbers of functions. -/
import Derived.Test.YtcgcbpknbjafcaaDoorKitK
import Derived.Test.YtcgcbpknbjafcaaDoorProg
import Derived.Shelf.Abstract
set_option autoImplicit false
set_option maxRecDepth 20000
namespace Go.Proofs.YtcgcbpknbjafcaaDoor.T
open Go Go.Proofs Go.Shelf Go.Proofs.YtcgcbpknbjafcaaDoor.K
theorem agg34 : aggB Tryd.prog 34 4 = true := by kernel_rfl
theorem bld34 : bldB Tryd.prog 34 [(0, 1), (1, 1), (2, 1), (3, 1)] [.int .i64 0, .int .i64 0, S [], .int .i64 0] := ⟨_, rfl, by kernel_rfl, by kernel_rfl⟩
theorem ent101 : ∀ args (w : World), (callFunc 101 args).run Tryd.prog w = .ok (.enter 101 args) w := enters_of Tryd.func101 (by kernel_rfl) rfl
theorem ent102 : ∀ args (w : World), (callFunc 102 args).run Tryd.prog w = .ok (.enter 102 args) w := enters_of Tryd.func102 (by kernel_rfl) rfl
theorem ent11 : ∀ args (w : World), (callFunc 11 args).run Tryd.prog w = .ok (.enter 11 args) w := enters_of Tryd.func11 (by kernel_rfl) rfl
theorem ent12 : ∀ args (w : World), (callFunc 12 args).run Tryd.prog w = .ok (.enter 12 args) w := enters_of Tryd.func12 (by kernel_rfl) rfl
theorem ent13 : ∀ args (w : World), (callFunc 13 args).run Tryd.prog w = .ok (.enter 13 args) w := enters_of Tryd.func13 (by kernel_rfl) rfl
theorem ent14 : ∀ args (w : World), (callFunc 14 args).run Tryd.prog w = .ok (.enter 14 args) w := enters_of Tryd.func14 (by kernel_rfl) rfl
theorem ent15 : ∀ args (w : World), (callFunc 15 args).run Tryd.prog w = .ok (.enter 15 args) w := enters_of Tryd.func15 (by kernel_rfl) rfl
theorem ent16 : ∀ args (w : World), (callFunc 16 args).run Tryd.prog w = .ok (.enter 16 args) w := enters_of Tryd.func16 (by kernel_rfl) rfl
theorem ent17 : ∀ args (w : World), (callFunc 17 args).run Tryd.prog w = .ok (.enter 17 args) w := enters_of Tryd.func17 (by kernel_rfl) rfl
theorem ent18 : ∀ args (w : World), (callFunc 18 args).run Tryd.prog w = .ok (.enter 18 args) w := enters_of Tryd.func18 (by kernel_rfl) rfl
theorem ent30 : ∀ args (w : World), (callFunc 30 args).run Tryd.prog w = .ok (.enter 30 args) w := enters_of Tryd.func30 (by kernel_rfl) rfl
theorem ent31 : ∀ args (w : World), (callFunc 31 args).run Tryd.prog w = .ok (.enter 31 args) w := enters_of Tryd.func31 (by kernel_rfl) rfl
theorem ent32 : ∀ args (w : World), (callFunc 32 args).run Tryd.prog w = .ok (.enter 32 args) w := enters_of Tryd.func32 (by kernel_rfl) rfl
theorem ent33 : ∀ args (w : World), (callFunc 33 args).run Tryd.prog w = .ok (.enter 33 args) w := enters_of Tryd.func33 (by kernel_rfl) rfl
theorem ent34 : ∀ args (w : World), (callFunc 34 args).run Tryd.prog w = .ok (.enter 34 args) w := enters_of Tryd.func34 (by kernel_rfl) rfl
theorem ent35 : ∀ args (w : World), (callFunc 35 args).run Tryd.prog w = .ok (.enter 35 args) w := enters_of Tryd.func35 (by kernel_rfl) rfl
theorem ent36 : ∀ args (w : World), (callFunc 36 args).run Tryd.prog w = .ok (.enter 36 args) w := enters_of Tryd.func36 (by kernel_rfl) rfl
theorem ent37 : ∀ args (w : World), (callFunc 37 args).run Tryd.prog w = .ok (.enter 37 args) w := enters_of Tryd.func37 (by kernel_rfl) rfl
theorem ent38 : ∀ args (w : World), (callFunc 38 args).run Tryd.prog w = .ok (.enter 38 args) w := enters_of Tryd.func38 (by kernel_rfl) rfl
theorem ent51 : ∀ args (w : World), (callFunc 51 args).run Tryd.prog w = .ok (.enter 51 args) w := enters_of Tryd.func51 (by kernel_rfl) rfl
theorem ent52 : ∀ args (w : World), (callFunc 52 args).run Tryd.prog w = .ok (.enter 52 args) w := enters_of Tryd.func52 (by kernel_rfl) rfl
theorem ent53 : ∀ args (w : World), (callFunc 53 args).run Tryd.prog w = .ok (.enter 53 args) w := enters_of Tryd.func53 (by kernel_rfl) rfl
theorem ent54 : ∀ args (w : World), (callFunc 54 args).run Tryd.prog w = .ok (.enter 54 args) w := enters_of Tryd.func54 (by kernel_rfl) rfl
theorem ent55 : ∀ args (w : World), (callFunc 55 args).run Tryd.prog w = .ok (.enter 55 args) w := enters_of Tryd.func55 (by kernel_rfl) rfl
theorem ent60 : ∀ args (w : World), (callFunc 60 args).run Tryd.prog w = .ok (.enter 60 args) w := enters_of Tryd.func60 (by kernel_rfl) rfl
theorem ent72 : ∀ args (w : World), (callFunc 72 args).run Tryd.prog w = .ok (.enter 72 args) w := enters_of Tryd.func72 (by kernel_rfl) rfl
theorem ent73 : ∀ args (w : World), (callFunc 73 args).run Tryd.prog w = .ok (.enter 73 args) w := enters_of Tryd.func73 (by kernel_rfl) rfl
theorem ent74 : ∀ args (w : World), (callFunc 74 args).run Tryd.prog w = .ok (.enter 74 args) w := enters_of Tryd.func74 (by kernel_rfl) rfl
theorem ent75 : ∀ args (w : World), (callFunc 75 args).run Tryd.prog w = .ok (.enter 75 args) w := enters_of Tryd.func75 (by kernel_rfl) rfl
theorem ent76 : ∀ args (w : World), (callFunc 76 args).run Tryd.prog w = .ok (.enter 76 args) w := enters_of Tryd.func76 (by kernel_rfl) rfl
theorem ent78 : ∀ args (w : World), (callFunc 78 args).run Tryd.prog w = .ok (.enter 78 args) w := enters_of Tryd.func78 (by kernel_rfl) rfl
theorem ent79 : ∀ args (w : World), (callFunc 79 args).run Tryd.prog w = .ok (.enter 79 args) w := enters_of Tryd.func79 (by kernel_rfl) rfl
theorem ent88 : ∀ args (w : World), (callFunc 88 args).run Tryd.prog w = .ok (.enter 88 args) w := enters_of Tryd.func88 (by kernel_rfl) rfl
theorem ent91 : ∀ args (w : World), (callFunc 91 args).run Tryd.prog w = .ok (.enter 91 args) w := enters_of Tryd.func91 (by kernel_rfl) rfl
theorem ent97 : ∀ args (w : World), (callFunc 97 args).run Tryd.prog w = .ok (.enter 97 args) w := enters_of Tryd.func97 (by kernel_rfl) rfl
theorem eq34 : eqB Tryd.prog 34 [.int .i64, .int .i64, .string, .int .i64] := ⟨by kernel_rfl, by kernel_rfl⟩
theorem fld34_0 : fldB Tryd.prog 34 0 0 = true := by kernel_rfl
theorem fld34_1 : fldB Tryd.prog 34 1 1 = true := by kernel_rfl
theorem fld34_2 : fldB Tryd.prog 34 2 2 = true := by kernel_rfl
theorem fld34_3 : fldB Tryd.prog 34 3 3 = true := by kernel_rfl
theorem fld63_0 : fldB Tryd.prog 63 0 0 = true := by kernel_rfl
theorem fld63_3 : fldB Tryd.prog 63 3 3 = true := by kernel_rfl
theorem fld63_4 : fldB Tryd.prog 63 4 4 = true := by kernel_rfl
theorem lit23 : litB Tryd.prog 23 34 4 := ⟨by kernel_rfl, _, _, rfl, by kernel_rfl, rfl, by kernel_rfl⟩
theorem lit37 : litB Tryd.prog 37 35 1 := ⟨by kernel_rfl, _, _, rfl, by kernel_rfl, rfl, by kernel_rfl⟩
theorem lit72 : litB Tryd.prog 72 9 1 := ⟨by kernel_rfl, _, _, rfl, by kernel_rfl, rfl, by kernel_rfl⟩
theorem mixed : Tryd.prog.follows .mixedOrders = true := by kernel_rfl
theorem one2 : oneB Tryd.prog 2 = true := by kernel_rfl
theorem one23 : oneB Tryd.prog 23 = true := by kernel_rfl
theorem one24 : oneB Tryd.prog 24 = true := by kernel_rfl
theorem one3 : oneB Tryd.prog 3 = true := by kernel_rfl
theorem one35 : oneB Tryd.prog 35 = true := by kernel_rfl
theorem one5 : oneB Tryd.prog 5 = true := by kernel_rfl
theorem one9 : oneB Tryd.prog 9 = true := by kernel_rfl
theorem size2 : sizeB Tryd.prog 2 1 = true := by kernel_rfl
theorem size23 : sizeB Tryd.prog 23 1 = true := by kernel_rfl
theorem size24 : sizeB Tryd.prog 24 1 = true := by kernel_rfl
theorem size3 : sizeB Tryd.prog 3 1 = true := by kernel_rfl
theorem size34 : sizeB Tryd.prog 34 4 = true := by kernel_rfl
theorem size35 : sizeB Tryd.prog 35 1 = true := by kernel_rfl
theorem size5 : sizeB Tryd.prog 5 1 = true := by kernel_rfl
theorem size9 : sizeB Tryd.prog 9 1 = true := by kernel_rfl
theorem slice23 : sliceB Tryd.prog 23 34 4 40 := ⟨by kernel_rfl, by kernel_rfl, _, _, rfl, rfl, by kernel_rfl⟩
theorem u2 : Tryd.prog.underlying 2 = some (.int .i64) := by kernel_rfl
theorem u23 : Tryd.prog.underlying 23 = some (.slice 34) := by kernel_rfl
theorem u3 : Tryd.prog.underlying 3 = some (.int .i64) := by kernel_rfl
theorem u35 : Tryd.prog.underlying 35 = some (.int .u64) := by kernel_rfl
theorem u37 : Tryd.prog.underlying 37 = some (.slice 35) := by kernel_rfl
theorem u4 : Tryd.prog.underlying 4 = some (.bool) := by kernel_rfl
theorem u5 : Tryd.prog.underlying 5 = some (.int .u8) := by kernel_rfl
theorem u54 : Tryd.prog.underlying 54 = some (.slice 5) := by kernel_rfl
theorem u72 : Tryd.prog.underlying 72 = some (.slice 9) := by kernel_rfl
theorem u9 : Tryd.prog.underlying 9 = some (.string) := by kernel_rfl
theorem zero23 : zeroB Tryd.prog 23 [.slice none 0 0] := ⟨_, _, rfl, rfl, by kernel_rfl⟩
theorem zero24 : zeroB Tryd.prog 24 [.int .i64 0] := ⟨_, _, rfl, rfl, by kernel_rfl⟩
theorem zero3 : zeroB Tryd.prog 3 [.int .i64 0] := ⟨_, _, rfl, rfl, by kernel_rfl⟩
theorem zero34 : zeroB Tryd.prog 34 [.int .i64 0, .int .i64 0, S [], .int .i64 0] := ⟨_, _, rfl, rfl, by kernel_rfl⟩
end Go.Proofs.YtcgcbpknbjafcaaDoor.T
