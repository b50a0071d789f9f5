import Derived.Test.YtncnalboiljgiaaGreatKitSq
import Derived.Test.YtncnalboiljgiaaGreatProg
import Derived.Shelf.Abstract
set_option autoImplicit false
set_option maxRecDepth 20000
namespace Go.Proofs.YtncnalboiljgiaaGreat.T
open Go Go.Proofs Go.Shelf Go.Proofs.YtncnalboiljgiaaGreat.K
theorem agg176 : aggB Tryz.prog 176 2 = true := by kernel_rfl
theorem agg178 : aggB Tryz.prog 178 3 = true := by kernel_rfl
theorem agg24 : aggB Tryz.prog 24 3 = true := by kernel_rfl
theorem agg36 : aggB Tryz.prog 36 6 = true := by kernel_rfl
theorem agg38 : aggB Tryz.prog 38 2 = true := by kernel_rfl
theorem agg47 : aggB Tryz.prog 47 4 = true := by kernel_rfl
theorem agg51 : aggB Tryz.prog 51 2 = true := by kernel_rfl
theorem bld127 : bldB Tryz.prog 127 [(0, 3), (3, 1), (4, 1), (5, 1)] [.slice none 0 0, .int .i64 0, .int .i64 0, .int .i64 0, .slice none 0 0, .int .i64 0] := ⟨_, rfl, by kernel_rfl, by kernel_rfl⟩
theorem bld157 : bldB Tryz.prog 157 [(0, 1)] [.bool false] := ⟨_, rfl, by kernel_rfl, by kernel_rfl⟩
theorem bld176 : bldB Tryz.prog 176 [(0, 1), (1, 1)] [.slice none 0 0, .bool false] := ⟨_, rfl, by kernel_rfl, by kernel_rfl⟩
theorem bld178 : bldB Tryz.prog 178 [(0, 1), (1, 1), (2, 1)] [.int .u8 0, .int .u8 0, S []] := ⟨_, rfl, by kernel_rfl, by kernel_rfl⟩
theorem bld24 : bldB Tryz.prog 24 [(0, 1), (1, 1), (2, 1)] [.slice none 0 0, .int .i64 0, .int .i64 0] := ⟨_, rfl, by kernel_rfl, by kernel_rfl⟩
theorem bld36 : bldB Tryz.prog 36 [(0, 1), (1, 1), (2, 1), (3, 1), (4, 1), (5, 1)] [.int .i64 0, .int .i64 0, .int .i64 0, S [], .slice none 0 0, .int .i64 0] := ⟨_, rfl, by kernel_rfl, by kernel_rfl⟩
theorem bld38 : bldB Tryz.prog 38 [(0, 1), (1, 1)] [S [], .int .i64 0] := ⟨_, rfl, by kernel_rfl, by kernel_rfl⟩
theorem bld47 : bldB Tryz.prog 47 [(0, 3), (3, 1)] [.slice none 0 0, .int .i64 0, .int .i64 0, .int .i64 0] := ⟨_, rfl, by kernel_rfl, by kernel_rfl⟩
theorem bld51 : bldB Tryz.prog 51 [(0, 1), (1, 1)] [S [], S []] := ⟨_, rfl, by kernel_rfl, by kernel_rfl⟩
theorem bld71 : bldB Tryz.prog 71 [(0, 1), (1, 1), (2, 1)] [S [], S [], .int .i64 0] := ⟨_, rfl, by kernel_rfl, by kernel_rfl⟩
theorem ent10 : ∀ args (w : World), (callFunc 10 args).run Tryz.prog w = .ok (.enter 10 args) w := enters_of Tryz.func10 (by kernel_rfl) rfl
theorem ent106 : ∀ args (w : World), (callFunc 106 args).run Tryz.prog w = .ok (.enter 106 args) w := enters_of Tryz.func106 (by kernel_rfl) rfl
theorem ent107 : ∀ args (w : World), (callFunc 107 args).run Tryz.prog w = .ok (.enter 107 args) w := enters_of Tryz.func107 (by kernel_rfl) rfl
theorem ent108 : ∀ args (w : World), (callFunc 108 args).run Tryz.prog w = .ok (.enter 108 args) w := enters_of Tryz.func108 (by kernel_rfl) rfl
theorem ent109 : ∀ args (w : World), (callFunc 109 args).run Tryz.prog w = .ok (.enter 109 args) w := enters_of Tryz.func109 (by kernel_rfl) rfl
theorem ent110 : ∀ args (w : World), (callFunc 110 args).run Tryz.prog w = .ok (.enter 110 args) w := enters_of Tryz.func110 (by kernel_rfl) rfl
theorem ent111 : ∀ args (w : World), (callFunc 111 args).run Tryz.prog w = .ok (.enter 111 args) w := enters_of Tryz.func111 (by kernel_rfl) rfl
theorem ent12 : ∀ args (w : World), (callFunc 12 args).run Tryz.prog w = .ok (.enter 12 args) w := enters_of Tryz.func12 (by kernel_rfl) rfl
theorem ent121 : ∀ args (w : World), (callFunc 121 args).run Tryz.prog w = .ok (.enter 121 args) w := enters_of Tryz.func121 (by kernel_rfl) rfl
theorem ent122 : ∀ args (w : World), (callFunc 122 args).run Tryz.prog w = .ok (.enter 122 args) w := enters_of Tryz.func122 (by kernel_rfl) rfl
theorem ent123 : ∀ args (w : World), (callFunc 123 args).run Tryz.prog w = .ok (.enter 123 args) w := enters_of Tryz.func123 (by kernel_rfl) rfl
theorem ent124 : ∀ args (w : World), (callFunc 124 args).run Tryz.prog w = .ok (.enter 124 args) w := enters_of Tryz.func124 (by kernel_rfl) rfl
theorem ent125 : ∀ args (w : World), (callFunc 125 args).run Tryz.prog w = .ok (.enter 125 args) w := enters_of Tryz.func125 (by kernel_rfl) rfl
theorem ent126 : ∀ args (w : World), (callFunc 126 args).run Tryz.prog w = .ok (.enter 126 args) w := enters_of Tryz.func126 (by kernel_rfl) rfl
theorem ent13 : ∀ args (w : World), (callFunc 13 args).run Tryz.prog w = .ok (.enter 13 args) w := enters_of Tryz.func13 (by kernel_rfl) rfl
theorem ent131 : ∀ args (w : World), (callFunc 131 args).run Tryz.prog w = .ok (.enter 131 args) w := enters_of Tryz.func131 (by kernel_rfl) rfl
theorem ent132 : ∀ args (w : World), (callFunc 132 args).run Tryz.prog w = .ok (.enter 132 args) w := enters_of Tryz.func132 (by kernel_rfl) rfl
theorem ent133 : ∀ args (w : World), (callFunc 133 args).run Tryz.prog w = .ok (.enter 133 args) w := enters_of Tryz.func133 (by kernel_rfl) rfl
theorem ent135 : ∀ args (w : World), (callFunc 135 args).run Tryz.prog w = .ok (.enter 135 args) w := enters_of Tryz.func135 (by kernel_rfl) rfl
theorem ent14 : ∀ args (w : World), (callFunc 14 args).run Tryz.prog w = .ok (.enter 14 args) w := enters_of Tryz.func14 (by kernel_rfl) rfl
theorem ent15 : ∀ args (w : World), (callFunc 15 args).run Tryz.prog w = .ok (.enter 15 args) w := enters_of Tryz.func15 (by kernel_rfl) rfl
theorem ent16 : ∀ args (w : World), (callFunc 16 args).run Tryz.prog w = .ok (.enter 16 args) w := enters_of Tryz.func16 (by kernel_rfl) rfl
theorem ent160 : ∀ args (w : World), (callFunc 160 args).run Tryz.prog w = .ok (.enter 160 args) w := enters_of Tryz.func160 (by kernel_rfl) rfl
theorem ent161 : ∀ args (w : World), (callFunc 161 args).run Tryz.prog w = .ok (.enter 161 args) w := enters_of Tryz.func161 (by kernel_rfl) rfl
theorem ent162 : ∀ args (w : World), (callFunc 162 args).run Tryz.prog w = .ok (.enter 162 args) w := enters_of Tryz.func162 (by kernel_rfl) rfl
theorem ent163 : ∀ args (w : World), (callFunc 163 args).run Tryz.prog w = .ok (.enter 163 args) w := enters_of Tryz.func163 (by kernel_rfl) rfl
theorem ent164 : ∀ args (w : World), (callFunc 164 args).run Tryz.prog w = .ok (.enter 164 args) w := enters_of Tryz.func164 (by kernel_rfl) rfl
theorem ent165 : ∀ args (w : World), (callFunc 165 args).run Tryz.prog w = .ok (.enter 165 args) w := enters_of Tryz.func165 (by kernel_rfl) rfl
theorem ent166 : ∀ args (w : World), (callFunc 166 args).run Tryz.prog w = .ok (.enter 166 args) w := enters_of Tryz.func166 (by kernel_rfl) rfl
theorem ent167 : ∀ args (w : World), (callFunc 167 args).run Tryz.prog w = .ok (.enter 167 args) w := enters_of Tryz.func167 (by kernel_rfl) rfl
theorem ent168 : ∀ args (w : World), (callFunc 168 args).run Tryz.prog w = .ok (.enter 168 args) w := enters_of Tryz.func168 (by kernel_rfl) rfl
theorem ent169 : ∀ args (w : World), (callFunc 169 args).run Tryz.prog w = .ok (.enter 169 args) w := enters_of Tryz.func169 (by kernel_rfl) rfl
theorem ent17 : ∀ args (w : World), (callFunc 17 args).run Tryz.prog w = .ok (.enter 17 args) w := enters_of Tryz.func17 (by kernel_rfl) rfl
theorem ent170 : ∀ args (w : World), (callFunc 170 args).run Tryz.prog w = .ok (.enter 170 args) w := enters_of Tryz.func170 (by kernel_rfl) rfl
theorem ent171 : ∀ args (w : World), (callFunc 171 args).run Tryz.prog w = .ok (.enter 171 args) w := enters_of Tryz.func171 (by kernel_rfl) rfl
theorem ent172 : ∀ args (w : World), (callFunc 172 args).run Tryz.prog w = .ok (.enter 172 args) w := enters_of Tryz.func172 (by kernel_rfl) rfl
theorem ent173 : ∀ args (w : World), (callFunc 173 args).run Tryz.prog w = .ok (.enter 173 args) w := enters_of Tryz.func173 (by kernel_rfl) rfl
theorem ent174 : ∀ args (w : World), (callFunc 174 args).run Tryz.prog w = .ok (.enter 174 args) w := enters_of Tryz.func174 (by kernel_rfl) rfl
theorem ent175 : ∀ args (w : World), (callFunc 175 args).run Tryz.prog w = .ok (.enter 175 args) w := enters_of Tryz.func175 (by kernel_rfl) rfl
theorem ent176 : ∀ args (w : World), (callFunc 176 args).run Tryz.prog w = .ok (.enter 176 args) w := enters_of Tryz.func176 (by kernel_rfl) rfl
theorem ent18 : ∀ args (w : World), (callFunc 18 args).run Tryz.prog w = .ok (.enter 18 args) w := enters_of Tryz.func18 (by kernel_rfl) rfl
theorem ent19 : ∀ args (w : World), (callFunc 19 args).run Tryz.prog w = .ok (.enter 19 args) w := enters_of Tryz.func19 (by kernel_rfl) rfl
theorem ent20 : ∀ args (w : World), (callFunc 20 args).run Tryz.prog w = .ok (.enter 20 args) w := enters_of Tryz.func20 (by kernel_rfl) rfl
theorem ent21 : ∀ args (w : World), (callFunc 21 args).run Tryz.prog w = .ok (.enter 21 args) w := enters_of Tryz.func21 (by kernel_rfl) rfl
theorem ent22 : ∀ args (w : World), (callFunc 22 args).run Tryz.prog w = .ok (.enter 22 args) w := enters_of Tryz.func22 (by kernel_rfl) rfl
theorem ent23 : ∀ args (w : World), (callFunc 23 args).run Tryz.prog w = .ok (.enter 23 args) w := enters_of Tryz.func23 (by kernel_rfl) rfl
theorem ent29 : ∀ args (w : World), (callFunc 29 args).run Tryz.prog w = .ok (.enter 29 args) w := enters_of Tryz.func29 (by kernel_rfl) rfl
theorem ent30 : ∀ args (w : World), (callFunc 30 args).run Tryz.prog w = .ok (.enter 30 args) w := enters_of Tryz.func30 (by kernel_rfl) rfl
theorem ent31 : ∀ args (w : World), (callFunc 31 args).run Tryz.prog w = .ok (.enter 31 args) w := enters_of Tryz.func31 (by kernel_rfl) rfl
theorem ent32 : ∀ args (w : World), (callFunc 32 args).run Tryz.prog w = .ok (.enter 32 args) w := enters_of Tryz.func32 (by kernel_rfl) rfl
theorem ent33 : ∀ args (w : World), (callFunc 33 args).run Tryz.prog w = .ok (.enter 33 args) w := enters_of Tryz.func33 (by kernel_rfl) rfl
theorem ent34 : ∀ args (w : World), (callFunc 34 args).run Tryz.prog w = .ok (.enter 34 args) w := enters_of Tryz.func34 (by kernel_rfl) rfl
theorem ent35 : ∀ args (w : World), (callFunc 35 args).run Tryz.prog w = .ok (.enter 35 args) w := enters_of Tryz.func35 (by kernel_rfl) rfl
theorem ent36 : ∀ args (w : World), (callFunc 36 args).run Tryz.prog w = .ok (.enter 36 args) w := enters_of Tryz.func36 (by kernel_rfl) rfl
theorem ent38 : ∀ args (w : World), (callFunc 38 args).run Tryz.prog w = .ok (.enter 38 args) w := enters_of Tryz.func38 (by kernel_rfl) rfl
theorem ent39 : ∀ args (w : World), (callFunc 39 args).run Tryz.prog w = .ok (.enter 39 args) w := enters_of Tryz.func39 (by kernel_rfl) rfl
theorem ent40 : ∀ args (w : World), (callFunc 40 args).run Tryz.prog w = .ok (.enter 40 args) w := enters_of Tryz.func40 (by kernel_rfl) rfl
theorem ent41 : ∀ args (w : World), (callFunc 41 args).run Tryz.prog w = .ok (.enter 41 args) w := enters_of Tryz.func41 (by kernel_rfl) rfl
theorem ent42 : ∀ args (w : World), (callFunc 42 args).run Tryz.prog w = .ok (.enter 42 args) w := enters_of Tryz.func42 (by kernel_rfl) rfl
theorem ent43 : ∀ args (w : World), (callFunc 43 args).run Tryz.prog w = .ok (.enter 43 args) w := enters_of Tryz.func43 (by kernel_rfl) rfl
theorem ent44 : ∀ args (w : World), (callFunc 44 args).run Tryz.prog w = .ok (.enter 44 args) w := enters_of Tryz.func44 (by kernel_rfl) rfl
theorem ent45 : ∀ args (w : World), (callFunc 45 args).run Tryz.prog w = .ok (.enter 45 args) w := enters_of Tryz.func45 (by kernel_rfl) rfl
theorem ent51 : ∀ args (w : World), (callFunc 51 args).run Tryz.prog w = .ok (.enter 51 args) w := enters_of Tryz.func51 (by kernel_rfl) rfl
theorem ent52 : ∀ args (w : World), (callFunc 52 args).run Tryz.prog w = .ok (.enter 52 args) w := enters_of Tryz.func52 (by kernel_rfl) rfl
theorem ent54 : ∀ args (w : World), (callFunc 54 args).run Tryz.prog w = .ok (.enter 54 args) w := enters_of Tryz.func54 (by kernel_rfl) rfl
theorem ent6 : ∀ args (w : World), (callFunc 6 args).run Tryz.prog w = .ok (.enter 6 args) w := enters_of Tryz.func6 (by kernel_rfl) rfl
theorem ent60 : ∀ args (w : World), (callFunc 60 args).run Tryz.prog w = .ok (.enter 60 args) w := enters_of Tryz.func60 (by kernel_rfl) rfl
theorem ent61 : ∀ args (w : World), (callFunc 61 args).run Tryz.prog w = .ok (.enter 61 args) w := enters_of Tryz.func61 (by kernel_rfl) rfl
theorem ent62 : ∀ args (w : World), (callFunc 62 args).run Tryz.prog w = .ok (.enter 62 args) w := enters_of Tryz.func62 (by kernel_rfl) rfl
theorem ent63 : ∀ args (w : World), (callFunc 63 args).run Tryz.prog w = .ok (.enter 63 args) w := enters_of Tryz.func63 (by kernel_rfl) rfl
theorem ent64 : ∀ args (w : World), (callFunc 64 args).run Tryz.prog w = .ok (.enter 64 args) w := enters_of Tryz.func64 (by kernel_rfl) rfl
theorem ent65 : ∀ args (w : World), (callFunc 65 args).run Tryz.prog w = .ok (.enter 65 args) w := enters_of Tryz.func65 (by kernel_rfl) rfl
theorem ent66 : ∀ args (w : World), (callFunc 66 args).run Tryz.prog w = .ok (.enter 66 args) w := enters_of Tryz.func66 (by kernel_rfl) rfl
theorem ent8 : ∀ args (w : World), (callFunc 8 args).run Tryz.prog w = .ok (.enter 8 args) w := enters_of Tryz.func8 (by kernel_rfl) rfl
theorem ent83 : ∀ args (w : World), (callFunc 83 args).run Tryz.prog w = .ok (.enter 83 args) w := enters_of Tryz.func83 (by kernel_rfl) rfl
theorem ent84 : ∀ args (w : World), (callFunc 84 args).run Tryz.prog w = .ok (.enter 84 args) w := enters_of Tryz.func84 (by kernel_rfl) rfl
theorem ent85 : ∀ args (w : World), (callFunc 85 args).run Tryz.prog w = .ok (.enter 85 args) w := enters_of Tryz.func85 (by kernel_rfl) rfl
theorem ent86 : ∀ args (w : World), (callFunc 86 args).run Tryz.prog w = .ok (.enter 86 args) w := enters_of Tryz.func86 (by kernel_rfl) rfl
theorem ent87 : ∀ args (w : World), (callFunc 87 args).run Tryz.prog w = .ok (.enter 87 args) w := enters_of Tryz.func87 (by kernel_rfl) rfl
theorem ent88 : ∀ args (w : World), (callFunc 88 args).run Tryz.prog w = .ok (.enter 88 args) w := enters_of Tryz.func88 (by kernel_rfl) rfl
theorem ent89 : ∀ args (w : World), (callFunc 89 args).run Tryz.prog w = .ok (.enter 89 args) w := enters_of Tryz.func89 (by kernel_rfl) rfl
theorem ent9 : ∀ args (w : World), (callFunc 9 args).run Tryz.prog w = .ok (.enter 9 args) w := enters_of Tryz.func9 (by kernel_rfl) rfl
theorem finds157_takes : ∀ (rv : Value) (w : World), (method (Tryz.prog.types.size + Made.depth) 157 rv "windlass/patt.takes").run Tryz.prog w = .ok (160, rv) w := fun _ _ => by kernel_rfl
theorem finds160_takes : ∀ (rv : Value) (w : World), (method (Tryz.prog.types.size + Made.depth) 160 rv "windlass/patt.takes").run Tryz.prog w = .ok (161, rv) w := fun _ _ => by kernel_rfl
theorem finds176_takes : ∀ (rv : Value) (w : World), (method (Tryz.prog.types.size + Made.depth) 176 rv "windlass/patt.takes").run Tryz.prog w = .ok (162, rv) w := fun _ _ => by kernel_rfl
theorem fld127_0 : fldB Tryz.prog 127 0 0 = true := by kernel_rfl
theorem fld127_1 : fldB Tryz.prog 127 1 3 = true := by kernel_rfl
theorem fld127_2 : fldB Tryz.prog 127 2 4 = true := by kernel_rfl
theorem fld127_3 : fldB Tryz.prog 127 3 5 = true := by kernel_rfl
theorem fld157_0 : fldB Tryz.prog 157 0 0 = true := by kernel_rfl
theorem fld176_0 : fldB Tryz.prog 176 0 0 = true := by kernel_rfl
theorem fld176_1 : fldB Tryz.prog 176 1 1 = true := by kernel_rfl
theorem fld178_0 : fldB Tryz.prog 178 0 0 = true := by kernel_rfl
theorem fld178_1 : fldB Tryz.prog 178 1 1 = true := by kernel_rfl
theorem fld178_2 : fldB Tryz.prog 178 2 2 = true := by kernel_rfl
theorem fld24_0 : fldB Tryz.prog 24 0 0 = true := by kernel_rfl
theorem fld24_1 : fldB Tryz.prog 24 1 1 = true := by kernel_rfl
theorem fld24_2 : fldB Tryz.prog 24 2 2 = true := by kernel_rfl
theorem fld36_0 : fldB Tryz.prog 36 0 0 = true := by kernel_rfl
theorem fld36_1 : fldB Tryz.prog 36 1 1 = true := by kernel_rfl
theorem fld36_2 : fldB Tryz.prog 36 2 2 = true := by kernel_rfl
theorem fld36_3 : fldB Tryz.prog 36 3 3 = true := by kernel_rfl
theorem fld36_4 : fldB Tryz.prog 36 4 4 = true := by kernel_rfl
theorem fld36_5 : fldB Tryz.prog 36 5 5 = true := by kernel_rfl
theorem fld38_0 : fldB Tryz.prog 38 0 0 = true := by kernel_rfl
theorem fld38_1 : fldB Tryz.prog 38 1 1 = true := by kernel_rfl
theorem fld47_0 : fldB Tryz.prog 47 0 0 = true := by kernel_rfl
theorem fld47_1 : fldB Tryz.prog 47 1 3 = true := by kernel_rfl
theorem fld51_0 : fldB Tryz.prog 51 0 0 = true := by kernel_rfl
theorem fld51_1 : fldB Tryz.prog 51 1 1 = true := by kernel_rfl
theorem fld71_0 : fldB Tryz.prog 71 0 0 = true := by kernel_rfl
theorem fld71_1 : fldB Tryz.prog 71 1 1 = true := by kernel_rfl
theorem fld71_2 : fldB Tryz.prog 71 2 2 = true := by kernel_rfl
theorem lit105 : litB Tryz.prog 105 134 1 := ⟨by kernel_rfl, _, _, rfl, by kernel_rfl, rfl, by kernel_rfl⟩
theorem lit174 : litB Tryz.prog 174 178 3 := ⟨by kernel_rfl, _, _, rfl, by kernel_rfl, rfl, by kernel_rfl⟩
theorem lit29 : litB Tryz.prog 29 9 1 := ⟨by kernel_rfl, _, _, rfl, by kernel_rfl, rfl, by kernel_rfl⟩
theorem lit34 : litB Tryz.prog 34 38 2 := ⟨by kernel_rfl, _, _, rfl, by kernel_rfl, rfl, by kernel_rfl⟩
theorem lit48 : litB Tryz.prog 48 51 2 := ⟨by kernel_rfl, _, _, rfl, by kernel_rfl, rfl, by kernel_rfl⟩
theorem map203 : mapB Tryz.prog 203 135 := ⟨_, rfl, rfl⟩
theorem mixed : Tryz.prog.follows .mixedOrders = true := by kernel_rfl
theorem mk3 : (Tryz.prog.info? 3).any (fun i => Nat.beq (i.size) 1 && Nat.ble i.bytes 1000000) = true := by kernel_rfl
theorem one100 : oneB Tryz.prog 100 = true := by kernel_rfl
theorem one134 : oneB Tryz.prog 134 = true := by kernel_rfl
theorem one135 : oneB Tryz.prog 135 = true := by kernel_rfl
theorem one174 : oneB Tryz.prog 174 = true := by kernel_rfl
theorem one22 : oneB Tryz.prog 22 = true := by kernel_rfl
theorem one29 : oneB Tryz.prog 29 = true := by kernel_rfl
theorem one3 : oneB Tryz.prog 3 = true := by kernel_rfl
theorem one34 : oneB Tryz.prog 34 = true := by kernel_rfl
theorem one4 : oneB Tryz.prog 4 = true := by kernel_rfl
theorem one5 : oneB Tryz.prog 5 = true := by kernel_rfl
theorem one76 : oneB Tryz.prog 76 = true := by kernel_rfl
theorem one9 : oneB Tryz.prog 9 = true := by kernel_rfl
theorem size134 : sizeB Tryz.prog 134 1 = true := by kernel_rfl
theorem size135 : sizeB Tryz.prog 135 1 = true := by kernel_rfl
theorem size157 : sizeB Tryz.prog 157 1 = true := by kernel_rfl
theorem size174 : sizeB Tryz.prog 174 1 = true := by kernel_rfl
theorem size176 : sizeB Tryz.prog 176 2 = true := by kernel_rfl
theorem size178 : sizeB Tryz.prog 178 3 = true := by kernel_rfl
theorem size22 : sizeB Tryz.prog 22 1 = true := by kernel_rfl
theorem size24 : sizeB Tryz.prog 24 3 = true := by kernel_rfl
theorem size29 : sizeB Tryz.prog 29 1 = true := by kernel_rfl
theorem size3 : sizeB Tryz.prog 3 1 = true := by kernel_rfl
theorem size34 : sizeB Tryz.prog 34 1 = true := by kernel_rfl
theorem size36 : sizeB Tryz.prog 36 6 = true := by kernel_rfl
theorem size38 : sizeB Tryz.prog 38 2 = true := by kernel_rfl
theorem size4 : sizeB Tryz.prog 4 1 = true := by kernel_rfl
theorem size47 : sizeB Tryz.prog 47 4 = true := by kernel_rfl
theorem size5 : sizeB Tryz.prog 5 1 = true := by kernel_rfl
theorem size51 : sizeB Tryz.prog 51 2 = true := by kernel_rfl
theorem size76 : sizeB Tryz.prog 76 1 = true := by kernel_rfl
theorem size9 : sizeB Tryz.prog 9 1 = true := by kernel_rfl
theorem slice105 : sliceB Tryz.prog 105 134 1 16 := ⟨by kernel_rfl, by kernel_rfl, _, _, rfl, rfl, by kernel_rfl⟩
theorem slice174 : sliceB Tryz.prog 174 178 3 24 := ⟨by kernel_rfl, by kernel_rfl, _, _, rfl, rfl, by kernel_rfl⟩
theorem slice22 : sliceB Tryz.prog 22 36 6 72 := ⟨by kernel_rfl, by kernel_rfl, _, _, rfl, rfl, by kernel_rfl⟩
theorem slice29 : sliceB Tryz.prog 29 9 1 16 := ⟨by kernel_rfl, by kernel_rfl, _, _, rfl, rfl, by kernel_rfl⟩
theorem slice48 : sliceB Tryz.prog 48 51 2 32 := ⟨by kernel_rfl, by kernel_rfl, _, _, rfl, rfl, by kernel_rfl⟩
theorem u105 : Tryz.prog.underlying 105 = some (.slice 134) := by kernel_rfl
theorem u160 : Tryz.prog.underlying 160 = some (.int .u8) := by kernel_rfl
theorem u174 : Tryz.prog.underlying 174 = some (.slice 178) := by kernel_rfl
theorem u22 : Tryz.prog.underlying 22 = some (.slice 36) := by kernel_rfl
theorem u29 : Tryz.prog.underlying 29 = some (.slice 9) := by kernel_rfl
theorem u3 : Tryz.prog.underlying 3 = some (.int .i64) := by kernel_rfl
theorem u34 : Tryz.prog.underlying 34 = some (.slice 38) := by kernel_rfl
theorem u48 : Tryz.prog.underlying 48 = some (.slice 51) := by kernel_rfl
theorem u66 : Tryz.prog.underlying 66 = some (.slice 3) := by kernel_rfl
theorem u86 : Tryz.prog.underlying 86 = some (.int .u64) := by kernel_rfl
theorem u9 : Tryz.prog.underlying 9 = some (.string) := by kernel_rfl
theorem ux157 : Tryz.prog.underlying 157 = some ((Tryz.prog.underlying 157).getD .string) := by kernel_rfl
theorem ux176 : Tryz.prog.underlying 176 = some ((Tryz.prog.underlying 176).getD .string) := by kernel_rfl
theorem zero135 : zeroB Tryz.prog 135 [.nilFunc] := ⟨_, _, rfl, rfl, by kernel_rfl⟩
theorem zero157 : zeroB Tryz.prog 157 [.bool false] := ⟨_, _, rfl, rfl, by kernel_rfl⟩
theorem zero176 : zeroB Tryz.prog 176 [.slice none 0 0, .bool false] := ⟨_, _, rfl, rfl, by kernel_rfl⟩
theorem zero178 : zeroB Tryz.prog 178 [.int .u8 0, .int .u8 0, S []] := ⟨_, _, rfl, rfl, by kernel_rfl⟩
theorem zero24 : zeroB Tryz.prog 24 [.slice none 0 0, .int .i64 0, .int .i64 0] := ⟨_, _, rfl, rfl, by kernel_rfl⟩
theorem zero29 : zeroB Tryz.prog 29 [.slice none 0 0] := ⟨_, _, rfl, rfl, by kernel_rfl⟩
theorem zero3 : zeroB Tryz.prog 3 [.int .i64 0] := ⟨_, _, rfl, rfl, by kernel_rfl⟩
theorem zero36 : zeroB Tryz.prog 36 [.int .i64 0, .int .i64 0, .int .i64 0, S [], .slice none 0 0, .int .i64 0] := ⟨_, _, rfl, rfl, by kernel_rfl⟩
theorem zero38 : zeroB Tryz.prog 38 [S [], .int .i64 0] := ⟨_, _, rfl, rfl, by kernel_rfl⟩
theorem zero4 : zeroB Tryz.prog 4 [.bool false] := ⟨_, _, rfl, rfl, by kernel_rfl⟩
theorem zero47 : zeroB Tryz.prog 47 [.slice none 0 0, .int .i64 0, .int .i64 0, .int .i64 0] := ⟨_, _, rfl, rfl, by kernel_rfl⟩
theorem zero51 : zeroB Tryz.prog 51 [S [], S []] := ⟨_, _, rfl, rfl, by kernel_rfl⟩
theorem zero76 : zeroB Tryz.prog 76 [.int .i64 0] := ⟨_, _, rfl, rfl, by kernel_rfl⟩
theorem zero9 : zeroB Tryz.prog 9 [S []] := ⟨_, _, rfl, rfl, by kernel_rfl⟩
theorem zv157 : zvB Tryz.prog 157 (.agg ⟨[.bool false]⟩) := ⟨_, rfl, rfl⟩
theorem zvnil : zvB Tryz.prog 135 .nilFunc := ⟨_, rfl, rfl⟩
end Go.Proofs.YtncnalboiljgiaaGreat.T
