/- The library's functions that this chapter calls, by the shelf's contracts, in the walk's form. -/
import Derived.Test.YtbnbkndeodankaaKitH
import Derived.Test.YtbnbkndeodankaaShelf
import Derived.Lib.IndexAny
set_option linter.unusedVariables false
set_option autoImplicit false
namespace Go.Proofs.Ytbnbkndeodankaa.K
open Go Go.Proofs Go.RowKit
/-- The first place of a byte, or -1. -/
def idx (s : Bytes) (c : UInt8) : Int := Lib.indexByte s c
theorem IndexByte_spec (s : Bytes) (c : UInt8) (w : World) : CallR Try.prog 29 #[S s, .int .u8 (c.toNat : Int)] w fun v w' => v = .int .i64 (idx s c) ∧ Chg [] w w' :=
  CallR.of (Try.strings_IndexByte ⟨⟨s⟩⟩ (c.toNat : Int) w) fun e w' ⟨h1, h2⟩ => ⟨_, h1, by simp [idx], .refl' h2⟩
theorem idx_neg {s : Bytes} {c : UInt8} : idx s c < 0 ↔ s.contains c = false := by
  rw [idx, Lib.contains_iff_indexByte]; simp
theorem repeatL_one (c : UInt8) : ∀ n : Nat, Lib.repeatL [c] n = List.replicate n c
  | 0 => rfl
  | n + 1 => by simp [Lib.repeatL, repeatL_one c n, List.replicate_succ]
theorem Repeat_spec (c : UInt8) (n : Nat) (w : World) (hn : n ≤ 140737488355328) : CallR Try.prog 22 #[S [c], .int .i64 (n : Int)] w fun v w' => v = S (List.replicate n c) ∧ Chg [] w w' :=
  CallR.of (Try.strings_Repeat ⟨⟨[c]⟩⟩ n w (by omega) (by show 1 * n ≤ _; omega)) fun e w' ⟨h1, h2⟩ => ⟨_, h1, by show Value.string ⟨(Lib.repeatL [c] n).toArray⟩ = _; rw [repeatL_one]; rfl, .of_below h2⟩
end Go.Proofs.Ytbnbkndeodankaa.K
