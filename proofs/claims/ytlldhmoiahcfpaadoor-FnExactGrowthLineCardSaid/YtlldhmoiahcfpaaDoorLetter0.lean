/-
  Letters: the text of one byte.
-/
import Derived.Test.YtlldhmoiahcfpaaDoorStrs
import Derived.Laws.BytesArg
namespace Go.Proofs.YtlldhmoiahcfpaaDoor
open Go.RowKit
set_option linter.unusedVariables false
/-- a text of one byte -/
def oneC (x : Int) : ByteArray := ⟨#[UInt8.ofNat x.toNat]⟩
theorem convC (w : World) (x : Int) :
    (convert 48 9 (.slice (some ⟨w.heap.size, 0, none⟩) 1 1)).run Tryd.prog (w.alloc (.cells #[.int .u8 x] 5)) = .ok (.string (oneC x)) (w.alloc (.cells #[.int .u8 x] 5)) :=
  run_convert_bytes_arg (P := Tryd.prog) (w.alloc (.cells #[.int .u8 x] 5)) 48 5 Tryd.underlying48 Tryd.underlying5 w.heap.size 0 1 1 [x] rfl (fun i hi => by
    obtain rfl : i = 0 := by omega
    simp) 9 Tryd.underlying9
/-- the letter of a number -/
def letterN (x : Nat) : ByteArray := oneC (97 + (x : Int))
theorem letterN_size (x : Nat) : (letterN x).size = 1 := rfl
theorem letterOf_any (x : Nat) (w : World) (hx : x < 26) : Calls Tryd.prog 60 #[.int .i64 (x : Nat)] w fun e w' => e = .returned (.string (letterN x)) ∧ Below w.heap.size w w' := by
  have kc := convC
  have hu : IntKind.u8.wrap (97 + (x : Int)) = 97 + (x : Int) := by simp [IntKind.wrap, IntKind.signed, IntKind.bits]; omega
  have HL : Hid (oneC (97 + (x : Int)) = letterN x) := Lib.hid rfl
  go_enter Tryd.func60, Tryd.ntmps60
  go_wp2_with fail
  go_ret
  exact ⟨rfl, (Below.refl _ _).alloc (Nat.le_refl _) _⟩
end Go.Proofs.YtlldhmoiahcfpaaDoor
