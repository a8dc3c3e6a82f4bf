/-
  Does a word begin with another one? (the reference's l22Begins)
-/
import Derived.Test.YtlldhmoiahcfpaaHas
namespace Go.Proofs.Ytlldhmoiahcfpaa
open Go.RowKit
set_option linter.unusedVariables false
/-- p begins s -/
def begP (s p : ByteArray) : Prop := p.size ≤ s.size ∧ s.extract 0 p.size = p
set_option maxHeartbeats 400000 in
theorem l22Begins_any (s p : ByteArray) (w : World) (hs : s.size ≤ maxLen) (hp : p.size ≤ maxLen) :
    Calls Try.prog 34 #[.string s, .string p] w (RetP (begP s p) w) := by
  unfold maxLen at hs hp
  by_cases h : p.size ≤ s.size
  · have q0 : (p.size : Int) ≤ (s.size : Int) := by omega
    cases hb : ((s.extract 0 p.size).toList == p.toList)
    · have F : Hid (¬ begP s p) := Lib.hid (fun h2 => by rw [bytes_eq.2 h2.2] at hb; cases hb)
      go_enter Try.func34, Try.ntmps34
      go_wp2_with fail
      go_ret
      exact RetP.no F.out (Below.refl _ _)
    · have F : Hid (begP s p) := Lib.hid ⟨h, bytes_eq.1 hb⟩
      go_enter Try.func34, Try.ntmps34
      go_wp2_with fail
      go_ret
      exact RetP.yes F.out (Below.refl _ _)
  · have F : Hid (¬ begP s p) := Lib.hid (fun h2 => h h2.1)
    have q0 : ¬ (p.size : Int) ≤ (s.size : Int) := by omega
    go_enter Try.func34, Try.ntmps34
    go_wp2_with fail
    go_ret
    exact RetP.no F.out (Below.refl _ _)
end Go.Proofs.Ytlldhmoiahcfpaa
