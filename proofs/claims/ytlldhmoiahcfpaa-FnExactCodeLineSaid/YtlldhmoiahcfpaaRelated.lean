/-
  The program's related, IsPrefixCode, IsSuffixCode.
-/
import Derived.Test.YtlldhmoiahcfpaaMirror
import Derived.Test.YtlldhmoiahcfpaaListOkI
import Derived.Test.YtlldhmoiahcfpaaOrdered
import Derived.Shelf.Abstract
namespace Go.Proofs.Ytlldhmoiahcfpaa
open Go.RowKit
set_option linter.unusedVariables false
/-- no pair before (j, k) holds -/
def RelNo (l : List ByteArray) (Rb : ByteArray → ByteArray → Bool) (j k : Nat) : Prop := ∀ i' k', k' < l.length → (i' < j ∨ (i' = j ∧ k' < k)) → ¬ (nthS l i' ≠ nthS l k' ∧ Rb (nthS l i') (nthS l k') = true)
theorem RelNo.zero (l : List ByteArray) (Rb : ByteArray → ByteArray → Bool) : RelNo l Rb 0 0 := fun i' k' h1 h2 => by omega
theorem RelNo.next {l : List ByteArray} {Rb : ByteArray → ByteArray → Bool} {j k : Nat} (h : RelNo l Rb j k) (hn : ¬ (nthS l j ≠ nthS l k ∧ Rb (nthS l j) (nthS l k) = true)) : RelNo l Rb j (k + 1) := fun i' k' h1 h2 => by
  by_cases e : i' = j ∧ k' = k
  · rw [e.1, e.2]; exact hn
  · exact h i' k' h1 (by omega)
theorem RelNo.row {l : List ByteArray} {Rb : ByteArray → ByteArray → Bool} {j : Nat} (h : RelNo l Rb j l.length) : RelNo l Rb (j + 1) 0 := fun i' k' h1 h2 => h i' k' h1 (by omega)
def relP (l : List ByteArray) (Rb : ByteArray → ByteArray → Bool) : Prop := ∃ x ∈ l, ∃ y ∈ l, x ≠ y ∧ Rb x y = true
theorem RelNo.all {l : List ByteArray} {Rb : ByteArray → ByteArray → Bool} (h : RelNo l Rb l.length 0) : ¬ relP l Rb := by
  rintro ⟨x, hx, y, hy, h1⟩
  obtain ⟨i, hi, rfl⟩ := mem_nthS hx
  obtain ⟨k, hk, rfl⟩ := mem_nthS hy
  exact h i k hk (.inl hi) h1
set_option maxHeartbeats 1000000 in
theorem related_any (l : List ByteArray) (g : Nat) (Rb : ByteArray → ByteArray → Bool) (a : Option Addr) (cap : Nat) (w : World) (hl : StrsIn w a l) (hok : LOk l) (hf : ∀ x y W, x.size ≤ 6 → Calls Try.prog g #[.string x, .string y] W fun e W' => e = .returned (.bool (Rb x y)) ∧ W' = W) (eg : ∀ args w, (callFunc g args).run Try.prog w = .ok (.enter g args) w) :
    Calls Try.prog 29 #[.slice a l.length cap, .func (.func g) #[] #[]] w (RetP (relP l Rb) w) := by
  have HL := Lib.hid hl
  have HK := Lib.hid hok
  have HF := Lib.hid hf
  have hl8 := hok.hi
  clear hl hok hf
  go_enter Try.func29, Try.ntmps29
  go_wp2_with fail
  go_loop [11] (fun i => ∃ j : Nat, j ≤ l.length ∧ i = .int .i64 (j : Nat) ∧ Hid (RelNo l Rb j 0)) (fun i => l.length - (intOf i).toNat)
  case atStart => exact ⟨0, Nat.zero_le _, rfl, Lib.hid (RelNo.zero _ _)⟩
  case round =>
    obtain ⟨j, hj, rfl, hno⟩ := hrel
    by_cases hlt : j < l.length
    · obtain ⟨b, off, rfl, hb, hc⟩ := HL.out.cell hlt
      have c1 := hc j hlt
      have HC := Lib.hid hc
      have hx6 := HK.out.sz hlt
      clear hc
      go_wp2_with fail
      go_loop [17] (fun i => ∃ k : Nat, k ≤ l.length ∧ i = .int .i64 (k : Nat) ∧ Hid (RelNo l Rb j k)) (fun i => l.length - (intOf i).toNat)
      case atStart => exact ⟨0, Nat.zero_le _, rfl, hno⟩
      case round =>
        clear hno
        obtain ⟨k, hk, rfl, hno⟩ := hrel
        by_cases hlk : k < l.length
        · have c2 := HC.out k hlk
          have HNX : Hid (¬ (nthS l j ≠ nthS l k ∧ Rb (nthS l j) (nthS l k) = true) → RelNo l Rb j (k + 1)) := Lib.hid (fun h => hno.out.next h)
          have HYE : Hid (nthS l j ≠ nthS l k ∧ Rb (nthS l j) (nthS l k) = true → relP l Rb) := Lib.hid (fun h => ⟨_, nthS_mem hlt, _, nthS_mem hlk, h⟩)
          generalize nthS l j = x at *
          generalize nthS l k = y at *
          cases hq : (x.toList == y.toList)
          · have hn : (x.toList != y.toList) = true := by rw [bne, hq]; rfl
            have HNE : Hid (x ≠ y) := Lib.hid (fun h => by rw [bytes_eq.2 h] at hq; cases hq)
            have HFF := Lib.hid (fun W => HF.out x y W hx6)
            cases hr : Rb x y
            · have F := Lib.hid (HNX.out (fun h => by rw [h.2] at hr; cases hr))
              rw [hr] at HFF
              go_wp2_with fail
              refine (HFF.out _).mono ?_
              rintro e w' ⟨rfl, rfl⟩
              go_wp2_with fail
              go_round
              case rel => exact ⟨k + 1, by omega, by go_num, F⟩
              case measure => simp [intOf]; omega
            · have F := Lib.hid (HYE.out ⟨HNE.out, hr⟩)
              rw [hr] at HFF
              go_wp2_with fail
              refine (HFF.out _).mono ?_
              rintro e w' ⟨rfl, rfl⟩
              go_wp2_with fail
              go_ret
              exact RetP.yes F.out (Below.refl _ _)
          · have hn : (x.toList != y.toList) = false := by rw [bne, hq]; rfl
            have F := Lib.hid (HNX.out (fun h => h.1 (bytes_eq.1 hq)))
            go_wp2_with fail
            go_round
            case rel => exact ⟨k + 1, by omega, by go_num, F⟩
            case measure => simp [intOf]; omega
        · obtain rfl : k = l.length := by omega
          have F := Lib.hid hno.out.row
          go_wp2_with fail
          go_round
          case rel => exact ⟨j + 1, by omega, by go_num, F⟩
          case measure => simp [intOf]; omega
    · obtain rfl : j = l.length := by omega
      have F := Lib.hid hno.out.all
      go_wp2_with fail
      go_ret
      exact RetP.no F.out (Below.refl _ _)
theorem hasPre_iff (x y : ByteArray) : Lib.hasPrefix x.data.toList y.data.toList = true ↔ begP x y := by
  rw [begP_iff]; unfold Lib.hasPrefix; exact List.isPrefixOf_iff_prefix
theorem hasSuf_iff (x y : ByteArray) : Lib.hasSuffix x.data.toList y.data.toList = true ↔ endP x y := by
  rw [endP_iff]; unfold Lib.hasSuffix; exact List.isSuffixOf_iff_suffix
def preB (x y : ByteArray) : Bool := Lib.hasPrefix x.data.toList y.data.toList
def sufB (x y : ByteArray) : Bool := Lib.hasSuffix x.data.toList y.data.toList
theorem preB_rel {l : List ByteArray} (h : listP l) : prefP l ↔ ¬ relP l preB :=
  ⟨fun h1 ⟨x, hx, y, hy, hne, hb⟩ => h1.2 x hx y hy hne ((hasPre_iff x y).1 hb), fun h1 => ⟨h, fun x hx y hy hne hb => h1 ⟨x, hx, y, hy, hne, (hasPre_iff x y).2 hb⟩⟩⟩
theorem sufB_rel {l : List ByteArray} (h : listP l) : suffP l ↔ ¬ relP l sufB :=
  ⟨fun h1 ⟨x, hx, y, hy, hne, hb⟩ => h1.2 x hx y hy hne ((hasSuf_iff x y).1 hb), fun h1 => ⟨h, fun x hx y hy hne hb => h1 ⟨x, hx, y, hy, hne, (hasSuf_iff x y).2 hb⟩⟩⟩
set_option maxHeartbeats 400000 in
theorem implIsPrefixCode_any (l : List ByteArray) (a : Option Addr) (cap : Nat) (w : World) (hl : StrsIn w a l) (hlen : l.length ≤ 2 ^ 40) (hcap : l.length ≤ cap) (hsz : ∀ j, j < l.length → (nthS l j).size ≤ maxLen) :
    Calls Try.prog 15 #[.slice a l.length cap] w (RetP (prefP l) w) := by
  have HL := Lib.hid hl
  have HOK := Lib.hid (fun W h => implListOk_any l a cap W h hlen hcap hsz)
  clear hl hsz
  go_enter Try.func15, Try.ntmps15
  go_wp2_with fail
  refine (HOK.out _ HL.out).mono ?_
  rintro e w1 ⟨bb, hbb, rfl, hb1⟩
  have HBB := Lib.hid hbb
  have HB1 := Lib.hid hb1
  clear hbb hb1 HOK
  cases bb
  · have F : Hid (RetP (prefP l) w (.returned (.bool false)) w1) := Lib.hid (RetP.no (fun h => by have := HBB.out.2 h.1; cases this) HB1.out)
    go_wp2_with fail
    go_ret
    exact F.out
  · have HLP := Lib.hid (HBB.out.1 rfl)
    have HR := Lib.hid (fun W h => related_any l 30 preB a cap W h (LOk.of HLP.out) (fun x y W2 hx => Try.strings_HasPrefix x y W2) (enters_of Try.func30 (by kernel_rfl) rfl))
    go_wp2_with fail
    refine (HR.out _ (HL.out.later HB1.out)).mono ?_
    rintro e w2 ⟨b2, hb2, rfl, hb3⟩
    have F : Hid (RetP (prefP l) w (.returned (.bool !b2)) w2) := Lib.hid (by
      cases b2
      · exact RetP.yes ((preB_rel HLP.out).2 (fun h => by have := hb2.2 h; cases this)) (Below.now HB1.out hb3)
      · exact RetP.no (fun h => (preB_rel HLP.out).1 h (hb2.1 rfl)) (Below.now HB1.out hb3))
    clear hb2 hb3 HR
    go_wp2_with fail
    go_ret
    exact F.out
set_option maxHeartbeats 400000 in
theorem implIsSuffixCode_any (l : List ByteArray) (a : Option Addr) (cap : Nat) (w : World) (hl : StrsIn w a l) (hlen : l.length ≤ 2 ^ 40) (hcap : l.length ≤ cap) (hsz : ∀ j, j < l.length → (nthS l j).size ≤ maxLen) :
    Calls Try.prog 16 #[.slice a l.length cap] w (RetP (suffP l) w) := by
  have HL := Lib.hid hl
  have HOK := Lib.hid (fun W h => implListOk_any l a cap W h hlen hcap hsz)
  clear hl hsz
  go_enter Try.func16, Try.ntmps16
  go_wp2_with fail
  refine (HOK.out _ HL.out).mono ?_
  rintro e w1 ⟨bb, hbb, rfl, hb1⟩
  have HBB := Lib.hid hbb
  have HB1 := Lib.hid hb1
  clear hbb hb1 HOK
  cases bb
  · have F : Hid (RetP (suffP l) w (.returned (.bool false)) w1) := Lib.hid (RetP.no (fun h => by have := HBB.out.2 h.1; cases this) HB1.out)
    go_wp2_with fail
    go_ret
    exact F.out
  · have HLP := Lib.hid (HBB.out.1 rfl)
    have HR := Lib.hid (fun W h => related_any l 31 sufB a cap W h (LOk.of HLP.out) (fun x y W2 hx => Try.strings_HasSuffix x y W2 (by omega)) (enters_of Try.func31 (by kernel_rfl) rfl))
    go_wp2_with fail
    refine (HR.out _ (HL.out.later HB1.out)).mono ?_
    rintro e w2 ⟨b2, hb2, rfl, hb3⟩
    have F : Hid (RetP (suffP l) w (.returned (.bool !b2)) w2) := Lib.hid (by
      cases b2
      · exact RetP.yes ((sufB_rel HLP.out).2 (fun h => by have := hb2.2 h; cases this)) (Below.now HB1.out hb3)
      · exact RetP.no (fun h => (sufB_rel HLP.out).1 h (hb2.1 rfl)) (Below.now HB1.out hb3))
    clear hb2 hb3 HR
    go_wp2_with fail
    go_ret
    exact F.out
end Go.Proofs.Ytlldhmoiahcfpaa
