/-
  The reference's repetitions at a word's end; its least square-free word.
-/
import Derived.Test.YtnnboeeogbgmdaaRep2
namespace Go.Proofs.Ytnnboeeogbgmdaa
open Go.RowKit
set_option linter.unusedVariables false
theorem gb_cut (s : ByteArray) (i k j : Nat) (hk : k ≤ s.size) (hj : i + j < k) : gb (bl (s.extract i k)) j = gb (bl s) (i + j) := by
  unfold gb
  rw [bl_cut, List.getD_eq_getElem?_getD, List.getElem?_take, if_pos (by omega), List.getElem?_drop, List.getD_eq_getElem?_getD]
theorem perB_cut (s : ByteArray) (i k h : Nat) (hk : k ≤ s.size) (hik : i ≤ k) : perB (bl (s.extract i k)) 0 (k - i) h ↔ perB (bl s) i k h := by
  constructor
  · intro hp j a b
    have := hp (j - i) (by omega) (by omega)
    rw [gb_cut s i k _ hk (by omega), gb_cut s i k _ hk (by omega)] at this
    rw [show i + (j - i) = j by omega, show i + (j - i - h) = j - h by omega] at this
    exact this
  · intro hp j a b
    rw [gb_cut s i k _ hk (by omega), gb_cut s i k _ hk (by omega)]
    have := hp (i + j) (by omega) (by omega)
    rw [this, show i + j - h = i + (j - h) by omega]
/-- what l20Ends tells -/
def endsP (s : ByteArray) (h sz : Nat) : Prop := sz ≤ s.size ∧ perB (bl s) (s.size - sz) s.size h
/-- an answer that tells whether P -/
def RetP (P : Prop) (w : World) (e : Ending) (w' : World) : Prop := ∃ b : Bool, (b = true ↔ P) ∧ e = .returned (.bool b) ∧ Below w.heap.size w w'
theorem RetP.yes {P : Prop} {w w' : World} (h : P) (hb : Below w.heap.size w w') : RetP P w (.returned (.bool true)) w' := ⟨true, ⟨fun _ => h, fun _ => rfl⟩, rfl, hb⟩
theorem RetP.no {P : Prop} {w w' : World} (h : ¬ P) (hb : Below w.heap.size w w') : RetP P w (.returned (.bool false)) w' := ⟨false, ⟨fun h => (by cases h), fun h2 => absurd h2 h⟩, rfl, hb⟩
set_option maxRecDepth 20000 in
set_option maxHeartbeats 2000000 in
theorem l20Ends_any (s : ByteArray) (h n more : Nat) (w : World) (hs : s.size ≤ 100000) (hh1 : 1 ≤ h) (hh : h ≤ 100001) (hn : n ≤ 8) (hn1 : 1 ≤ n) (hm : more ≤ 1) :
    Calls Try.prog 93 #[.string s, .int .i64 (h : Nat), .int .i64 (n : Nat), .int .i64 (more : Nat)] w (RetP (endsP s h (h * n + more)) w) := by
  obtain ⟨q, hq⟩ : ∃ q, q = h * n := ⟨_, rfl⟩
  have hm1 : (h : Int) * (n : Int) = (q : Int) := by rw [hq]; simp
  have hb : q ≤ 900000 := by rw [hq]; exact Nat.le_trans (Nat.mul_le_mul hh hn) (by decide)
  have hqh : h ≤ q := by rw [hq]; exact Nat.le_mul_of_pos_right h (by omega)
  rw [← hq]
  clear hq
  obtain ⟨m, hqm⟩ : ∃ m, m = q + more := ⟨_, rfl⟩
  have hqi : (q : Int) + (more : Int) = (m : Int) := by omega
  rw [← hqm]
  have hhm : h ≤ m := by omega
  have hmb : m ≤ 900001 := by omega
  clear hqm
  by_cases hsz : m ≤ s.size
  · have x1 : (s.size : Int) - (m : Int) = ((s.size - m : Nat) : Int) := by omega
    have x2 : (0 : Int) ≤ ((s.size - m : Nat) : Int) := by omega
    have x3 : ((s.size - m : Nat) : Int) ≤ (s.size : Int) := by omega
    have HP := Lib.hid (perB_cut s (s.size - m) s.size h (Nat.le_refl _) (by omega))
    have hpsz : (s.extract (s.size - m) s.size).size = m := by rw [ByteArray.size_extract]; omega
    have HPS := Lib.hid hpsz
    clear hpsz
    go_enter Try.func93, Try.ntmps93
    go_upto_region 5 with fail
    have hps := HPS.out
    rw [show s.size - (s.size - m) = m by omega] at HP
    generalize s.extract (s.size - m) s.size = pt at *
    clear HPS
    subst hps
    have HEnd : Hid (perB (bl pt) 0 pt.size h → endsP s h pt.size) := Lib.hid (fun hp => ⟨hsz, HP.out.1 hp⟩)
    have HNo : Hid (∀ j, h ≤ j → j < pt.size → gb (bl pt) j ≠ gb (bl pt) (j - h) → ¬ endsP s h pt.size) := Lib.hid (fun j a b c hp => c (HP.out.2 hp.2 j (by omega) b))
    clear HP x1 x2 x3
    go_wp2_with fail
    go_loopw [11] (fun v wr => ∃ i : Nat, v = .int .i64 ((i : Nat) : Int) ∧ h ≤ i ∧ i ≤ pt.size ∧ Hid (perB (bl pt) 0 i h) ∧ Below w.heap.size w wr) (fun v _ => pt.size - (intOf v).toNat)
    case atStart => exact ⟨h, rfl, Nat.le_refl _, by omega, Lib.hid (fun j a b => by omega), Below.refl _ _⟩
    case round =>
      obtain ⟨i, rfl, hi1, hi2, hper, hbw⟩ := hrel
      by_cases hlt : i < pt.size
      · have q2 : (i : Int) - (h : Int) = ((i - h : Nat) : Int) := by omega
        have q3 : i - h < pt.size := by omega
        have q3' : i < pt.size := by omega
        have q4 : ((i - h : Nat) : Int) < (pt.size : Int) := by omega
        have q5 : (0 : Int) ≤ ((i - h : Nat) : Int) := by omega
        have q6 : (i : Int) < (pt.size : Int) := by omega
        have e1 := gb_byte q3'
        have e2 := gb_byte q3
        have HE : Hid (pt[i].toNat = pt[i - h].toNat ↔ gb (bl pt) i = gb (bl pt) (i - h)) := Lib.hid (by rw [e1, e2]; exact UInt8.toNat_inj)
        clear e1 e2
        go_wp2_with fail
        by_cases hxy : pt[i].toNat = pt[i - h].toNat
        · have HR2 : Hid (perB (bl pt) 0 (i + 1) h) := Lib.hid (fun j a b => by
            by_cases e : j = i
            · rw [e]; exact HE.out.1 hxy
            · exact hper.out j a (by omega))
          have hbq : (((pt[i].toNat : Nat) : Int) != ((pt[i - h].toNat : Nat) : Int)) = false := by rw [hxy]; simp
          go_quiet (fail)
          have hb2 := below_drewN hbw nq
          clear hbq hxy HE hbw
          go_wp2_with fail
          go_roundw
          case rel => exact ⟨i + 1, by go_num, by omega, by omega, HR2, hb2⟩
          case measure => simp [intOf]; omega
        · have F := Lib.hid (HNo.out i hi1 hlt (fun e => hxy (HE.out.2 e)))
          have hbq : (((pt[i].toNat : Nat) : Int) != ((pt[i - h].toNat : Nat) : Int)) = true := by simp; omega
          go_quiet (fail)
          have hb2 := below_drewN hbw nq
          clear hbq hxy HE hbw
          go_wp2_with fail
          go_ret
          exact RetP.no F.out hb2
      · obtain rfl : i = pt.size := by omega
        have F := Lib.hid (HEnd.out hper.out)
        have q1 : ¬ (pt.size : Int) < (pt.size : Int) := by omega
        go_wp2_with fail
        go_ret
        exact RetP.yes F.out hbw
  · have F : Hid (¬ endsP s h m) := Lib.hid (fun hp => hsz hp.1)
    have x0 : (s.size : Int) < (m : Int) := by omega
    go_enter Try.func93, Try.ntmps93
    go_wp2_with fail
    go_ret
    exact RetP.no F.out (Below.refl _ _)
end Go.Proofs.Ytnnboeeogbgmdaa
