/-
  ZeroOf of the reference.
-/
import Derived.Test.YtkkffaiacipibaaZeroOf
namespace Go.Proofs.Ytkkffaiacipibaa
open Go.RowKit
set_option linter.unusedVariables false
/-- the first x of them hold -/
def allN (p : Nat → Bool) (x : Nat) : Bool := (List.range x).all p
theorem allN_zero (p : Nat → Bool) : allN p 0 = true := by simp [allN]
theorem allN_succ (p : Nat → Bool) (x : Nat) : allN p (x + 1) = (allN p x && p x) := by simp [allN, List.range_succ]
theorem zeroF_at {m : Nat} {ln : List Nat} (ht : tabB (m : Nat) (ln.map Int.ofNat) = true) {c : Nat} (hn : ∀ z, z < c → zeroB m ln z = false) (hc : c < m) (hz : zeroB m ln c = true) : zeroF (m : Nat) (ln.map Int.ofNat) = (c : Nat) := by
  unfold zeroF thoseL
  rw [ht, map_toNat]
  simp only [if_true, Int.toNat_natCast]
  have h1 : (List.range m).filter (zeroB m ln) = c :: ((List.range m).drop (c + 1)).filter (zeroB m ln) := by
    have h2 : List.range m = (List.range m).take c ++ (c :: (List.range m).drop (c + 1)) := by
      have hd : (List.range m).drop c = c :: (List.range m).drop (c + 1) := by rw [List.drop_eq_getElem_cons (by simpa using hc)]; simp
      rw [← hd, List.take_append_drop]
    rw [h2, List.filter_append, List.filter_cons, if_pos hz]
    have h3 : ((List.range m).take c).filter (zeroB m ln) = [] := by
      rw [List.filter_eq_nil_iff]
      intro z hz
      rw [List.take_range] at hz
      have := hn z (by have := List.mem_range.1 hz; omega)
      simp [this]
    rw [h3, ← h2]
    simp
  rw [h1]
  rfl
theorem zeroF_none {m : Nat} {ln : List Nat} {c : Nat} (hn : ∀ z, z < c → zeroB m ln z = false) (hc : ¬ c < m) : zeroF (m : Nat) (ln.map Int.ofNat) = -1 := by
  unfold zeroF thoseL
  rw [map_toNat]
  simp only [Int.toNat_natCast]
  have h1 : (List.range m).filter (zeroB m ln) = [] := by
    rw [List.filter_eq_nil_iff]
    intro z hz
    have := hn z (by have := List.mem_range.1 hz; omega)
    simp [this]
  rw [h1]
  split <;> rfl
theorem zeroF_not {n : Int} {l : List Int} (h : tabB n l = false) : zeroF n l = -1 := by unfold zeroF thoseL; rw [h]; rfl
theorem noneZ_succ {p : Nat → Bool} {c : Nat} (h : ∀ z, z < c → p z = false) (hc : p c = false) : ∀ z, z < c + 1 → p z = false := fun z hz => by
  by_cases e : z = c
  · rw [e]; exact hc
  · exact h z (by omega)
set_option maxRecDepth 100000 in
set_option maxHeartbeats 1000000 in
theorem specZeroOf_any (n : Int) (l : List Int) (a : Option Addr) (cap : Nat) (w : World) (hl : IntsIn w a l) (hlen : l.length ≤ 2 ^ 47) :
    Calls Try.prog 18 #[.agg #[.int .i64 n, .slice a l.length cap]] w fun e w' => e = .returned (.int .i64 (zeroF n l)) ∧ Below w.heap.size w w' := by
  have HI := Lib.hid hl
  clear hl
  cases ht : tabB n l
  · have F := Lib.hid (zeroF_not ht)
    go_enter Try.func18, Try.ntmps18
    go_wp2_with fail
    refine (specTableOk_any n l a cap _ (HI.out.later ((Below.refl _ _).alloc (Nat.le_refl _) _)) hlen).mono ?_
    rintro e w2 ⟨rfl, hb2⟩
    have hbel := Below.now ((Below.refl w.heap.size w).alloc (Nat.le_refl _) _) hb2
    clear hb2
    go_wp2_with fail
    go_ret
    exact ⟨ret_int F.out.symm, hbel⟩
  obtain ⟨m, ln, rfl, hlm, hT⟩ := tabOk_out ht
  have HT := Lib.hid hT.toTb
  have hm0 := hT.lo
  have hm1 := hT.hi
  have HLM := Lib.hid hlm
  have HTB : Hid (tabB (m : Nat) (ln.map Int.ofNat) = true) := by rw [← hlm]; exact ht
  have HLL : Hid (l.length = m * m) := by rw [hlm, List.length_map]; exact hT.len
  clear hT hlm
  go_enter Try.func18, Try.ntmps18
  go_wp2_with fail
  refine (specTableOk_any _ l a cap _ (HI.out.later ((Below.refl _ _).alloc (Nat.le_refl _) _)) hlen).mono ?_
  rintro e w1 ⟨rfl, hb1⟩
  have hx0 := box_later hb1 (i := 0) (v := .int .i64 (m : Nat)) rfl
  have hx1 := box_later hb1 (i := 1) (v := .slice a l.length cap) rfl
  have HN1 : Hid (∀ W, Below w1.heap.size w1 W → NatsIn W a ln) := fun W hW => by
    unfold NatsIn
    rw [← HLM.out]
    exact (HI.out.later (Below.now ((Below.refl _ _).alloc (Nat.le_refl _) _) hb1)).later hW
  have hbel := Lib.hid (Below.now ((Below.refl w.heap.size w).alloc (Nat.le_refl _) _) hb1)
  have hb0 := Below.refl w1.heap.size w1
  clear hb1 HI
  go_wp2_with fail
  go_loopw [3] (fun i wr => ∃ c : Nat, c ≤ m ∧ i = .int .i64 c ∧ Below w1.heap.size w1 wr ∧ ∀ z, z < c → zeroB m ln z = false) (fun i _ => m - (intOf i).toNat)
  case atStart => exact ⟨0, Nat.zero_le _, rfl, Below.refl _ _, fun _ h => absurd h (Nat.not_lt_zero _)⟩
  case round =>
    obtain ⟨c, hcm, rfl, hbw, hrows⟩ := hrel
    have HR := Lib.hid hrows
    clear hrows hb0
    by_cases hlt : c < m
    · go_wp2_with fail
      go_loopw [4, 5] (fun q i wr => ∃ x : Nat, x ≤ m ∧ i = .int .i64 x ∧ q = .bool (allN (zerB m ln c) x) ∧ Below w1.heap.size w1 wr) (fun _ i _ => m - (intOf i).toNat)
      case atStart => exact ⟨0, Nat.zero_le _, rfl, by rw [allN_zero], hbw⟩
      case round =>
        clear hbw
        obtain ⟨x, hxm, rfl, rfl, hbx⟩ := hrel
        have HS := Lib.hid (allN_succ (zerB m ln c) x)
        by_cases hlx : x < m
        · cases hq : allN (zerB m ln c) x
          · go_wp2_with fail
            go_roundw
            case rel => exact ⟨x + 1, by omega, by go_num, by rw [HS.out, hq]; rfl, hbx⟩
            case measure => simp [intOf]; omega
          · go_wp2_with fail
            refine (specTimes_any m ln a _ _ c x _ (HN1.out _ hbx) HT.out HLL.out hlt hlx).mono ?_
            rintro e w2 ⟨rfl, hb2⟩
            have hbx2 := Below.now hbx hb2
            clear hb2 hbx
            cases e1 : (((tm m ln c x : Nat) : Int) == ((c : Nat) : Int))
            · have F := Lib.hid (zerB_of1 e1)
              go_wp2_with fail
              go_roundw
              case rel => exact ⟨x + 1, by omega, by go_num, by rw [HS.out, hq, F.out]; rfl, hbx2⟩
              case measure => simp [intOf]; omega
            · have F := Lib.hid (zerB_of2 (b := (((tm m ln x c : Nat) : Int) == ((c : Nat) : Int))) e1 rfl)
              go_wp2_with fail
              refine (specTimes_any m ln a _ _ x c _ (HN1.out _ hbx2) HT.out HLL.out hlx hlt).mono ?_
              rintro e w3 ⟨rfl, hb3⟩
              have hbx3 := Below.now hbx2 hb3
              clear hb3 hbx2
              go_wp2_with fail
              go_roundw
              case rel => exact ⟨x + 1, by omega, by go_num, by rw [HS.out, hq, F.out]; rfl, hbx3⟩
              case measure => simp [intOf]; omega
        · obtain rfl : x = m := by omega
          have HZ : Hid (zeroB x ln c = allN (zerB x ln c) x) := rfl
          cases hq : allN (zerB x ln c) x
          · rw [hq] at HZ
            have F := Lib.hid (noneZ_succ HR.out HZ.out)
            go_wp2_with fail
            go_roundw
            case rel => exact ⟨c + 1, by omega, by go_num, hbx, F.out⟩
            case measure => simp [intOf]; omega
          · rw [hq] at HZ
            have F := Lib.hid (zeroF_at HTB.out HR.out hlt HZ.out)
            go_wp2_with fail
            go_ret
            exact ⟨ret_int (by rw [HLM.out, F.out]), Below.now hbel.out hbx⟩
    · have F := Lib.hid (zeroF_none HR.out hlt)
      go_wp2_with fail
      go_ret
      exact ⟨ret_int (by rw [HLM.out, F.out]), Below.now hbel.out hbw⟩
end Go.Proofs.Ytkkffaiacipibaa
