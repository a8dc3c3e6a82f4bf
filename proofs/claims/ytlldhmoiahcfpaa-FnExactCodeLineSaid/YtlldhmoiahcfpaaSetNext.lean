/-
  The reference's next set of tails: l22Next.
-/
import Derived.Test.YtlldhmoiahcfpaaSetFns
namespace Go.Proofs.Ytlldhmoiahcfpaa
open Go.RowKit
set_option linter.unusedVariables false
/-- the two things that a pair gives -/
def nextR2 (l X : List ByteArray) (i m : Nat) (u : ByteArray) : Prop :=
  (m % 2 = 0 ∧ (nthS X i).size ≠ 0 ∧ begP (nthS l (m / 2)) (nthS X i) ∧ u = tailB (nthS l (m / 2)) (nthS X i)) ∨ (m % 2 = 1 ∧ begP (nthS X i) (nthS l (m / 2)) ∧ u = tailB (nthS X i) (nthS l (m / 2)))
theorem nextR2_even {l X : List ByteArray} {i k : Nat} (u : ByteArray) : nextR2 l X i (2 * k) u ↔ ((nthS X i).size ≠ 0 ∧ begP (nthS l k) (nthS X i) ∧ u = tailB (nthS l k) (nthS X i)) := by
  have h1 : 2 * k % 2 = 0 := by omega
  have h2 : 2 * k / 2 = k := by omega
  unfold nextR2
  rw [h1, h2]
  simp
theorem nextR2_odd {l X : List ByteArray} {i k : Nat} (u : ByteArray) : nextR2 l X i (2 * k + 1) u ↔ (begP (nthS X i) (nthS l k) ∧ u = tailB (nthS X i) (nthS l k)) := by
  have h1 : (2 * k + 1) % 2 = 1 := by omega
  have h2 : (2 * k + 1) / 2 = k := by omega
  unfold nextR2
  rw [h1, h2]
  simp
theorem nextR2_all {l X : List ByteArray} (u : ByteArray) : PairTo (2 * l.length) (nextR2 l X) X.length 0 u ↔ nextM l X u := by
  constructor
  · rintro ⟨i, m, hm, hi, h⟩
    have hi2 : i < X.length := by omega
    have hk : m / 2 < l.length := by omega
    refine ⟨_, nthS_mem hi2, _, nthS_mem hk, ?_⟩
    rcases h with ⟨_, h⟩ | ⟨_, h⟩
    · exact .inl h
    · exact .inr h
  · rintro ⟨x, hx, y, hy, h⟩
    obtain ⟨i, hi, rfl⟩ := mem_nthS hx
    obtain ⟨k, hk, rfl⟩ := mem_nthS hy
    rcases h with h | h
    · exact ⟨i, 2 * k, by omega, .inl hi, (nextR2_even u).2 h⟩
    · exact ⟨i, 2 * k + 1, by omega, .inl hi, (nextR2_odd u).2 h⟩
theorem nextR2_suf {l X : List ByteArray} (hok : LOk l) (hX : ∀ t ∈ X, sufP l t) {i m : Nat} {u : ByteArray} (hi : i < X.length) (hm : m < 2 * l.length) (h : nextR2 l X i m u) : sufP l u :=
  nextM_suf hok.w1 hX ((nextR2_all u).1 ⟨i, m, hm, .inl hi, h⟩)
/-- what is known of a set that is being collected -/
theorem StSet.know {l X : List ByteArray} (hok : LOk l) (hX : ∀ t ∈ X, sufP l t) {w wr : World} {j m : Nat} {v : Value} (hj : j < X.length) (h : StSet (2 * l.length) (nextR2 l X) w j m v wr) :
    ∃ q ad cap, v = .slice (some ad) q.length cap ∧ SortedS q ∧ (∀ u, u ∈ q ↔ PairTo (2 * l.length) (nextR2 l X) j m u) ∧ StrsIn wr (some ad) q ∧ q.length ≤ cap ∧ Below w.heap.size w wr ∧ q.length ≤ 41 ∧ (∀ u ∈ q, u.size ≤ 1000) ∧ w.heap.size ≤ ad.block := by
  obtain ⟨q, ad, cap, hv, hs, hm, hi, hc, hb0, hk0⟩ := h
  have hsu : ∀ u ∈ q, sufP l u := fun u hu => by
    obtain ⟨i', k', h1, h2, h3⟩ := (hm u).1 hu
    exact nextR2_suf hok hX (by omega) h1 h3
  exact ⟨q, ad, cap, hv, hs, hm, hi, hc, hb0, hok.set hs.nodup hsu, fun u hu => by have := sufP_size hok.w6 (hsu u hu); omega, hk0⟩
/-- a word has been put in -/
theorem StSet.put {n : Nat} {R : Nat → Nat → ByteArray → Prop} {w w1 w2 : World} {j k : Nat} {q : List ByteArray} {x : ByteArray} {v : Value} {ok : Nat → Prop} (hm : ∀ u, u ∈ q ↔ PairTo n R j k u) (hk : k < n) (hR : ∀ u, R j k u ↔ u = x) (hb : Below w.heap.size w w1)
    (hok : ∀ b, ok b → w.heap.size ≤ b) (h : RetIn (fun u => u ∈ q ∨ u = x) ok w1 (.returned v) w2) : StSet n R w j (k + 1) v w2 := by
  obtain ⟨q2, ad2, oc2, hv, hs2, hm2, hi2, hc2, hb2, hk2⟩ := h
  cases hv
  refine ⟨q2, ad2, oc2, rfl, hs2, fun u => ?_, hi2, hc2, Below.now hb hb2, hok _ hk2⟩
  refine (hm2 u).trans ?_
  show (u ∈ q ∨ u = x) ↔ _
  rw [PairTo.next hk, hm u, hR u]
set_option maxRecDepth 20000 in
set_option maxHeartbeats 4000000 in
theorem l22Next_any (l X : List ByteArray) (a a2 : Option Addr) (cap cap2 : Nat) (w : World) (hl : StrsIn w a l) (hx : StrsIn w a2 X) (hok : LOk l) (hX : ∀ t ∈ X, sufP l t) (hXl : X.length ≤ 41) :
    Calls Try.prog 32 #[.slice a l.length cap, .slice a2 X.length cap2] w (RetIn (nextM l X) (fun b => w.heap.size ≤ b) w) := by
  have HL := Lib.hid hl
  have HXI := Lib.hid hx
  have HK := Lib.hid hok
  have HXS := Lib.hid hX
  have hl8 := hok.hi
  have HS := Lib.hid (StSet.start (2 * l.length) (nextR2 l X) w)
  clear hl hok hx hX
  go_enter Try.func32, Try.ntmps32
  go_wp2_with fail
  go_loopw [5, 13] (fun v i wr => ∃ j : Nat, j ≤ X.length ∧ i = .int .i64 (j : Nat) ∧ StSet (2 * l.length) (nextR2 l X) w j 0 v wr) (fun _ i _ => X.length - (intOf i).toNat)
  case atStart => exact ⟨0, Nat.zero_le _, rfl, HS.out⟩
  case round =>
    clear HS
    obtain ⟨j, hj, rfl, hst⟩ := hrel
    have HST := Lib.hid hst
    obtain ⟨q1, ad1, oc1, rfl, hso, hme, hin, hqc1, hbw1, had1⟩ := hst
    have HW := Lib.hid hbw1
    clear hso hme hin
    by_cases hlt : j < X.length
    · obtain ⟨b, off, rfl, hb, hc⟩ := (HXI.out.later HW.out).cell hlt
      have c1 := hc j hlt
      have ht6 : (nthS X j).size ≤ 6 := sufP_size HK.out.w6 (HXS.out _ (nthS_mem hlt))
      clear hc
      go_wp2_with fail
      generalize hW : wr = wr0 at *
      clear hW
      go_loopw [5, 19] (fun v i wr => ∃ k : Nat, k ≤ l.length ∧ i = .int .i64 (k : Nat) ∧ StSet (2 * l.length) (nextR2 l X) w j (2 * k) v wr) (fun _ i _ => l.length - (intOf i).toNat)
      case atStart => exact ⟨0, Nat.zero_le _, rfl, HST.out⟩
      case round =>
        clear HST hbw1 hqc1 had1 HW hb c1
        obtain ⟨k, hk, rfl, hst⟩ := hrel
        have HST := Lib.hid hst
        obtain ⟨q, ad, oc, rfl, hso, hme, hin, hqc, hbw, hq41, hqz, hadb⟩ := hst.know HK.out HXS.out hlt
        have HW := Lib.hid hbw
        have HSO := Lib.hid hso
        have HME := Lib.hid hme
        have HIN := Lib.hid hin
        have HQZ := Lib.hid hqz
        clear hso hme hin hbw hst hqz
        by_cases hlk : k < l.length
        · obtain ⟨b', off', rfl, hb, hc⟩ := (HL.out.later HW.out).cell hlk
          have c2 := hc k hlk
          have hy6 := HK.out.sz hlk
          have H2k : Hid (2 * (k + 1) = 2 * k + 1 + 1) := Lib.hid (by omega)
          have HR1 := Lib.hid (fun u => nextR2_even (l := l) (X := X) (i := j) (k := k) u)
          have HR2 := Lib.hid (fun u => nextR2_odd (l := l) (X := X) (i := j) (k := k) u)
          clear hc
          generalize nthS X j = t at *
          generalize nthS l k = y at *
          have HBG := Lib.hid (fun W => l22Begins_any y t W (by unfold maxLen; omega) (by unfold maxLen; omega))
          have HBG2 := Lib.hid (fun W => l22Begins_any t y W (by unfold maxLen; omega) (by unfold maxLen; omega))
          by_cases e : t.size = 0
          · have H1 := Lib.hid (HST.out.skip (by omega) (fun u h => ((HR1.out u).1 h).1 e) (Below.refl _ _))
            have n1 : (t.toList == []) = true := by rw [size_zero e, Lib.toList_data]; rfl
            have n2 : (t.toList != []) = false := by rw [size_zero e, Lib.toList_data]; rfl
            have n3 : t.toList = [] := by rw [size_zero e, Lib.toList_data]
            have e9 := Lib.hid e
            clear e HST HBG
            go_wp2_with fail
            refine (HBG2.out _).mono ?_
            rintro e5 w5 ⟨bb2, hbb2, rfl, hb5⟩
            have HBB2 := Lib.hid hbb2
            have HB5 := Lib.hid hb5
            clear hbb2 hb5 HBG2
            cases bb2
            · have F := Lib.hid (H1.out.skip (by omega) (fun u h => by have := HBB2.out.2 ((HR2.out u).1 h).1; cases this) HB5.out)
              go_wp2_with fail
              go_roundw
              case rel => exact ⟨k + 1, by omega, by go_num, by rw [H2k.out]; exact F.out⟩
              case measure => simp [intOf]; omega
            · have hty : y.size ≤ t.size := (HBB2.out.1 rfl).1
              have HPUT2 := Lib.hid (fun W h => l22Put_any q (t.extract y.size t.size) ad oc W h hqc (by omega) HSO.out HQZ.out (tail_size ht6))
              have HEX2 : Hid (∀ u, nextR2 l X j (2 * k + 1) u ↔ u = t.extract y.size t.size) := Lib.hid (fun u => (HR2.out u).trans ⟨fun h => h.2, fun h => ⟨HBB2.out.1 rfl, h⟩⟩)
              have HM1 : Hid (∀ u, u ∈ q ↔ PairTo (2 * l.length) (nextR2 l X) j (2 * k + 1) u) := Lib.hid (fun u => by rw [PairTo.next (by omega), HME.out u]; exact ⟨.inl, fun h => h.elim id (fun h => absurd h (fun h => ((HR1.out u).1 h).1 (e9.out)))⟩)
              go_wp2_with fail
              refine (HPUT2.out _ (HIN.out.later HB5.out)).mono ?_
              rintro e6 w6 hr6
              have HRR := Lib.hid hr6
              clear hr6 HPUT2
              obtain ⟨q6, ad6, oc6, rfl, _⟩ := HRR.out
              have F := Lib.hid (StSet.put HM1.out (by omega) HEX2.out (Below.now HW.out HB5.out) (fun b h => by have h1 := (Below.now HW.out HB5.out).size; rcases h with h | h <;> omega) HRR.out)
              go_wp2_with fail
              go_roundw
              case rel => exact ⟨k + 1, by omega, by go_num, by rw [H2k.out]; exact F.out⟩
              case measure => simp [intOf]; omega
          · have hne : t.toList ≠ [] := fun h => e (by
              have h2 : t.data.toList = [] := by rw [← Lib.toList_data]; exact h
              have h3 : t.data.toList.length = 0 := by rw [h2]; rfl
              exact h3)
            have n1 : (t.toList == []) = false := by rw [beq_eq_false_iff_ne]; exact hne
            have n2 : (t.toList != []) = true := by rw [bne_iff_ne]; exact hne
            have n3 : t.toList.isEmpty = false := by rw [List.isEmpty_eq_false_iff]; exact hne
            go_wp2_with fail
            refine (HBG.out _).mono ?_
            rintro e2 w1 ⟨bb, hbb, rfl, hb1⟩
            have HBB := Lib.hid hbb
            have HB1 := Lib.hid hb1
            clear hbb hb1 HBG hne
            cases bb
            · have H1 := Lib.hid (HST.out.skip (by omega) (fun u h => by have := HBB.out.2 ((HR1.out u).1 h).2.1; cases this) HB1.out)
              have HIN1 := Lib.hid (HIN.out.later HB1.out)
              have HW1 := Lib.hid (Below.now HW.out HB1.out)
              clear HIN HW HST HB1
              go_wp2_with fail
              refine (HBG2.out _).mono ?_
              rintro e5 w5 ⟨bb2, hbb2, rfl, hb5⟩
              have HBB2 := Lib.hid hbb2
              have HB5 := Lib.hid hb5
              clear hbb2 hb5 HBG2
              cases bb2
              · have F := Lib.hid (H1.out.skip (by omega) (fun u h => by have := HBB2.out.2 ((HR2.out u).1 h).1; cases this) HB5.out)
                go_wp2_with fail
                go_roundw
                case rel => exact ⟨k + 1, by omega, by go_num, by rw [H2k.out]; exact F.out⟩
                case measure => simp [intOf]; omega
              · have hty : y.size ≤ t.size := (HBB2.out.1 rfl).1
                have HPUT2 := Lib.hid (fun W h => l22Put_any q (t.extract y.size t.size) ad oc W h hqc (by omega) HSO.out HQZ.out (tail_size ht6))
                have HEX2 : Hid (∀ u, nextR2 l X j (2 * k + 1) u ↔ u = t.extract y.size t.size) := Lib.hid (fun u => (HR2.out u).trans ⟨fun h => h.2, fun h => ⟨HBB2.out.1 rfl, h⟩⟩)
                have HM1 : Hid (∀ u, u ∈ q ↔ PairTo (2 * l.length) (nextR2 l X) j (2 * k + 1) u) := Lib.hid (fun u => by rw [PairTo.next (by omega), HME.out u]; exact ⟨.inl, fun h => h.elim id (fun h => absurd h (fun h => by have := HBB.out.2 ((HR1.out u).1 h).2.1; cases this))⟩)
                go_wp2_with fail
                refine (HPUT2.out _ (HIN1.out.later HB5.out)).mono ?_
                rintro e6 w6 hr6
                have HRR := Lib.hid hr6
                clear hr6 HPUT2
                obtain ⟨q6, ad6, oc6, rfl, _⟩ := HRR.out
                have F := Lib.hid (StSet.put HM1.out (by omega) HEX2.out (Below.now HW1.out HB5.out) (fun b h => by have h1 := (Below.now HW1.out HB5.out).size; rcases h with h | h <;> omega) HRR.out)
                go_wp2_with fail
                go_roundw
                case rel => exact ⟨k + 1, by omega, by go_num, by rw [H2k.out]; exact F.out⟩
                case measure => simp [intOf]; omega
            · have hyx : t.size ≤ y.size := (HBB.out.1 rfl).1
              have HPUT := Lib.hid (fun W h => l22Put_any q (y.extract t.size y.size) ad oc W h hqc (by omega) HSO.out HQZ.out (tail_size hy6))
              have HEX : Hid (∀ u, nextR2 l X j (2 * k) u ↔ u = y.extract t.size y.size) := Lib.hid (fun u => (HR1.out u).trans ⟨fun h => h.2.2, fun h => ⟨e, HBB.out.1 rfl, h⟩⟩)
              go_wp2_with fail
              refine (HPUT.out _ (HIN.out.later HB1.out)).mono ?_
              rintro e3 w2 hr
              have HRR := Lib.hid hr
              clear hr HPUT
              obtain ⟨q2, ad2, oc2, rfl, _⟩ := HRR.out
              have H1 := Lib.hid (StSet.put HME.out (by omega) HEX.out (Below.now HW.out HB1.out) (fun b h => by have h1 := (Below.now HW.out HB1.out).size; rcases h with h | h <;> omega) HRR.out)
              clear HRR HEX
              clear HST HSO HME HIN HW HB1 HQZ
              obtain ⟨q, ad, oc, hvv, hso, hme, hin, hqc3, hbw, hq413, hqz, hadb2⟩ := H1.out.know HK.out HXS.out hlt
              simp only [Value.slice.injEq, Option.some.injEq] at hvv
              obtain ⟨had, hll, hoc⟩ := hvv
              subst had
              subst hoc
              have HLL := Lib.hid hll
              have HW1 := Lib.hid hbw
              have HSO := Lib.hid hso
              have HME := Lib.hid hme
              have HIN1 := Lib.hid hin
              have HQZ := Lib.hid hqz
              clear hso hme hin hbw hqz hll
              rw [HLL.out] at H1 ⊢
              clear HLL
              go_wp2_with fail
              refine (HBG2.out _).mono ?_
              rintro e5 w5 ⟨bb2, hbb2, rfl, hb5⟩
              have HBB2 := Lib.hid hbb2
              have HB5 := Lib.hid hb5
              clear hbb2 hb5 HBG2
              cases bb2
              · have F := Lib.hid (H1.out.skip (by omega) (fun u h => by have := HBB2.out.2 ((HR2.out u).1 h).1; cases this) HB5.out)
                go_wp2_with fail
                go_roundw
                case rel => exact ⟨k + 1, by omega, by go_num, by rw [H2k.out]; exact F.out⟩
                case measure => simp [intOf]; omega
              · have hty : y.size ≤ t.size := (HBB2.out.1 rfl).1
                have HPUT2 := Lib.hid (fun W h => l22Put_any q (t.extract y.size t.size) ad2 oc2 W h hqc3 (by omega) HSO.out HQZ.out (tail_size ht6))
                have HEX2 : Hid (∀ u, nextR2 l X j (2 * k + 1) u ↔ u = t.extract y.size t.size) := Lib.hid (fun u => (HR2.out u).trans ⟨fun h => h.2, fun h => ⟨HBB2.out.1 rfl, h⟩⟩)
                have HM1 : Hid (∀ u, u ∈ q ↔ PairTo (2 * l.length) (nextR2 l X) j (2 * k + 1) u) := Lib.hid (HME.out)
                go_wp2_with fail
                refine (HPUT2.out _ (HIN1.out.later HB5.out)).mono ?_
                rintro e6 w6 hr6
                have HRR := Lib.hid hr6
                clear hr6 HPUT2
                obtain ⟨q6, ad6, oc6, rfl, _⟩ := HRR.out
                have F := Lib.hid (StSet.put HM1.out (by omega) HEX2.out (Below.now HW1.out HB5.out) (fun b h => by have h1 := (Below.now HW1.out HB5.out).size; rcases h with h | h <;> omega) HRR.out)
                go_wp2_with fail
                go_roundw
                case rel => exact ⟨k + 1, by omega, by go_num, by rw [H2k.out]; exact F.out⟩
                case measure => simp [intOf]; omega
        · obtain rfl : k = l.length := by omega
          have F := Lib.hid HST.out.row
          go_wp2_with fail
          go_roundw
          case rel => exact ⟨j + 1, by omega, by go_num, F.out⟩
          case measure => simp [intOf]; omega
    · obtain rfl : j = X.length := by omega
      have F := Lib.hid (HST.out.ret nextR2_all)
      go_wp2_with fail
      go_ret
      exact F.out
end Go.Proofs.Ytlldhmoiahcfpaa
