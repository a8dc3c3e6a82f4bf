/-
  The reference's sets of tails: l22Put, l22First, l22Next, l22Same.
-/
import Derived.Test.YtlldhmoiahcfpaaTailsM
namespace Go.Proofs.Ytlldhmoiahcfpaa
open Go.RowKit
set_option linter.unusedVariables false
/-- what a call hands back: a slice that holds the sorted set of the words that have a property -/
def RetIn (P : ByteArray → Prop) (ok : Nat → Prop) (w : World) (e : Ending) (w' : World) : Prop := ∃ q ad cap, e = .returned (.slice (some ad) q.length cap) ∧ SortedS q ∧ (∀ u, u ∈ q ↔ P u) ∧ StrsIn w' (some ad) q ∧ q.length ≤ cap ∧ Below w.heap.size w w' ∧ ok ad.block
theorem RetSet.toIn {P Q : ByteArray → Prop} {w w0 : World} {e : Ending} {w' : World} (h : RetSet P w e w') (hPQ : ∀ u, P u ↔ Q u) (h0 : ∃ u, Q u) (hb : Below w0.heap.size w0 w) {ok : Nat → Prop} (hok : ∀ b, w0.heap.size ≤ b → ok b) : RetIn Q ok w0 e w' := by
  obtain ⟨q, hs, hm, a, cap, he, ho, hb2⟩ := h
  obtain ⟨u0, hu0⟩ := h0
  have hq := List.length_pos_of_mem ((hm u0).2 ((hPQ u0).2 hu0))
  obtain ⟨g, c, hv⟩ := owns_someS ho hq
  cases hv
  exact ⟨q, _, _, he, hs, fun u => (hm u).trans (hPQ u), owns_strs ho, (owns_cap ho).1, Below.now hb hb2, hok _ (Nat.le_trans hb.size (owns_base ho _ rfl))⟩
theorem append_one_nodup {q : List ByteArray} {x : ByteArray} (hq : q.Nodup) (hx : ¬ x ∈ q) : (q ++ [x]).Nodup := by
  rw [List.nodup_append]
  refine ⟨hq, by simp, fun a ha b hb e => ?_⟩
  rw [List.mem_singleton.1 hb] at e
  exact hx (by rw [← e]; exact ha)
set_option maxHeartbeats 1000000 in
theorem l22Put_any (q : List ByteArray) (x : ByteArray) (ad : Addr) (cap : Nat) (w : World) (hl : StrsIn w (some ad) q) (hcap : q.length ≤ cap) (hlen : q.length ≤ 10000) (hs : SortedS q) (hz : ∀ u ∈ q, u.size ≤ 1000) (hx : x.size ≤ 1000) :
    Calls Try.prog 35 #[.slice (some ad) q.length cap, .string x] w (RetIn (fun u => u ∈ q ∨ u = x) (fun b => b = ad.block ∨ w.heap.size ≤ b) w) := by
  have HL := Lib.hid hl
  have HS := Lib.hid hs
  have HZ := Lib.hid hz
  have HH := Lib.hid (fun W h => l04Has_any q x (some ad) cap W h (by omega))
  have HNE := Lib.hid (fun h => append_one_nodup (x := x) hs.nodup h)
  have HLE : Hid ((strVals q).length = q.length * 1) := Lib.hid (by simp [strVals])
  have HO := Lib.hid (strVals_one q)
  clear hl hs hz
  go_enter Try.func35, Try.ntmps35
  go_wp2_with fail
  refine (HH.out _ HL.out).mono ?_
  rintro e w1 ⟨b, hb, rfl, hb1⟩
  have HB := Lib.hid hb
  have HW := Lib.hid hb1
  clear hb hb1 HH
  cases b
  · have HN : Hid (¬ x ∈ q) := Lib.hid (fun h => by have := HB.out.2 h; cases this)
    have HE := Lib.hid (Bld.empty 9 1 w1)
    have HSRC : Hid (∀ W, Below w1.heap.size w1 W → Src W (.slice (some ad) q.length cap) q.length (strVals q)) := Lib.hid (fun W hW => Src.of_cells ((HL.out.later HW.out).later hW))
    go_wp2_with (at_builtin; refine wpList_appM rfl (.tmp 9) (.tmp 10) rfl Try.underlying22 Try.infoStr rfl (by decide) rfl HE.out rfl (HSRC.out _ HE.out.2) HLE.out HO.out ?a2 ?a3 ?a4)
    case a2 => unfold maxLen; omega
    case a3 => omega
    intro v4 w4 hb4 hg4 ho4
    have H4 := Lib.hid hb4
    clear hb4 hg4 ho4
    go_wp2_with (at_builtin; refine wpList_app1 rfl (.tmp 11) (.tmp 13) rfl Try.underlying22 Try.infoStr rfl (by decide) rfl H4.out rfl rfl ?b1 ?b2 ?b3 ?b4)
    case b1 => simp [Value.oneCell']
    case b2 => unfold maxLen; omega
    case b3 => omega
    intro v5 w5 hb5
    have H5 : Hid (Bld 9 1 w1 w5 v5 (q ++ [x]).length (strVals (q ++ [x]))) := by
      have e1 : (q ++ [x]).length = 0 + q.length + 1 := by simp
      have e2 : strVals (q ++ [x]) = [] ++ strVals q ++ [Value.string x] := by simp [strVals]
      rw [e1, e2]
      exact Lib.hid (by simpa using hb5)
    obtain ⟨g5, c5, rfl⟩ : ∃ g5 c5, v5 = .slice (some ⟨g5, 0, none⟩) (q.length + 1) c5 := by
      obtain ⟨g5, c5, h⟩ := owns_someS H5.out.1 (by simp)
      exact ⟨g5, c5, by rw [h, List.length_append]; rfl⟩
    clear hb5
    have hC := (fun W h => l15Sort_any (q ++ [x]) (some ⟨g5, 0, none⟩) c5 W h (by simp; omega) (HNE.out HN.out) (fun j hj => by
      have hm := nthS_mem hj
      unfold maxLen
      rcases List.mem_append.1 hm with h | h
      · have := HZ.out _ h; omega
      · rw [List.mem_singleton.1 h]; omega))
    simp only [List.length_append, List.length_singleton] at hC
    have HC := Lib.hid hC
    clear hC
    go_wp2_with fail
    refine (HC.out _ (owns_strs H5.out.1)).mono ?_
    intro e w6 hr
    have F := Lib.hid (hr.toIn (Q := fun u => u ∈ q ∨ u = x) (fun u => by rw [List.mem_append, List.mem_singleton]) ⟨x, .inr rfl⟩ (Below.now HW.out H5.out.2) (ok := fun b => b = ad.block ∨ w.heap.size ≤ b) (fun b h => .inr h))
    clear hr HC
    obtain ⟨q6, a6, c6, rfl, h6⟩ := F.out
    have F6 : Hid (RetIn (fun u => u ∈ q ∨ u = x) (fun b => b = ad.block ∨ w.heap.size ≤ b) w (.returned (.slice (some a6) q6.length c6)) w6) := Lib.hid ⟨q6, a6, c6, rfl, h6⟩
    clear h6 F
    go_wp2_with fail
    go_ret
    exact F6.out
  · have HN : Hid (RetIn (fun u => u ∈ q ∨ u = x) (fun b => b = ad.block ∨ w.heap.size ≤ b) w (.returned (.slice (some ad) q.length cap)) w1) := Lib.hid ⟨q, ad, cap, rfl, HS.out, fun u => ⟨.inl, fun h => h.elim id (fun e => by rw [e]; exact HB.out.1 rfl)⟩, HL.out.later HW.out, hcap, HW.out, .inl rfl⟩
    go_wp2_with fail
    go_ret
    exact HN.out
/-- a set that is being collected, pair by pair -/
def StSet (n : Nat) (R : Nat → Nat → ByteArray → Prop) (w : World) (j k : Nat) (v : Value) (wr : World) : Prop :=
  ∃ q ad cap, v = .slice (some ad) q.length cap ∧ SortedS q ∧ (∀ u, u ∈ q ↔ PairTo n R j k u) ∧ StrsIn wr (some ad) q ∧ q.length ≤ cap ∧ Below w.heap.size w wr ∧ w.heap.size ≤ ad.block
theorem StSet.start (n : Nat) (R : Nat → Nat → ByteArray → Prop) (w : World) : StSet n R w 0 0 (.slice (some ⟨w.heap.size, 0, none⟩) 0 0) (w.alloc (.cells #[] 9)) :=
  ⟨[], _, _, rfl, SortedS.nil, fun u => ⟨fun h => (by cases h), fun h => absurd h PairTo.zero⟩, .inl rfl, Nat.le_refl _, (Below.refl _ _).alloc (Nat.le_refl _) _, Nat.le_refl _⟩
theorem StSet.row {n : Nat} {R : Nat → Nat → ByteArray → Prop} {w wr : World} {j : Nat} {v : Value} (h : StSet n R w j n v wr) : StSet n R w (j + 1) 0 v wr := by
  obtain ⟨q, ad, cap, hv, hs, hm, hr⟩ := h
  exact ⟨q, ad, cap, hv, hs, fun u => (hm u).trans (PairTo.row u), hr⟩
theorem StSet.skip {n : Nat} {R : Nat → Nat → ByteArray → Prop} {w wr wr' : World} {j k : Nat} {v : Value} (h : StSet n R w j k v wr) (hk : k < n) (hR : ∀ u, ¬ R j k u) (hb : Below wr.heap.size wr wr') : StSet n R w j (k + 1) v wr' := by
  obtain ⟨q, ad, cap, hv, hs, hm, hi, hc, hb0, hk0⟩ := h
  exact ⟨q, ad, cap, hv, hs, fun u => by rw [hm u, PairTo.next hk]; exact ⟨.inl, fun h => h.elim id (fun h => absurd h (hR u))⟩, hi.later hb, hc, Below.now hb0 hb, hk0⟩
/-- the set as a call hands it back -/
theorem StSet.ret {n : Nat} {R : Nat → Nat → ByteArray → Prop} {w wr : World} {j : Nat} {v : Value} (h : StSet n R w j 0 v wr) {P : ByteArray → Prop} (hP : ∀ u, PairTo n R j 0 u ↔ P u) : RetIn P (fun b => w.heap.size ≤ b) w (.returned v) wr := by
  obtain ⟨q, ad, cap, rfl, hs, hm, hi, hc, hb0⟩ := h
  exact ⟨q, ad, cap, rfl, hs, fun u => (hm u).trans (hP u), hi, hc, hb0⟩
theorem neq_nat {j k : Nat} (h : j = k) : ((j : Int) != (k : Int)) = false := by simp [h]
theorem neq_nat' {j k : Nat} (h : ¬ j = k) : ((j : Int) != (k : Int)) = true := by rw [bne_iff_ne]; omega
theorem eq_nat' {j k : Nat} (h : ¬ j = k) : ((j : Int) == (k : Int)) = false := by rw [beq_eq_false_iff_ne]; omega
theorem tail_size {x y : ByteArray} (h : x.size ≤ 6) : (x.extract y.size x.size).size ≤ 1000 := by rw [ByteArray.size_extract]; omega
set_option maxRecDepth 20000 in
set_option maxHeartbeats 2000000 in
theorem l22First_any (l : List ByteArray) (a : Option Addr) (cap : Nat) (w : World) (hl : StrsIn w a l) (hok : LOk l) :
    Calls Try.prog 21 #[.slice a l.length cap] w (RetIn (firstM l) (fun b => w.heap.size ≤ b) w) := by
  have HL := Lib.hid hl
  have HK := Lib.hid hok
  have hl8 := hok.hi
  have HS := Lib.hid (StSet.start l.length (firstR l) w)
  have HSUF : Hid (∀ i k u, i < l.length → k < l.length → firstR l i k u → sufP l u) := Lib.hid (fun i k u hi hk h => ⟨_, nthS_mem hi, _, hok.w1 _ (nthS_mem hk), h.2.1.1, h.2.2⟩)
  clear hl hok
  go_enter Try.func21, Try.ntmps21
  go_wp2_with fail
  go_loopw [3, 11] (fun v i wr => ∃ j : Nat, j ≤ l.length ∧ i = .int .i64 (j : Nat) ∧ StSet l.length (firstR l) w j 0 v wr) (fun _ i _ => l.length - (intOf i).toNat)
  case atStart => exact ⟨0, Nat.zero_le _, rfl, HS.out⟩
  case round =>
    clear HS
    obtain ⟨j, hj, rfl, hst⟩ := hrel
    have HST := Lib.hid hst
    obtain ⟨q1, ad1, oc1, rfl, hso, hme, hin, hqc1, hbw1, had1⟩ := hst
    have HW := Lib.hid hbw1
    clear hso hme hin
    by_cases hlt : j < l.length
    · obtain ⟨b, off, rfl, hb, hc⟩ := (HL.out.later HW.out).cell hlt
      have c1 := hc j hlt
      have hx6 := HK.out.sz hlt
      clear hc
      go_wp2_with fail
      generalize hW : wr = wr0 at *
      clear hW
      go_loopw [3, 18] (fun v i wr => ∃ k : Nat, k ≤ l.length ∧ i = .int .i64 (k : Nat) ∧ StSet l.length (firstR l) w j k v wr) (fun _ i _ => l.length - (intOf i).toNat)
      case atStart => exact ⟨0, Nat.zero_le _, rfl, HST.out⟩
      case round =>
        clear HST hbw1 hqc1 had1 HW hb c1
        obtain ⟨k, hk, rfl, hst⟩ := hrel
        have HST := Lib.hid hst
        obtain ⟨q, ad, oc, rfl, hso, hme, hin, hqc, hbw, hadb⟩ := hst
        have HW := Lib.hid hbw
        have HSO := Lib.hid hso
        have HME := Lib.hid hme
        have HIN := Lib.hid hin
        clear hso hme hin hbw
        by_cases hlk : k < l.length
        · obtain ⟨b', off', hbo, hb, hc⟩ := (HL.out.later HW.out).cell hlk
          have hab := Option.some.inj hbo
          simp only [Addr.mk.injEq, and_true] at hab
          obtain ⟨rfl, rfl⟩ := hab
          have c2 := hc k hlk
          have hy6 := HK.out.sz hlk
          have HR : Hid (∀ u, firstR l j k u ↔ (j ≠ k ∧ begP (nthS l j) (nthS l k) ∧ u = tailB (nthS l j) (nthS l k))) := Lib.hid (fun u => Iff.rfl)
          have HSU : Hid (∀ u ∈ q, sufP l u) := Lib.hid (fun u hu => by
            obtain ⟨i', k', h1, h2, h3⟩ := (HME.out u).1 hu
            exact HSUF.out i' k' u (by omega) h1 h3)
          have hq41 := HK.out.set HSO.out.nodup HSU.out
          have HQZ : Hid (∀ u ∈ q, u.size ≤ 1000) := Lib.hid (fun u hu => by have := sufP_size HK.out.w6 (HSU.out u hu); omega)
          clear hc hbo
          generalize nthS l j = x at *
          generalize nthS l k = y at *
          by_cases e : j = k
          · have F := Lib.hid (HST.out.skip hlk (fun u h => ((HR.out u).1 h).1 e) (Below.refl _ _))
            have n1 := neq_nat e
            have n2 : ((j : Int) == (k : Int)) = true := by simp [e]
            clear e HST
            go_wp2_with fail
            go_roundw
            case rel => exact ⟨k + 1, by omega, by go_num, F.out⟩
            case measure => simp [intOf]; omega
          · have n1 := neq_nat' e
            have n2 := eq_nat' e
            have HBG := Lib.hid (fun W => l22Begins_any x y W (by unfold maxLen; omega) (by unfold maxLen; omega))
            go_wp2_with fail
            refine (HBG.out _).mono ?_
            rintro e2 w1 ⟨bb, hbb, rfl, hb1⟩
            have HBB := Lib.hid hbb
            have HB1 := Lib.hid hb1
            clear hbb hb1 HBG
            cases bb
            · have F := Lib.hid (HST.out.skip hlk (fun u h => by have := HBB.out.2 ((HR.out u).1 h).2.1; cases this) HB1.out)
              go_wp2_with fail
              go_roundw
              case rel => exact ⟨k + 1, by omega, by go_num, F.out⟩
              case measure => simp [intOf]; omega
            · have hyx : y.size ≤ x.size := (HBB.out.1 rfl).1
              have HPUT := Lib.hid (fun W h => l22Put_any q (x.extract y.size x.size) ad oc W h hqc (by omega) HSO.out HQZ.out (tail_size hx6))
              have HEX : Hid (∀ u, (u ∈ q ∨ u = x.extract y.size x.size) ↔ PairTo l.length (firstR l) j (k + 1) u) := Lib.hid (fun u => by
                rw [PairTo.next hlk, HME.out u]
                exact ⟨fun h => h.imp id (fun h => (HR.out u).2 ⟨e, HBB.out.1 rfl, h⟩), fun h => h.imp id (fun h => ((HR.out u).1 h).2.2)⟩)
              go_wp2_with fail
              refine (HPUT.out _ (HIN.out.later HB1.out)).mono ?_
              rintro e3 w2 ⟨q2, ad2, oc2, rfl, hs2, hm2, hi2, hc2, hb2, hok2⟩
              have had2 : w.heap.size ≤ ad2.block := by
                have h1 := (Below.now HW.out HB1.out).size
                rcases hok2 with h | h <;> omega
              have F : Hid (StSet l.length (firstR l) w j (k + 1) (.slice (some ad2) q2.length oc2) w2) := Lib.hid ⟨q2, ad2, oc2, rfl, hs2, fun u => (hm2 u).trans (HEX.out u), hi2, hc2, Below.now (Below.now HW.out HB1.out) hb2, had2⟩
              clear hs2 hm2 hi2 hb2 hok2 had2 HPUT HEX
              go_wp2_with fail
              go_roundw
              case rel => exact ⟨k + 1, by omega, by go_num, F.out⟩
              case measure => simp [intOf]; omega
        · obtain rfl : k = l.length := by omega
          have F := Lib.hid HST.out.row
          go_wp2_with fail
          go_roundw
          case rel => exact ⟨j + 1, by omega, by go_num, F.out⟩
          case measure => simp [intOf]; omega
    · obtain rfl : j = l.length := by omega
      have F := Lib.hid (HST.out.ret (firstR_all HK.out.nd))
      go_wp2_with fail
      go_ret
      exact F.out
end Go.Proofs.Ytlldhmoiahcfpaa
