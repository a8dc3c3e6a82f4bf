/-
  l06Pairs of the reference: the sides of the pairs with the last rule.
-/
import Derived.Test.YtgoeadgpbidgiaaGreatDoorCpl18
import Derived.Test.YtgoeadgpbidgiaaGreatDoorCpl02
import Derived.Test.YtgoeadgpbidgiaaGreatDoorCpl19
import Derived.Lib.IndexMore
import Derived.Test.YtgoeadgpbidgiaaGreatDoorCpl10
import Derived.Test.YtgoeadgpbidgiaaGreatDoorCpl14
import Derived.Test.YtgoeadgpbidgiaaGreatDoorCpl15
namespace Go.Proofs.YtgoeadgpbidgiaaGreatDoor
open Go.RowKit
set_option linter.unusedVariables false
/-- the library's own bound is some integer -/
def MaxL (w : World) : Prop := ∃ m : Int, w.cell? ⟨0, 0, none⟩ = some (.int .i64 m)
theorem MaxL.later {w w' : World} (h : MaxL w) (hb : Below w.heap.size w w') : MaxL w' := by
  obtain ⟨m, hm⟩ := h
  exact ⟨m, (hb.cell (World.block_lt_of_cell? w _ hm)).trans hm⟩
theorem MaxL.grown {w w' : World} {o : Option Nat} (h : MaxL w) (hg : w.grownBy w' o) (ho : o ≠ some 0) : MaxL w' := by
  obtain ⟨m, hm⟩ := h
  refine ⟨m, ?_⟩
  rw [World.cell?_of_block (w := w) (hg.block 0 (World.block_lt_of_cell? w _ hm) (fun e => ho e.symm))]
  exact hm
theorem has_contains (s l : ByteArray) (hl : l.size ≠ 0) : Lib.contains s.data.toList l.data.toList = hasB s l := by
  unfold Lib.contains
  rcases Lib.index_spec s.data.toList l.data.toList with ⟨h1, h2⟩ | ⟨i, h1, h2, h3, _⟩
  · rw [h1]
    have : hasB s l = false := by
      cases hb : hasB s l
      · rfl
      · obtain ⟨x, y, e⟩ := (hasB_iff hl).1 hb
        have h3 := h2 x.length (by rw [e]; simp)
        unfold Lib.occAt at h3
        rw [e, List.drop_left] at h3
        have h4 : l.data.toList.isPrefixOf (l.data.toList ++ y) = true := List.isPrefixOf_iff_prefix.2 (List.prefix_append _ _)
        rw [h4] at h3
        cases h3
    rw [this]
    rfl
  · rw [h1]
    have : hasB s l = true := by
      rw [hasB_iff hl]
      unfold Lib.occAt at h3
      obtain ⟨t, ht⟩ := List.isPrefixOf_iff_prefix.1 h3
      exact ⟨s.data.toList.take i, t, by rw [ht, List.take_append_drop]⟩
    rw [this]
    simp
theorem contains_any (s l : ByteArray) (w : World) (hl : l.size ≠ 0) (hs : s.size ≤ 1000) (hm : MaxL w) :
    Calls Tryz.prog 47 #[.string s, .string l] w fun e w' => e = .returned (.bool (hasB s l)) ∧ w = w' := by
  obtain ⟨m, hm⟩ := hm
  refine (Tryz.strings_Contains s l m w (by omega) hm).mono ?_
  rintro e w' ⟨rfl, rfl⟩
  exact ⟨by rw [has_contains s l hl], rfl⟩
set_option maxHeartbeats 1000000 in
theorem workOk1_any (k : Int) (aR aQ : Option Addr) (nR cR nQ cQ : Nat) (T : Int) (x y : ByteArray) (box : Nat) (w : World) (hx : wordOkB k x = true) (hy : wordOkB k y = true) (hk : w.heap[box]? = some (.cells #[.int .i64 k, .slice aR nR cR, .slice aQ nQ cQ, .int .i64 T] 69 (0, 0))) :
    Calls Tryz.prog 162 #[.agg #[.string x, .string y], .pointer (some ⟨box, 0, none⟩)] w (RetP False w) := by
  have hx8 := (wdP_of hx).len
  have hy8 := (wdP_of hy).len
  have HX := Lib.hid (fun W => (implWordOk_any k x W (by unfold maxLen; omega)).mono (fun e w' h => show e = .returned (.bool true) ∧ W = w' from ⟨by rw [h.1, hx], h.2⟩))
  have HY := Lib.hid (fun W => (implWordOk_any k y W (by unfold maxLen; omega)).mono (fun e w' h => show e = .returned (.bool true) ∧ W = w' from ⟨by rw [h.1, hy], h.2⟩))
  have hb := alloc_belowS w (.cells #[.string x, .string y] 39)
  have hlt : box < w.heap.size := (Array.getElem?_eq_some_iff.1 hk).1
  have hk2 := (hb.block box hlt).trans hk
  have s0 : (w.alloc (.cells #[.string x, .string y] 39)).cell? ⟨box, 0, none⟩ = some (.int .i64 k) := by simp [World.cell?, hk2]
  have HB := Lib.hid hb
  clear hx hy hx8 hy8 hb hlt hk2 hk
  go_enter Tryz.func162, Tryz.ntmps162
  go_wp2_with fail
  refine (HX.out _).mono ?_
  rintro e w2 ⟨rfl, rfl⟩
  go_wp2_with fail
  refine (HY.out _).mono ?_
  rintro e w2 ⟨rfl, rfl⟩
  go_wp2_with fail
  go_ret
  exact RetP.no (fun h => h) HB.out
set_option maxRecDepth 100000 in
set_option maxHeartbeats 2000000 in
theorem implWorkOk_ok (k : Int) (R Q : List RulD) (T : Nat) (aR aQ : Option Addr) (cR cQ : Nat) (w : World) (hR : RulesIn w aR R) (hQ : RulesIn w aQ Q) (h : WorkP k R Q T) :
    Calls Tryz.prog 128 #[workVal k aR R.length cR aQ Q.length cQ T] w fun e w' => e = .returned (.bool true) ∧ Below w.heap.size w w' := by
  have hf := h.few
  have ht := h.turns
  have h12 : R.length ≤ 12 := h.sys.1.1.2
  have hz := szR_of h.sys
  have HSO := Lib.hid (fun W h => implSystemOk_any k R aR cR W h (by omega) hz)
  have HB0 := Lib.hid (alloc_belowS w (.cells #[.int .i64 k, .slice aR R.length cR, .slice aQ Q.length cQ, .int .i64 (T : Nat)] 69))
  have hat := alloc_at w (.cells #[.int .i64 k, .slice aR R.length cR, .slice aQ Q.length cQ, .int .i64 (T : Nat)] 69)
  have hsz : w.heap.size < (w.alloc (.cells #[.int .i64 k, .slice aR R.length cR, .slice aQ Q.length cQ, .int .i64 (T : Nat)] 69)).heap.size := by simp
  have HBK : Hid (∀ W, Below (w.alloc (.cells #[.int .i64 k, .slice aR R.length cR, .slice aQ Q.length cQ, .int .i64 (T : Nat)] 69)).heap.size (w.alloc (.cells #[.int .i64 k, .slice aR R.length cR, .slice aQ Q.length cQ, .int .i64 (T : Nat)] 69)) W → W.heap[w.heap.size]? = some (.cells #[.int .i64 k, .slice aR R.length cR, .slice aQ Q.length cQ, .int .i64 (T : Nat)] 69 (0, 0))) := Lib.hid (fun W hW => (hW.block _ hsz).trans hat)
  have HRI := Lib.hid (hR.later HB0.out)
  have HQI := Lib.hid (fun W (hW : Below (w.alloc (.cells #[.int .i64 k, .slice aR R.length cR, .slice aQ Q.length cQ, .int .i64 (T : Nat)] 69)).heap.size (w.alloc (.cells #[.int .i64 k, .slice aR R.length cR, .slice aQ Q.length cQ, .int .i64 (T : Nat)] 69)) W) => RulesIn.later hQ (Below.now HB0.out hW))
  have HWK := Lib.hid h
  have hin : inB (T : Int) 0 200 = true := by unfold inB; simp; omega
  have HIN := Lib.hid (fun W => (within_any (T : Int) 0 200 W).mono (fun e w' h => show e = .returned (.bool true) ∧ W = w' from ⟨by rw [h.1, hin], h.2⟩))
  have HCF := Lib.hid (fun W (hW : Below (w.alloc (.cells #[.int .i64 k, .slice aR R.length cR, .slice aQ Q.length cQ, .int .i64 (T : Nat)] 69)).heap.size (w.alloc (.cells #[.int .i64 k, .slice aR R.length cR, .slice aQ Q.length cQ, .int .i64 (T : Nat)] 69)) W) => containsFuncR_any 162 #[.pointer (some ⟨w.heap.size, 0, none⟩)] (fun _ => False) Q aQ cQ W (HQI.out W hW) (by omega) W.heap.size (Nat.le_refl _) (fun j hj W2 hW2 => workOk1_any k aR aQ R.length cR Q.length cQ (T : Nat) _ _ w.heap.size W2 (HWK.out.word _ (nthR_mem hj)).1 (HWK.out.word _ (nthR_mem hj)).2 (HBK.out W2 (Below.now hW hW2))) (enters_of Tryz.func162 (by kernel_rfl) rfl))
  have HBX := Lib.hid (fun W2 (h : Below (w.alloc (.cells #[.int .i64 k, .slice aR R.length cR, .slice aQ Q.length cQ, .int .i64 (T : Nat)] 69)).heap.size (w.alloc (.cells #[.int .i64 k, .slice aR R.length cR, .slice aQ Q.length cQ, .int .i64 (T : Nat)] 69)) W2) => (box_four h).1)
  have hfi : ¬ (400 : Int) < (Q.length : Int) := by omega
  clear h hz hR hQ hat hsz hin
  unfold workVal
  go_enter Tryz.func128, Tryz.ntmps128
  go_wp2_with fail
  generalize w.alloc (.cells #[.int .i64 k, .slice aR R.length cR, .slice aQ Q.length cQ, .int .i64 (T : Nat)] 69) = w1 at *
  refine (HSO.out _ HRI.out).mono ?_
  rintro e w2 ⟨bb, hbb, rfl, hb2⟩
  obtain rfl := hbb.2 HWK.out.sys
  obtain ⟨s0, s1, s2, s3⟩ := HBX.out _ hb2
  have HB2 := Lib.hid hb2
  have HC := Lib.hid (HCF.out w2 hb2)
  clear hbb hb2 HCF HBX HBK HSO
  go_wp2_with (go_at_call 53; refine (HIN.out _).mono ?_; rintro e w' ⟨rfl, rfl⟩)
  refine HC.out.mono ?_
  rintro e w3 ⟨bb, hbb, rfl, hb3⟩
  have hbf : bb = false := by
    cases bb
    · rfl
    · obtain ⟨r, _, h⟩ := hbb.1 rfl
      exact h.elim
  subst hbf
  have F := Lib.hid (Below.now HB0.out (Below.now HB2.out hb3))
  clear hbb hb3 s0 s1 s2 s3
  go_wp2_with fail
  go_ret
  exact ⟨rfl, F.out⟩
set_option maxHeartbeats 400000 in
theorem startWork1_any (k : Int) (x y : ByteArray) (box : Nat) (w : World) (hx : x.size ≤ maxLen) (hy : y.size ≤ maxLen) (hk : w.cell? ⟨box, 0, none⟩ = some (.int .i64 k)) :
    Calls Tryz.prog 126 #[.agg #[.string x, .string y], .pointer (some ⟨box, 0, none⟩)] w (RetP (¬ sideP k (x, y)) w) := by
  have HS := Lib.hid (fun W => implSidesOk_any k x y W hx hy)
  have hk2 : ∀ o, (w.alloc o).cell? ⟨box, 0, none⟩ = some (.int .i64 k) := fun o => by rw [(alloc_belowS w o).cell (World.block_lt_of_cell? w _ hk)]; exact hk
  have HA := Lib.hid (fun o => alloc_belowS w o)
  generalize sideP k (x, y) = sp at *
  go_enter Tryz.func126, Tryz.ntmps126
  go_wp2_with fail
  refine (HS.out _).mono ?_
  rintro e w2 ⟨bb, hbb, rfl, hb2⟩
  have HBB := Lib.hid hbb
  have HW2 := Lib.hid (Below.now (HA.out _) hb2)
  clear hbb hb2 HS hk hk2
  cases bb
  · have F : Hid (RetP (¬ sp) w (.returned (.bool true)) w2) := Lib.hid (RetP.yes (fun h => by have := HBB.out.2 h; cases this) HW2.out)
    go_wp2_with fail
    go_ret
    exact F.out
  · have F : Hid (RetP (¬ sp) w (.returned (.bool false)) w2) := Lib.hid (RetP.no (fun h => h (HBB.out.1 rfl)) HW2.out)
    go_wp2_with fail
    go_ret
    exact F.out
/-- what StartWork of the program hands back -/
def RetStI (k : Int) (E : List RulD) (w : World) (e : Ending) (w' : World) : Prop :=
  (startP k E ∧ ∃ aQ cQ, e = .returned (.tuple #[workVal k none 0 0 aQ E.length cQ 0, .bool true]) ∧ RulesIn w' aQ E ∧ E.length ≤ cQ ∧ Below w.heap.size w w') ∨
  (¬ startP k E ∧ e = .returned (.tuple #[workVal 0 none 0 0 none 0 0 0, .bool false]) ∧ Below w.heap.size w w')
theorem ownsOff.cap {w : World} {base : Nat} {T : TypeId} {size : Nat} {a : Option Addr} {n cap : Nat} {xs : List Value} (h : ownsOff w base T size (.slice a n cap) n xs) : n ≤ cap := by
  rcases h.2 with ⟨hv, h0⟩ | ⟨g, o, c, cur, hv, hb, hg, hc, _⟩
  · simp only [Value.slice.injEq] at hv; omega
  · simp only [Value.slice.injEq] at hv
    obtain ⟨_, _, rfl⟩ := hv
    exact hc
set_option maxRecDepth 100000 in
set_option maxHeartbeats 4000000 in
theorem implStartWork_any (k : Int) (E : List RulD) (a : Option Addr) (cap : Nat) (w : World) (hl : RulesIn w a E) (hlen : E.length ≤ 2 ^ 40) (hz : SzR E) :
    Calls Tryz.prog 82 #[.int .i64 k, .slice a E.length cap] w (RetStI k E w) := by
  have HB0 := Lib.hid (Below.now (alloc_belowS w (.cells #[.int .i64 k] 3)) (alloc_belowS _ (.cells #[.int .i64 0, .slice none 0 0, .slice none 0 0, .int .i64 0] 69)))
  have hat := alloc_two w (.cells #[.int .i64 k] 3) (.cells #[.int .i64 0, .slice none 0 0, .slice none 0 0, .int .i64 0] 69)
  have hsz : ((w.alloc (.cells #[.int .i64 k] 3)).alloc (.cells #[.int .i64 0, .slice none 0 0, .slice none 0 0, .int .i64 0] 69)).heap.size = w.heap.size + 2 := by simp
  have HBK : Hid (∀ W, Below ((w.alloc (.cells #[.int .i64 k] 3)).alloc (.cells #[.int .i64 0, .slice none 0 0, .slice none 0 0, .int .i64 0] 69)).heap.size ((w.alloc (.cells #[.int .i64 k] 3)).alloc (.cells #[.int .i64 0, .slice none 0 0, .slice none 0 0, .int .i64 0] 69)) W → W.heap[w.heap.size + 1]? = some (.cells #[.int .i64 0, .slice none 0 0, .slice none 0 0, .int .i64 0] 69 (0, 0)) ∧ W.cell? ⟨w.heap.size, 0, none⟩ = some (.int .i64 k)) := Lib.hid (fun W hW => ⟨(hW.block _ (by rw [hsz]; omega)).trans hat.2, by
    have h1 := (hW.block w.heap.size (by rw [hsz]; omega)).trans hat.1
    simp [World.cell?, h1]⟩)
  have HL := Lib.hid (RulesIn.later hl HB0.out)
  have HZ := Lib.hid hz
  have HIN := Lib.hid (fun W => within_any k 1 4 W)
  have HCF := Lib.hid (containsFuncR_any 126 #[.pointer (some ⟨w.heap.size, 0, none⟩)] (fun r => ¬ sideP k r) E a cap _ HL.out hlen (w.heap.size + 2) (by rw [hsz]; exact Nat.le_refl _) (fun j hj W hW => by
    have z := HZ.out j hj
    rw [← hsz] at hW
    exact startWork1_any k _ _ w.heap.size W z.1 z.2 (HBK.out W hW).2) (enters_of Tryz.func126 (by kernel_rfl) rfl))
  have HNO : Hid (∀ W, Below w.heap.size w W → ¬ startP k E → RetStI k E w (.returned (.tuple #[.agg #[.int .i64 0, .slice none 0 0, .slice none 0 0, .int .i64 0], .bool false])) (put4 W (w.heap.size + 1) (.int .i64 0) (.slice none 0 0) (.slice none 0 0) (.int .i64 0))) :=
    Lib.hid (fun W hW hn => .inr ⟨hn, rfl, put4_below hW (by omega) _ _ _ _⟩)
  have HS2 := Lib.hid hsz
  have HWH : Hid (w.heap.size + 1 < ((w.alloc (.cells #[.int .i64 k] 3)).alloc (.cells #[.int .i64 0, .slice none 0 0, .slice none 0 0, .int .i64 0] 69)).heap.size) := Lib.hid (by rw [hsz]; omega)
  clear hl hz hat hsz
  go_enter Tryz.func82, Tryz.ntmps82
  go_wp2_with fail
  generalize (w.alloc (.cells #[.int .i64 k] 3)).alloc (.cells #[.int .i64 0, .slice none 0 0, .slice none 0 0, .int .i64 0] 69) = w1 at *
  have s0 := (HBK.out _ (Below.refl _ _)).2
  refine (HIN.out _).mono ?_
  rintro e w2 ⟨rfl, rfl⟩
  cases hk : inB k 1 4
  · have F := Lib.hid (HNO.out _ HB0.out (fun h => by have h1 := h.1; unfold inB at hk; simp at hk; omega))
    obtain ⟨⟨f0, f1, f2, f3⟩, ⟨u0, u1, u2, u3⟩, ⟨q0, q1, q2, q3⟩, _⟩ := put4_sets (HBK.out _ (Below.refl _ _)).1 (.int .i64 0) (.slice none 0 0) (.slice none 0 0) (.int .i64 0)
    unfold put4 at F u0 u1 u2 u3
    go_wp2_with fail
    refine bodyPost_ret (v := .tuple #[.agg #[.int .i64 0, .slice none 0 0, .slice none 0 0, .int .i64 0], .bool false]) ?_ rfl F.out
    simp [results, Tryz.results82, go_sem, u0, u1, u2, u3]
  · have hk2 : 1 ≤ k ∧ k ≤ 4 := by unfold inB at hk; simp at hk; omega
    have HK := Lib.hid hk2
    clear hk2 HIN
    by_cases h12 : 12 < E.length
    · have hd2 : (12 : Int) < (E.length : Int) := by omega
      have F := Lib.hid (HNO.out _ HB0.out (fun h => by have h1 := h.2.1; omega))
      obtain ⟨⟨f0, f1, f2, f3⟩, ⟨u0, u1, u2, u3⟩, ⟨q0, q1, q2, q3⟩, _⟩ := put4_sets (HBK.out _ (Below.refl _ _)).1 (.int .i64 0) (.slice none 0 0) (.slice none 0 0) (.int .i64 0)
      unfold put4 at F u0 u1 u2 u3
      go_wp2_with fail
      refine bodyPost_ret (v := .tuple #[.agg #[.int .i64 0, .slice none 0 0, .slice none 0 0, .int .i64 0], .bool false]) ?_ rfl F.out
      simp [results, Tryz.results82, go_sem, u0, u1, u2, u3]
    · have hd2 : ¬ (12 : Int) < (E.length : Int) := by omega
      go_wp2_with fail
      refine HCF.out.mono ?_
      rintro e w3 ⟨bb, hbb, rfl, hb3⟩
      have HBB := Lib.hid hbb
      have HB3 := Lib.hid hb3
      clear hbb hb3
      cases bb
      · have HP : Hid (startP k E) := Lib.hid ⟨HK.out, by omega, fun r hr => Classical.byContradiction fun hn => by
          have := HBB.out.2 ⟨r, hr, hn⟩
          cases this⟩
        have HCL := Lib.hid (fun W h => cloneR_any E a cap W h (by omega))
        have HX3 : Hid (∀ W, Below w3.heap.size w3 W → W.cell? ⟨w.heap.size, 0, none⟩ = some (.int .i64 k)) := Lib.hid (fun W hW => (HBK.out W (Below.now HB3.out hW)).2)
        clear s0 HCF
        go_upto_region 3 with fail
        refine region_tail 5 (fun W => Below w3.heap.size w3 W) (fun W W2 => Below W.heap.size W W2) (fun u => by simp only [List.take_succ_cons, List.take_zero, fPut, Act.put, List.setIfInBounds_toArray, List.set_cons_succ, List.set_cons_zero, Nat.zero_add, Nat.reduceAdd]; rfl) (by kernel_rfl) (by kernel_rfl) (by kernel_rfl) (by kernel_rfl) (by kernel_rfl) (by kernel_rfl) (by kernel_rfl) (Below.drew (Below.refl _ _)) ?_
        conv => arg 7; simp only [List.take_succ_cons, List.take_zero]
        apply each_read (fun _ => Below.refl _ _) rfl
        · intro u wv hC hf
          have s0 := HX3.out _ hC
          clear hf
          go_simp
          try rfl
        apply each_read (fun _ => Below.refl _ _) rfl
        · intro u wv hC hf
          have s0 := HX3.out _ hC
          obtain ⟨d0_0, -⟩ := hf
          have e0 : u 0 = _ := d0_0 rfl
          clear d0_0
          go_simp
          try rfl
        conv => arg 8; simp only [List.cons_append, List.nil_append]
        apply each_read (fun _ => Below.refl _ _) rfl
        · intro u wv hC hf
          have s0 := HX3.out _ hC
          clear hf
          go_simp
          try rfl
        conv => arg 8; simp only [List.cons_append, List.nil_append]
        refine each_call (fun v wv => ∃ a c, v = .slice a E.length c ∧ ownsOff wv w3.heap.size 39 2 (.slice a E.length c) E.length (ruleCells E)) (fun v w w2 _ hR ⟨a, c, h1, h2⟩ => ⟨a, c, h1, h2.later hR⟩) rfl ?_ ?_
        · intro u wv hC hf
          have s0 := HX3.out _ hC
          obtain ⟨d2_0, -⟩ := hf
          have e2 : u 2 = _ := d2_0 rfl
          clear d2_0
          apply Exists.intro; apply Exists.intro; apply And.intro
          · go_simp; exact ⟨rfl, rfl⟩
          · refine (HCL.out _ (HL.out.later (Below.now HB3.out hC))).mono ?_
            rintro e w4 ⟨a, c, rfl, ho, hb⟩
            exact ⟨_, rfl, Below.now hC hb, hb, a, c, rfl, ho.mono hC.size⟩
        conv => arg 8; simp only [List.cons_append, List.nil_append]
        refine each_do (fun v wv => ∃ a c, v = .agg #[.int .i64 k, .slice none 0 0, .slice a E.length c, .int .i64 0] ∧ ownsOff wv w3.heap.size 39 2 (.slice a E.length c) E.length (ruleCells E)) (fun v w w2 _ hR ⟨a, c, h1, h2⟩ => ⟨a, c, h1, h2.later hR⟩) rfl ?_ ?_
        · intro u wv hC hf
          have s0 := HX3.out _ hC
          obtain ⟨d1_0, d3_1, -⟩ := hf
          have e1 : u 1 = _ := d1_0 rfl
          clear d1_0
          obtain ⟨a3, c3, e3, o3⟩ := d3_1 rfl
          refine ⟨.agg #[.int .i64 k, .slice none 0 0, .slice a3 E.length c3, .int .i64 0], wv, ?_, hC, Below.refl _ _, a3, c3, rfl, o3⟩
          go_simp
          try rfl
        intro u w7 hb7 hall
        obtain ⟨a0, a1, a2, a3, a4, -⟩ := hall
        have e0 : u 0 = _ := a0
        clear a0
        have e1 : u 1 = _ := a1
        clear a1
        have e2 : u 2 = _ := a2
        clear a2
        obtain ⟨a3, c3, e3, o3⟩ := a3
        replace e3 : u 3 = _ := e3
        obtain ⟨a4, c4, e4, o4⟩ := a4
        replace e4 : u 4 = _ := e4
        change wpList _ _ _ (List.drop 5 _) _ _
        simp only [List.drop_succ_cons, List.drop_zero]
        simp only [e0, e1, e2, e3, e4]
        clear e0 e1 e2 e3 e4
        obtain ⟨⟨f0, f1, f2, f3⟩, ⟨u0, u1, u2, u3⟩, ⟨q0, q1, q2, q3⟩, _⟩ := put4_sets (HBK.out _ (Below.now HB3.out hb7)).1 (.int .i64 k) (.slice none 0 0) (.slice a4 E.length c4) (.int .i64 0)
        have F : Hid (RetStI k E w (.returned (.tuple #[.agg #[.int .i64 k, .slice none 0 0, .slice a4 E.length c4, .int .i64 0], .bool true])) (put4 w7 (w.heap.size + 1) (.int .i64 k) (.slice none 0 0) (.slice a4 E.length c4) (.int .i64 0))) := Lib.hid (.inl ⟨HP.out, a4, c4, rfl, (put4_owns o4 (by have := HWH.out; have := HB3.out.size; omega) _ _ _ _).cells, o4.cap, put4_below (Below.now HB0.out (Below.now HB3.out hb7)) (by omega) _ _ _ _⟩)
        unfold put4 at F u0 u1 u2 u3
        clear hb7 o3 o4
        go_wp2_with fail
        refine bodyPost_ret (v := .tuple #[.agg #[.int .i64 k, .slice none 0 0, .slice a4 E.length c4, .int .i64 0], .bool true]) ?_ rfl F.out
        simp [results, Tryz.results82, go_sem, u0, u1, u2, u3]
      · have F := Lib.hid (HNO.out _ (Below.now HB0.out HB3.out) (fun h => by
          obtain ⟨r, hr, hn⟩ := HBB.out.1 rfl
          exact hn (h.2.2 r hr)))
        obtain ⟨⟨f0, f1, f2, f3⟩, ⟨u0, u1, u2, u3⟩, ⟨q0, q1, q2, q3⟩, _⟩ := put4_sets (HBK.out _ HB3.out).1 (.int .i64 0) (.slice none 0 0) (.slice none 0 0) (.int .i64 0)
        unfold put4 at F u0 u1 u2 u3
        clear HCF s0
        go_wp2_with fail
        refine bodyPost_ret (v := .tuple #[.agg #[.int .i64 0, .slice none 0 0, .slice none 0 0, .int .i64 0], .bool false]) ?_ rfl F.out
        simp [results, Tryz.results82, go_sem, u0, u1, u2, u3]
end Go.Proofs.YtgoeadgpbidgiaaGreatDoor
namespace Go.Proofs.YtgoeadgpbidgiaaGreatDoor
open Go.RowKit
set_option linter.unusedVariables false
set_option maxRecDepth 100000 in
set_option maxHeartbeats 1000000 in
theorem specStepsOf_bad (k : Int) (R : List RulD) (a : Option Addr) (cap : Nat) (w0 : ByteArray) (w : World) (hl : RulesIn w a R) (hlen : R.length ≤ 2 ^ 40) (hz : SzR R) (hn : ¬ rulesP k R) :
    Calls Tryz.prog 213 #[.agg #[.int .i64 k, .slice a R.length cap], .string w0] w fun e w' => e = .returned (.slice none 0 0) ∧ Below w.heap.size w w' := by
  have HL := Lib.hid hl
  have HN := Lib.hid hn
  have HRO := Lib.hid (fun W h => specRulesOk_any k R a cap W h hlen hz)
  have HA := Lib.hid (fun o => alloc_belowS w o)
  clear hl hz hn
  go_enter Tryz.func213, Tryz.ntmps213
  go_wp2_with fail
  refine (HRO.out _ (HL.out.later (HA.out _))).mono ?_
  rintro e w1 ⟨bb, hbb, rfl, hb1⟩
  have HW1 := Lib.hid (Below.now (HA.out _) hb1)
  have hbf : bb = false := by
    cases bb with
    | false => rfl
    | true => exact absurd (hbb.1 rfl) HN.out
  subst hbf
  clear hbb hb1
  go_wp2_with fail
  go_ret
  exact ⟨rfl, HW1.out⟩
set_option maxRecDepth 100000 in
set_option maxHeartbeats 1000000 in
theorem specFirstStep_bad (k : Int) (R : List RulD) (a : Option Addr) (cap : Nat) (w0 : ByteArray) (w : World) (hl : RulesIn w a R) (hlen : R.length ≤ 2 ^ 40) (hz : SzR R) (hn : ¬ rulesP k R) :
    Calls Tryz.prog 193 #[.agg #[.int .i64 k, .slice a R.length cap], .string w0] w fun e w' => e = .returned (.tuple #[.agg #[.int .i64 0, .int .i64 0], .bool false]) ∧ Below w.heap.size w w' := by
  have HL := Lib.hid hl
  have HSO := Lib.hid (fun W h => specStepsOf_bad k R a cap w0 W h hlen hz hn)
  have HA2 := Lib.hid (fun o o2 => Below.now (alloc_belowS w o) (alloc_belowS (w.alloc o) o2))
  have e1 : (w.alloc (.cells #[.int .i64 k, .slice a R.length cap] 33)).heap.size = w.heap.size + 1 := by simp
  have HBX := Lib.hid (fun W2 (h : Below ((w.alloc (.cells #[.int .i64 k, .slice a R.length cap] 33)).alloc (.cells #[.int .i64 0, .int .i64 0] 116)).heap.size ((w.alloc (.cells #[.int .i64 k, .slice a R.length cap] 33)).alloc (.cells #[.int .i64 0, .int .i64 0] 116)) W2) => box_facts h)
  rw [e1] at HBX
  clear hl hz hn e1
  go_enter Tryz.func193, Tryz.ntmps193
  go_wp2_with fail
  refine (HSO.out _ (HL.out.later (HA2.out _ _))).mono ?_
  rintro e w1 ⟨rfl, hb1⟩
  obtain ⟨⟨b0, b1⟩, f0, f1⟩ := HBX.out w1 hb1
  have HW1 := Lib.hid (Below.now (HA2.out _ _) hb1)
  have HSZ : Hid (w.heap.size ≤ w.heap.size + 1) := Lib.hid (by omega)
  clear hb1
  go_wp2_with fail
  refine bodyPost_ret (v := .tuple #[.agg #[.int .i64 0, .int .i64 0], .bool false]) ?_ rfl ?_
  · simp [results, Tryz.results193, go_sem, b0, b1]
  · exact ⟨rfl, (HW1.out.setCell HSZ.out _).setCell HSZ.out _⟩
set_option maxRecDepth 100000 in
set_option maxHeartbeats 1000000 in
theorem l04Trace_bad (k : Int) (R : List RulD) (a : Option Addr) (cap : Nat) (w0 : ByteArray) (w : World) (hl : RulesIn w a R) (hlen : R.length ≤ 2 ^ 40) (hz : SzR R) (hn : ¬ rulesP k R) :
    Calls Tryz.prog 155 #[.agg #[.int .i64 k, .slice a R.length cap], .string w0] w fun e w' => ∃ v, e = .returned (.tuple #[v, .string w0]) ∧ Below w.heap.size w w' := by
  have HL := Lib.hid hl
  have HFS := Lib.hid (fun W h => specFirstStep_bad k R a cap w0 W h hlen hz hn)
  have hb1 := alloc_belowS w (.cells #[.int .i64 k, .slice a R.length cap] 33)
  have HBX := Lib.hid (fun W2 (h : Below (w.alloc (.cells #[.int .i64 k, .slice a R.length cap] 33)).heap.size (w.alloc (.cells #[.int .i64 k, .slice a R.length cap] 33)) W2) => box_two h)
  clear hl hz hn
  go_enter Tryz.func155, Tryz.ntmps155
  go_wp2_with fail
  have HW1 := Lib.hid hb1
  generalize w.alloc (.cells #[.int .i64 k, .slice a R.length cap] 33) = w1 at *
  clear hb1
  go_loopw [1, 6] (fun vw vo wr => vw = .string w0 ∧ (∃ g, vo = .slice (some ⟨g, 0, none⟩) 0 0) ∧ Below w1.heap.size w1 wr) (fun _ _ _ => 0)
  case atStart => exact ⟨rfl, ⟨_, rfl⟩, alloc_belowS _ _⟩
  case round =>
    obtain ⟨rfl, ⟨g, rfl⟩, hbd⟩ := hrel
    obtain ⟨s0, s1⟩ := HBX.out wr hbd
    have HB := Lib.hid hbd
    clear hbd
    go_wp2_with fail
    refine (HFS.out wr (HL.out.later (Below.now HW1.out HB.out))).mono ?_
    rintro e w2 ⟨rfl, hb2⟩
    have HB2 := Lib.hid (Below.now HW1.out (Below.now HB.out hb2))
    clear hb2
    go_wp2_with fail
    go_ret2
    exact ⟨_, rfl, Below.now HB2.out (alloc_belowS _ _)⟩
/-- the words behind an insertion: reduced, if the rules are not too many -/
noncomputable def phiF (R : List RulD) (r : RulD) (u : ByteArray) : ByteArray := if (allF R r).length ≤ 12 then nfC (allF R r) u else u
theorem l04Trace_all (k : Int) (R : List RulD) (r : RulD) (a : Option Addr) (cap : Nat) (u : ByteArray) (w : World) (hl : RulesIn w a (allF R r)) (hs : sysP k R) (hr : NewR k r) (hu : wordOkB k u = true) :
    Calls Tryz.prog 155 #[.agg #[.int .i64 k, .slice a (allF R r).length cap], .string u] w fun e w' => ∃ v, e = .returned (.tuple #[v, .string (phiF R r u)]) ∧ Below w.heap.size w w' := by
  have ha := allF_sys hs hr
  have hlen := allF_len hs r
  unfold phiF
  by_cases h : (allF R r).length ≤ 12
  · rw [if_pos h]
    have hsys : sysP k (allF R r) := ⟨⟨⟨ha.1.1, h⟩, ha.1.2⟩, ha.2⟩
    exact (l04Trace_any k (allF R r) a cap u w hl hsys hu).mono fun e w' ⟨v, x, hx, he, hb⟩ => ⟨v, by rw [nfC_eq hx]; exact he, hb⟩
  · rw [if_neg h]
    refine l04Trace_bad k (allF R r) a cap u w hl (by omega) (fun j hj => ?_) (fun hp => h hp.1.2)
    have h1 := (ha.1.2 _ (nthR_mem hj)).1.2
    unfold maxLen
    omega
end Go.Proofs.YtgoeadgpbidgiaaGreatDoor
namespace Go.Proofs.YtgoeadgpbidgiaaGreatDoor
open Go.RowKit
set_option linter.unusedVariables false
/-- the sides of those pairs among some that have to do with the last rule -/
def newL (N : List RulD) (l : List PairD) : List RulD := (l.filter (lastP N)).map (sidesF N)
theorem newL_take {N : List RulD} {S : List PairD} {q : Nat} (h : q < S.length) : newL N (S.take (q + 1)) = newL N (S.take q) ++ newL N [S[q]] := by
  unfold newL
  rw [List.take_succ_eq_append_getElem h, List.filter_append, List.map_append]
theorem newL_yes {N : List RulD} {p : PairD} (h : lastP N p = true) : newL N [p] = [sidesF N p] := by simp [newL, h]
theorem newL_no {N : List RulD} {p : PairD} (h : lastP N p = false) : newL N [p] = [] := by simp [newL, h]
theorem newL_len (N : List RulD) (l : List PairD) : (newL N l).length ≤ l.length := by
  unfold newL
  rw [List.length_map]
  exact List.length_filter_le _ _
theorem ruleCells_one1 (l : List RulD) (x y : ByteArray) : ruleCells (l ++ [(x, y)]) = ruleCells l ++ [.string x, .string y] := by rw [ruleCells_app]; rfl
theorem lastP_int {N : List RulD} (h : 0 < N.length) (x y : Nat) (u : ByteArray) (i : Nat) : lastP N (u, x, y, i) = (((x : Int) == (N.length : Int) - 1) || ((y : Int) == (N.length : Int) - 1)) := by
  have key : ∀ z : Nat, decide (z = N.length - 1) = ((z : Int) == (N.length : Int) - 1) := fun z => by
    rw [Bool.eq_iff_iff, decide_eq_true_eq, beq_iff_eq]
    omega
  unfold lastP
  rw [← key, ← key]
set_option maxRecDepth 100000 in
set_option maxHeartbeats 4000000 in
theorem l06Pairs_any (k : Int) (R : List RulD) (a : Option Addr) (cap : Nat) (w : World) (hl : RulesIn w a R) (hs : sysP k R) (hne : 0 < R.length) :
    Calls Tryz.prog 158 #[.agg #[.int .i64 k, .slice a R.length cap]] w (RetSl 39 2 (newQ R).length (ruleCells (newQ R)) w) := by
  have HL := Lib.hid hl
  have HPF := Lib.hid (fun W h => specPairsOf_any k R a cap W h hs)
  have HIJ := Lib.hid (fun p W h (hm : p ∈ pairsF R) => specSidesOf_any k R a cap p W h hs (pairOk hs hm))
  have HSZ : (pairsF R).length ≤ 2496 := by
    have h := pairTo_len (left8 hs) hs.1.1.2 (i := R.length) (j := 0) hs.1.1.2 (by omega)
    rw [pairTo_done] at h
    exact h
  have HLP := Lib.hid (fun u x y i => lastP_int hne x y u i)
  have HSD : Hid (∀ p, sidesF R p = (leftP R p, rightP R p)) := Lib.hid (fun p => rfl)
  have HFE : Hid (newQ R = newL R ((pairsF R).take (pairsF R).length)) := Lib.hid (by rw [List.take_length]; rfl)
  have h12 : R.length ≤ 12 := hs.1.1.2
  have hb1 := alloc_belowS w (.cells #[.int .i64 k, .slice a R.length cap] 33)
  have HBX := Lib.hid (fun W2 (h : Below (w.alloc (.cells #[.int .i64 k, .slice a R.length cap] 33)).heap.size (w.alloc (.cells #[.int .i64 k, .slice a R.length cap] 33)) W2) => box_two h)
  have HW1 := Lib.hid hb1
  clear hl hs
  go_enter Tryz.func158, Tryz.ntmps158
  have s0 := fun o => (HBX.out _ (alloc_belowS _ o)).1
  have s1 := fun o => (HBX.out _ (alloc_belowS _ o)).2
  go_wp2_with fail
  have HB0 : Hid (Bld 39 2 (w.alloc (.cells #[.int .i64 k, .slice a R.length cap] 33)) ((w.alloc (.cells #[.int .i64 k, .slice a R.length cap] 33)).alloc (.cells #[] 39)) (.slice (some ⟨(w.alloc (.cells #[.int .i64 k, .slice a R.length cap] 33)).heap.size, 0, none⟩) 0 0) 0 (ruleCells [])) := Lib.hid (Bld.empty 39 2 _)
  have e1 : (w.alloc (.cells #[.int .i64 k, .slice a R.length cap] 33)).heap.size = w.heap.size + 1 := by simp
  rw [e1] at HB0
  clear s0 s1
  generalize hW1 : w.alloc (.cells #[.int .i64 k, .slice a R.length cap] 33) = w1 at *
  have hb3 := alloc_belowS w1 (.cells #[] 39)
  obtain ⟨w2, hw2⟩ : ∃ w2, w2 = w1.alloc (.cells #[] 39) := ⟨_, rfl⟩
  rw [← hw2] at hb3 HB0 ⊢
  have HB3 := Lib.hid hb3
  have hs12 : w1.heap.size = w.heap.size + 1 := by rw [← hW1]; simp
  have hs22 : w2.heap.size = w1.heap.size + 1 := by rw [hw2]; simp
  clear hb1 hb3 hw2 e1 hW1
  have HMM : Hid (∀ q (h : q < (pairsF R).length), (pairsF R)[q] ∈ pairsF R) := Lib.hid (fun q h => List.getElem_mem h)
  refine (HPF.out _ (HL.out.later (Below.now HW1.out HB3.out))).mono ?_
  rintro e wc ⟨a2, c2, rfl, ho6, hbc⟩
  have hba : ∀ x, a2 = some x → w2.heap.size ≤ x.block ∧ x.block < wc.heap.size := fun x hx => ho6.lt x.block (by rw [hx]; rfl)
  have HI : Hid (RowsIn prV wc a2 (pairsF R)) := Lib.hid (owns_rows ho6)
  have HB1 : Hid (Bld 39 2 w1 wc (.slice (some ⟨w.heap.size + 1, 0, none⟩) 0 0) (newL R ((pairsF R).take 0)).length (ruleCells (newL R ((pairsF R).take 0)))) := Lib.hid (HB0.out.later hbc)
  have HA1 : Hid (Away wc a2 (.slice (some ⟨w.heap.size + 1, 0, none⟩) 0 0)) := Lib.hid (fun x hx => by
    obtain ⟨h1, h2⟩ := hba x hx
    exact ⟨h2, fun e => by have e2 : x.block = w.heap.size + 1 := Option.some.inj e; omega⟩)
  have HIJ2 : Hid (∀ q (h : q < (pairsF R).length) W, RulesIn W a R → Calls Tryz.prog 177 #[.agg #[.int .i64 k, .slice a R.length cap], pairVal (pairsF R)[q]] W fun e w' => e = .returned (.tuple #[.string (leftP R (pairsF R)[q]), .string (rightP R (pairsF R)[q]), .bool true]) ∧ Below W.heap.size W w') := Lib.hid (fun q h W hW => HIJ.out _ W hW (HMM.out q h))
  clear hbc ho6 HB0 HPF hba HIJ HMM
  generalize pairsF R = S at *
  generalize hMI : (R.length : Int) - 1 = M at *
  have HMI := Lib.hid hMI
  clear hMI
  go_wp2_with fail
  go_loopw [3, 18] (fun vo vq wr => ∃ q : Nat, q ≤ S.length ∧ vq = .int .i64 (q : Nat) ∧ Bld 39 2 w1 wr vo (newL R (S.take q)).length (ruleCells (newL R (S.take q))) ∧ Hid (RowsIn prV wr a2 S) ∧ Hid (Away wr a2 vo)) (fun _ vq _ => S.length - (intOf vq).toNat)
  case atStart => exact ⟨0, Nat.zero_le _, rfl, HB1.out, HI, HA1⟩
  case round =>
    clear HB1 HI HA1
    obtain ⟨q, hq, rfl, hbd, HI, HAW⟩ := hrel
    obtain ⟨ao, co, rfl⟩ := owns_form hbd.1
    have HB := Lib.hid hbd
    have hil := newL_len R (S.take q)
    have htl : (S.take q).length ≤ 2496 := by rw [List.length_take]; omega
    by_cases hlt : q < S.length
    · obtain ⟨b2, off2, rfl, hb2, hcs⟩ := RowsIn.cell prV_len (by omega) HI.out hlt
      have HNX := Lib.hid (newL_take (N := R) hlt)
      have HC := Lib.hid (HIJ2.out q hlt)
      have c0 : wr.cell? ⟨b2, off2 + q * 5, none⟩ = some (.string S[q].1) := hcs q hlt 0 _ rfl
      have c1 : wr.cell? ⟨b2, off2 + q * 5 + 1, none⟩ = some (.int .i64 (S[q].2.1 : Nat)) := hcs q hlt 1 _ rfl
      have c2 : wr.cell? ⟨b2, off2 + q * 5 + 2, none⟩ = some (.int .i64 0) := hcs q hlt 2 _ rfl
      have c3 : wr.cell? ⟨b2, off2 + q * 5 + 3, none⟩ = some (.int .i64 (S[q].2.2.1 : Nat)) := hcs q hlt 3 _ rfl
      have c4 : wr.cell? ⟨b2, off2 + q * 5 + 4, none⟩ = some (.int .i64 (S[q].2.2.2 : Nat)) := hcs q hlt 4 _ rfl
      have HLR := Lib.hid (fun o => HL.out.later (Below.now HW1.out (Below.now hbd.2 (alloc_belowS wr o))))
      have s0 := fun o => (HBX.out _ (Below.now hbd.2 (alloc_belowS wr o))).1
      have s1 := fun o => (HBX.out _ (Below.now hbd.2 (alloc_belowS wr o))).2
      have HSQ := Lib.hid (HSD.out S[q])
      unfold pairVal at HC
      clear hcs hbd
      generalize S[q] = p at *
      obtain ⟨u, x, y, z⟩ := p
      have HLX := Lib.hid (HLP.out u x y z)
      generalize leftP R (u, x, y, z) = lp at *
      generalize rightP R (u, x, y, z) = rp at *
      have HA0 : Hid (Away (wr.alloc (.cells #[.string u, .int .i64 (x : Nat), .int .i64 0, .int .i64 (y : Nat), .int .i64 (z : Nat)] 122)) (some ⟨b2, off2, none⟩) (.slice ao (newL R (S.take q)).length co)) := Lib.hid (fun x hx => ⟨Nat.lt_of_lt_of_le (HAW.out x hx).1 (alloc_belowS wr _).size, (HAW.out x hx).2⟩)
      have HB0 := Lib.hid (HB.out.later (alloc_belowS wr (.cells #[.string u, .int .i64 (x : Nat), .int .i64 0, .int .i64 (y : Nat), .int .i64 (z : Nat)] 122)))
      have HI0 := Lib.hid (HI.out.later (alloc_belowS wr (.cells #[.string u, .int .i64 (x : Nat), .int .i64 0, .int .i64 (y : Nat), .int .i64 (z : Nat)] 122)))
      cases hlast : lastP R (u, x, y, z)
      · have hx1 : ((x : Int) == M) = false := by have h := HLX.out; rw [hlast] at h; exact (Bool.or_eq_false_iff.1 h.symm).1
        have hx2 : ((y : Int) == M) = false := by have h := HLX.out; rw [hlast] at h; exact (Bool.or_eq_false_iff.1 h.symm).2
        have HNY : Hid (newL R (S.take (q + 1)) = newL R (S.take q)) := Lib.hid (by rw [HNX.out, newL_no hlast, List.append_nil])
        clear hlast
        generalize newL R (S.take q) = X at *
        go_wp2_with fail
        go_roundw
        case rel => exact ⟨q + 1, by omega, by go_num, by rw [HNY.out]; exact HB0.out, HI0, HA0⟩
        case measure => simp [intOf]; omega
      · have HNY : Hid (newL R (S.take (q + 1)) = newL R (S.take q) ++ [(lp, rp)]) := Lib.hid (by rw [HNX.out, newL_yes hlast, HSQ.out])
        have hor : ((x : Int) == M) = true ∨ (((x : Int) == M) = false ∧ ((y : Int) == M) = true) := by
          have h := HLX.out
          rw [hlast] at h
          cases h1 : ((x : Int) == M)
          · rw [h1] at h; exact .inr ⟨rfl, by simpa using h.symm⟩
          · exact .inl rfl
        have HN1 : Hid ([Value.string lp, .string rp].length = 1 * 2) := Lib.hid rfl
        have HN2 : Hid (∀ v ∈ [Value.string lp, .string rp], v.oneCell' = true) := Lib.hid (fun v hv => by simp at hv; rcases hv with rfl | rfl <;> rfl)
        clear hlast
        generalize newL R (S.take q) = X at *
        rcases hor with hx1 | ⟨hx1, hx2⟩
        all_goals
          go_wp2_with fail
          refine (HC.out _ (HLR.out _)).mono ?_
          rintro e w5 ⟨rfl, hb5⟩
          have HB5 := Lib.hid (HB0.out.later hb5)
          have HI5 := Lib.hid (HI0.out.later hb5)
          have HA5 : Hid (Away w5 (some ⟨b2, off2, none⟩) (.slice ao X.length co)) := Lib.hid (fun x hx => ⟨Nat.lt_of_lt_of_le (HA0.out x hx).1 hb5.size, (HA0.out x hx).2⟩)
          have HB6 := Lib.hid (HB5.out.later (alloc_belowS w5 (.cells #[.string lp, .string rp] 39)))
          clear hb5 s0 s1 c0 c1 c2 c3 c4 HC HLR
          go_wp2_with (at_builtin; refine wpList_appM rfl (.tmp 41) (.tmp 45) rfl Tryz.underlying25 Tryz.infoRule rfl (by decide) rfl HB6.out rfl (Src.lit _) HN1.out HN2.out (by unfold maxLen; omega) (by omega) ?_; intro v4 w4 hb4 hg4 ho4)
          have HB4 : Hid (Bld 39 2 w1 w4 v4 (newL R (S.take (q + 1))).length (ruleCells (newL R (S.take (q + 1))))) := Lib.hid (by
            rw [HNY.out, List.length_append, ruleCells_one1]; exact hb4)
          have HG4 := Lib.hid ((World.grownBy_alloc w5 _ (Value.slice ao X.length co).ownBlock).trans hg4)
          have HI4 : Hid (RowsIn prV w4 (some ⟨b2, off2, none⟩) S) := Lib.hid (CellsIn.grownC HI5.out HG4.out (fun x hx => (HA5.out x hx).2))
          have HA4 : Hid (Away w4 (some ⟨b2, off2, none⟩) v4) := Lib.hid (fun x hx => by
            obtain ⟨h1, h2⟩ := HA5.out x hx
            refine ⟨Nat.lt_of_lt_of_le h1 HG4.out.size, fun e => ?_⟩
            rcases ho4 with h | h
            · exact h2 (e.trans h)
            · have e4 := Option.some.inj (e.trans h)
              first | omega | (simp at e4; omega))
          obtain ⟨a4, c4, hv4⟩ := owns_form HB4.out.1
          subst hv4
          clear hb4 hg4 ho4
          go_wp2_with fail
          go_roundw
          case rel => exact ⟨q + 1, by omega, by go_num, HB4.out, HI4, HA4⟩
          case measure => simp [intOf]; omega
    · obtain rfl : q = S.length := by omega
      have F : Hid (RetSl 39 2 (newQ R).length (ruleCells (newQ R)) w (.returned (.slice ao (newL R (S.take S.length)).length co)) wr) := Lib.hid (by
        rw [HFE.out]
        exact (HB.out.since HW1.out).ret)
      clear hbd
      go_wp2_with fail
      go_ret
      exact F.out
end Go.Proofs.YtgoeadgpbidgiaaGreatDoor
