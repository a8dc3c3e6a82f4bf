/-
  Table.those and Table.all, for every function value over the elements.
-/
import Derived.Test.YtkkffaiacipibaaTabImpl
import Derived.Test.YtkkffaiacipibaaDelInts
import Derived.Test.YtkkffaiacipibaaIntFns
namespace Go.Proofs.Ytkkffaiacipibaa
open Go.RowKit
set_option linter.unusedVariables false
def idxList (m : Nat) : List Int := (List.range m).map Int.ofNat
theorem idxList_len (m : Nat) : (idxList m).length = m := by simp [idxList]
theorem idxList_nth {m j : Nat} (h : j < m) : nthZ (idxList m) j = (j : Nat) := by rw [nthZ_lt (by rw [idxList_len]; exact h)]; simp [idxList]
theorem idxVals_eq (m : Nat) : idxVals m = intVals (idxList m) := by simp [idxVals, intVals, idxList]
/-- a function value that answers p for the elements below m, in every world that is as w below B -/
def PredEl (B : Nat) (g : Nat) (caps : Array Value) (p : Nat → Bool) (m : Nat) (w : World) : Prop :=
  ∀ j, j < m → ∀ W, Below B w W → Calls Try.prog g (#[.int .i64 (j : Nat)] ++ caps) W fun e W' => e = .returned (.bool (p j)) ∧ Below W.heap.size W W'
theorem PredEl.later {B : Nat} {g : Nat} {caps : Array Value} {p : Nat → Bool} {m : Nat} {w w1 : World} (h : PredEl B g caps p m w) (hb : Below B w w1) : PredEl B g caps p m w1 :=
  fun j hj W hW => h j hj W (hb.trans hW)
theorem PredEl.mono {B B' : Nat} {g : Nat} {caps : Array Value} {p : Nat → Bool} {m : Nat} {w : World} (h : PredEl B g caps p m w) (hb : B ≤ B') : PredEl B' g caps p m w :=
  fun j hj W hW => h j hj W (hW.mono hb)
/-- the elements of a valid table with a property -/
def thoseL (n : Int) (l : List Int) (p : Nat → Bool) : List Int := if tabB n l then ((List.range n.toNat).filter p).map Int.ofNat else []
theorem keepZ_idx (m : Nat) (p : Nat → Bool) : keepZ (fun x => !p x.toNat) (idxList m) = ((List.range m).filter p).map Int.ofNat := by
  unfold keepZ idxList
  rw [List.filter_map]
  congr 1
  apply List.filter_congr
  intro x _
  simp
/-- the closure that those and all hand on -/
theorem notPred_those (B g : Nat) (caps : Array Value) (p : Nat → Bool) (m : Nat) (w w1 : World) (b1 : Nat) (h : PredEl B g caps p m w) (hB : B ≤ w.heap.size) (hb1 : b1 < w1.heap.size) (hw : Below w.heap.size w w1)
    (h1 : w1.cell? ⟨b1, 0, none⟩ = some (.func (.func g) #[] caps)) (eg : ∀ args w, (callFunc g args).run Try.prog w = .ok (.enter g args) w) :
    PredInts w1.heap.size 92 #[.pointer (some ⟨b1, 0, none⟩)] (fun x => !p x.toNat) (idxList m) w1 := by
  intro j hj W hW
  rw [idxList_len] at hj
  rw [idxList_nth hj]
  have g1 : W.cell? ⟨b1, 0, none⟩ = some (.func (.func g) #[] caps) := by rw [hW.cell hb1]; exact h1
  have HC := Lib.hid (h j hj W ((hw.mono hB).trans (hW.mono (Nat.le_trans hB hw.size))))
  clear h1 hW hb1 hw h
  go_enter Try.func92, Try.ntmps92
  go_wp2_with fail
  refine HC.out.mono ?_
  rintro e w2 ⟨rfl, hb2⟩
  go_wp2_with fail
  go_ret
  exact ⟨by simp, hb2⟩
theorem notPred_all (B g : Nat) (caps : Array Value) (p : Nat → Bool) (m : Nat) (w w1 : World) (b1 : Nat) (h : PredEl B g caps p m w) (hB : B ≤ w.heap.size) (hb1 : b1 < w1.heap.size) (hw : Below w.heap.size w w1)
    (h1 : w1.cell? ⟨b1, 0, none⟩ = some (.func (.func g) #[] caps)) (eg : ∀ args w, (callFunc g args).run Try.prog w = .ok (.enter g args) w) :
    PredInts w1.heap.size 94 #[.pointer (some ⟨b1, 0, none⟩)] (fun x => !p x.toNat) (idxList m) w1 := by
  intro j hj W hW
  rw [idxList_len] at hj
  rw [idxList_nth hj]
  have g1 : W.cell? ⟨b1, 0, none⟩ = some (.func (.func g) #[] caps) := by rw [hW.cell hb1]; exact h1
  have HC := Lib.hid (h j hj W ((hw.mono hB).trans (hW.mono (Nat.le_trans hB hw.size))))
  clear h1 hW hb1 hw h
  go_enter Try.func94, Try.ntmps94
  go_wp2_with fail
  refine HC.out.mono ?_
  rintro e w2 ⟨rfl, hb2⟩
  go_wp2_with fail
  go_ret
  exact ⟨by simp, hb2⟩
theorem any_idx (m : Nat) (p : Nat → Bool) : (!(idxList m).any fun x => !p x.toNat) = (List.range m).all p := by
  unfold idxList
  rw [List.any_map, List.all_eq_not_any_not]
  congr 2
set_option maxHeartbeats 800000 in
theorem all_any (B g : Nat) (caps : Array Value) (p : Nat → Bool) (m : Nat) (a : Option Addr) (len cap : Nat) (w : World) (hm : m ≤ 1000) (h : PredEl B g caps p m w) (hB : B ≤ w.heap.size)
    (eg : ∀ args w, (callFunc g args).run Try.prog w = .ok (.enter g args) w) :
    Calls Try.prog 58 #[.agg #[.int .i64 m, .slice a len cap], .func (.func g) #[] caps] w fun e w' => e = .returned (.bool ((List.range m).all p)) ∧ Below w.heap.size w w' := by
  have HP := Lib.hid h
  have HA := Lib.hid (any_idx m p)
  clear h
  go_enter Try.func58, Try.ntmps58
  go_wp2_with fail
  refine (indices_any m _ (by omega)).mono ?_
  rintro e w2 ⟨ai, ci, rfl, ho, hb2⟩
  have hbel : Below w.heap.size w w2 := Below.now (((Below.refl w.heap.size w).alloc (Nat.le_refl _) _).alloc (by simp) _) hb2
  have hc : w2.cell? ⟨w.heap.size + 1, 0, none⟩ = some (.func (.func g) #[] caps) := by rw [hb2.cell (by simp)]; simp
  have hz : w.heap.size + 1 < w2.heap.size := by have := hb2.size; simp at this; omega
  rw [idxVals_eq] at ho
  have HC := containsFuncInts_any 94 #[.pointer (some ⟨w.heap.size + 1, 0, none⟩)] (fun x => !p x.toNat) (idxList m) ai ci w2 (owns_ints (l := idxList m) ho) (by rw [idxList_len]; omega) w2.heap.size (Nat.le_refl _)
    (notPred_all B g caps p m w w2 _ HP.out hB hz hbel hc eg) (enters_of Try.func94 (by kernel_rfl) rfl)
  rw [idxList_len] at HC
  have HC' := Lib.hid HC
  clear HC ho hc hb2
  go_wp2_with fail
  refine HC'.out.mono ?_
  rintro e w3 ⟨rfl, hb3⟩
  have hbel3 := Below.now hbel hb3
  clear hb3 hbel
  go_wp2_with fail
  go_ret
  exact ⟨ret_bool HA.out, hbel3⟩
theorem retSl_nil (T : TypeId) (w w' : World) (h : Below w.heap.size w w') : RetSl T 1 0 [] w (.returned (.slice none 0 0)) w' := ⟨none, 0, rfl, World.ownsRow_nil _ _ _ _, h⟩
set_option maxHeartbeats 800000 in
theorem those_any (n : Int) (l : List Int) (a : Option Addr) (cap : Nat) (w : World) (hl : IntsIn w a l) (hlen : l.length ≤ 2 ^ 47) (B g : Nat) (caps : Array Value) (p : Nat → Bool) (hB : B ≤ w.heap.size)
    (h : tabB n l = true → PredEl B g caps p n.toNat w) (eg : ∀ args w, (callFunc g args).run Try.prog w = .ok (.enter g args) w) :
    Calls Try.prog 56 #[.agg #[.int .i64 n, .slice a l.length cap], .func (.func g) #[] caps] w (RetSl 3 1 (thoseL n l p).length (intVals (thoseL n l p)) w) := by
  have HL := Lib.hid hl
  have HP := Lib.hid h
  clear hl h
  cases ht : tabB n l
  · have F : Hid (∀ w', Below w.heap.size w w' → RetSl 3 1 (thoseL n l p).length (intVals (thoseL n l p)) w (.returned (.slice none 0 0)) w') := fun w' hb => by
      unfold thoseL; rw [ht]; exact retSl_nil _ _ _ hb
    go_enter Try.func56, Try.ntmps56
    go_wp2_with fail
    refine (implTableOk_any n l a cap _ (HL.out.later (((Below.refl _ _).alloc (Nat.le_refl _) _).alloc (by simp) _)) hlen).mono ?_
    rintro e w2 ⟨rfl, hb2⟩
    have hbel : Below w.heap.size w w2 := Below.now (((Below.refl w.heap.size w).alloc (Nat.le_refl _) _).alloc (by simp) _) hb2
    clear hb2
    go_wp2_with fail
    go_ret
    exact F.out _ hbel
  · obtain ⟨m, ln, rfl, hln, hT⟩ := tabOk_out ht
    have hm1 := hT.hi
    have hm0 := hT.lo
    have F : Hid (thoseL (m : Nat) l p = keepZ (fun x => !p x.toNat) (idxList m)) := by
      rw [keepZ_idx]; unfold thoseL; rw [ht]; rfl
    have HPP := Lib.hid (HP.out ht)
    simp only [Int.toNat_natCast] at HPP
    clear hT hln
    go_enter Try.func56, Try.ntmps56
    go_wp2_with fail
    refine (implTableOk_any _ l a cap _ (HL.out.later (((Below.refl _ _).alloc (Nat.le_refl _) _).alloc (by simp) _)) hlen).mono ?_
    rintro e w2 ⟨rfl, hb2⟩
    have hbel : Below w.heap.size w w2 := Below.now (((Below.refl w.heap.size w).alloc (Nat.le_refl _) _).alloc (by simp) _) hb2
    have hc : w2.cell? ⟨w.heap.size + 1, 0, none⟩ = some (.func (.func g) #[] caps) := by rw [hb2.cell (by simp)]; simp
    have hx : w2.cell? ⟨w.heap.size, 0, none⟩ = some (.int .i64 (m : Nat)) := by rw [hb2.cell (by simp; omega)]; simp
    have hz : w.heap.size + 1 < w2.heap.size := by have := hb2.size; simp at this; omega
    clear hb2
    go_wp2_with fail
    refine (indices_any m _ (by omega)).mono ?_
    rintro e w3 ⟨ai, ci, rfl, ho, hb3⟩
    have hbel3 := Below.now hbel hb3
    have hc3 : w3.cell? ⟨w.heap.size + 1, 0, none⟩ = some (.func (.func g) #[] caps) := by rw [hb3.cell hz]; exact hc
    have hz3 : w.heap.size + 1 < w3.heap.size := by have := hb3.size; omega
    have hs3 := hb3.size
    rw [idxVals_eq] at ho
    have HD := deleteFuncInts_any 92 #[.pointer (some ⟨w.heap.size + 1, 0, none⟩)] (fun x => !p x.toNat) (idxList m) ai ci w2.heap.size w3 (by rw [idxList_len]; exact ho) (by rw [idxList_len]; omega) hs3
      (fun j hj W hW => notPred_those B g caps p m w w2 _ HPP.out hB hz hbel hc eg j hj W ((hb3.trans hW).mono (Nat.le_refl _))) (enters_of Try.func92 (by kernel_rfl) rfl)
    rw [idxList_len] at HD
    have HD' := Lib.hid HD
    clear HD ho hc hb3 hc3 hx hbel
    go_wp2_with fail
    refine HD'.out.mono ?_
    rintro e w4 ⟨rfl, ho4, hb4⟩
    have F2 : Hid (RetSl 3 1 (thoseL (m : Nat) l p).length (intVals (thoseL (m : Nat) l p)) w (.returned (.slice ai (keepZ (fun x => !p x.toNat) (idxList m)).length ci)) w4) := by
      rw [F.out]
      exact ⟨_, _, rfl, owns_mono ho4 (by omega), hbel3.trans (hb4.mono (by omega))⟩
    clear ho4 hb4 hbel3
    go_wp2_with fail
    go_ret
    exact F2.out
end Go.Proofs.Ytkkffaiacipibaa
