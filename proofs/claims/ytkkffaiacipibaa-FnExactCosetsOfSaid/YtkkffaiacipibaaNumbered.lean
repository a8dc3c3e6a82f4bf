/-
  The numbers of classes.
-/
import Derived.Test.YtkkffaiacipibaaThose
import Derived.Test.YtkkffaiacipibaaAppM
import Derived.Test.YtkkffaiacipibaaGrpSub
namespace Go.Proofs.Ytkkffaiacipibaa
open Go.RowKit
set_option linter.unusedVariables false
/-- a function value that answers p for two elements below m, in every world that is as w below B -/
def PredEl2 (B : Nat) (g : Nat) (caps : Array Value) (p : Nat → Nat → Bool) (m : Nat) (w : World) : Prop :=
  ∀ i k, i < m → k < m → ∀ W, Below B w W → Calls Try.prog g (#[.int .i64 (i : Nat), .int .i64 (k : Nat)] ++ caps) W fun e W' => e = .returned (.bool (p i k)) ∧ Below W.heap.size W W'
/-- the elements below c that began a class -/
def numF (p : Nat → Nat → Bool) : Nat → List Nat
  | 0 => []
  | c + 1 => if (numF p c).any (p c) then numF p c else numF p c ++ [c]
/-- the place of the first class, or -1 -/
def numI (p : Nat → Nat → Bool) (F : List Nat) (j : Nat) : Int := match F.findIdx? (p j) with | some i => (i : Nat) | none => -1
/-- the number that is given -/
def numV (p : Nat → Nat → Bool) (F : List Nat) (j : Nat) : Int := if numI p F j < 0 then ((F.length : Nat) : Int) else numI p F j
def numO (p : Nat → Nat → Bool) (c : Nat) : List Int := (List.range c).map fun j => numV p (numF p j) j
theorem numO_zero (p : Nat → Nat → Bool) : numO p 0 = [] := rfl
theorem numO_succ (p : Nat → Nat → Bool) (c : Nat) : numO p (c + 1) = numO p c ++ [numV p (numF p c) c] := by simp [numO, List.range_succ]
theorem numO_len (p : Nat → Nat → Bool) (c : Nat) : (numO p c).length = c := by simp [numO]
theorem numF_lt (p : Nat → Nat → Bool) : ∀ c, ∀ f ∈ numF p c, f < c
  | 0, f, hf => by simp [numF] at hf
  | c + 1, f, hf => by
    unfold numF at hf
    split at hf
    · have := numF_lt p c f hf; omega
    · rcases List.mem_append.1 hf with hf | hf
      · have := numF_lt p c f hf; omega
      · rw [List.mem_singleton.1 hf]; omega
theorem numF_len (p : Nat → Nat → Bool) : ∀ c, (numF p c).length ≤ c
  | 0 => by simp [numF]
  | c + 1 => by
    have := numF_len p c
    unfold numF
    split
    · omega
    · rw [List.length_append]; simp; omega
theorem numI_neg (p : Nat → Nat → Bool) (F : List Nat) (j : Nat) : (numI p F j < 0) ↔ F.any (p j) = false := by
  unfold numI
  cases h : F.findIdx? (p j)
  · rw [List.findIdx?_eq_none_iff] at h
    have : F.any (p j) = false := by rw [List.any_eq_false]; intro x hx; simp [h x hx]
    simp [this]
  · rename_i i
    rw [List.findIdx?_eq_some_iff_getElem] at h
    obtain ⟨hi, hp, _⟩ := h
    have : F.any (p j) = true := by rw [List.any_eq_true]; exact ⟨F[i], List.getElem_mem hi, hp⟩
    simp [this]
theorem numF_succ (p : Nat → Nat → Bool) (c : Nat) : numF p (c + 1) = if (numF p c).any (p c) then numF p c else numF p c ++ [c] := rfl
theorem numF_yes {p : Nat → Nat → Bool} {c : Nat} (h : ¬ numI p (numF p c) c < 0) : numF p (c + 1) = numF p c := by
  rw [numI_neg] at h
  have h2 : (numF p c).any (p c) = true := by cases hh : (numF p c).any (p c) <;> simp_all
  rw [numF_succ, if_pos h2]
theorem numF_no {p : Nat → Nat → Bool} {c : Nat} (h : numI p (numF p c) c < 0) : numF p (c + 1) = numF p c ++ [c] := by
  rw [numI_neg] at h
  rw [numF_succ, if_neg (by simp [h])]
theorem numV_yes {p : Nat → Nat → Bool} {F : List Nat} {j : Nat} (h : ¬ numI p F j < 0) : numV p F j = numI p F j := by unfold numV; rw [if_neg h]
theorem numV_no {p : Nat → Nat → Bool} {F : List Nat} {j : Nat} (h : numI p F j < 0) : numV p F j = ((F.length : Nat) : Int) := by unfold numV; rw [if_pos h]
theorem idxZ_num (p : Nat → Nat → Bool) (F : List Nat) (c : Nat) : idxZ (fun x => p c x.toNat) (F.map Int.ofNat) = numI p F c := by
  unfold idxZ numI
  rw [List.findIdx?_map]
  rfl
/-- the closure that is handed to IndexFunc -/
theorem sameK (B g : Nat) (caps : Array Value) (p : Nat → Nat → Bool) (m c : Nat) (w w1 : World) (bf bi : Nat) (h : PredEl2 B g caps p m w) (hB : B ≤ w.heap.size) (hw : Below w.heap.size w w1) (hc : c < m) (F : List Nat) (hF : ∀ f ∈ F, f < m)
    (h1 : w1.cell? ⟨bf, 0, none⟩ = some (.func (.func g) #[] caps)) (h2 : w1.cell? ⟨bi, 0, none⟩ = some (.int .i64 (c : Nat))) (eg : ∀ args w, (callFunc g args).run Try.prog w = .ok (.enter g args) w) :
    PredInts w1.heap.size 107 #[.pointer (some ⟨bf, 0, none⟩), .pointer (some ⟨bi, 0, none⟩)] (fun x => p c x.toNat) (F.map Int.ofNat) w1 := by
  intro j hj W hW
  have hj' : j < F.length := by simpa using hj
  have hn : nthZ (F.map Int.ofNat) j = ((F[j] : Nat) : Int) := by rw [nthZ_lt hj]; simp
  rw [hn]
  have hfm : F[j] < m := hF _ (List.getElem_mem hj')
  have g1 : W.cell? ⟨bf, 0, none⟩ = some (.func (.func g) #[] caps) := by rw [hW.cell (World.block_lt_of_cell? w1 _ h1)]; exact h1
  have g2 : W.cell? ⟨bi, 0, none⟩ = some (.int .i64 (c : Nat)) := by rw [hW.cell (World.block_lt_of_cell? w1 _ h2)]; exact h2
  have HC := Lib.hid (h c F[j] hc hfm W ((hw.mono hB).trans (hW.mono (Nat.le_trans hB hw.size))))
  generalize F[j] = f at *
  clear h1 h2 hW hw h hn
  go_enter Try.func107, Try.ntmps107
  go_wp2_with fail
  refine HC.out.mono ?_
  rintro e w2 ⟨rfl, hb2⟩
  go_wp2_with fail
  go_ret
  exact ⟨by simp, hb2⟩
theorem below_of_grownN {w wr wr' : World} {own : Option Nat} (h : Below w.heap.size w wr) (hg : wr.grownBy wr' own) (ho : ∀ k, own = some k → w.heap.size ≤ k) : Below w.heap.size w wr' := h.grown hg h.size ho
/-- two lists that are being built, apart from each other -/
def Two (w wr : World) (v : Value) (xs : List Int) (u : Value) (F : List Nat) : Prop :=
  Bld 3 1 w wr v xs.length (intVals xs) ∧ Bld 3 1 w wr u F.length (ivs F) ∧ ∀ k, v.ownBlock = some k → u.ownBlock ≠ some k
theorem Two.later {w wr wr' : World} {v u : Value} {xs : List Int} {F : List Nat} (h : Two w wr v xs u F) (hb : Below wr.heap.size wr wr') : Two w wr' v xs u F := ⟨h.1.later hb, h.2.1.later hb, h.2.2⟩
theorem kept_of {T : TypeId} {w wr wr' : World} {v : Value} {n : Nat} {xs : List Value} {own : Option Nat} (h : Bld T 1 w wr v n xs) (hg : wr.grownBy wr' own) (hne : ∀ k, v.ownBlock = some k → own ≠ some k) (ho : ∀ k, own = some k → w.heap.size ≤ k) : Bld T 1 w wr' v n xs := by
  refine ⟨h.1.kept hg ?_, below_of_grownN h.2 hg ho⟩
  cases hv : v.ownBlock with
  | none => exact .inl rfl
  | some k => exact .inr fun e => hne k hv (e.symm ▸ rfl)
theorem Two.putV {w wr w' : World} {v v' u : Value} {xs : List Int} {F : List Nat} {y : Int} (h : Two w wr v xs u F) (hb : Bld 3 1 w w' v' (xs.length + 1) (intVals xs ++ [.int .i64 y])) (hg : (wr.alloc (.cells #[.int .i64 y] 3)).grownBy w' v.ownBlock)
    (ho : v'.ownBlock = v.ownBlock ∨ v'.ownBlock = some (wr.alloc (.cells #[.int .i64 y] 3)).heap.size) : Two w w' v' (xs ++ [y]) u F := by
  have hal : Below wr.heap.size wr (wr.alloc (.cells #[.int .i64 y] 3)) := (Below.refl _ _).alloc (Nat.le_refl _) _
  refine ⟨?_, kept_of (h.2.1.later hal) hg (fun k hk e => h.2.2 k e hk) (fun k hk => (h.1.1.lt k hk).1), fun k hk e => ?_⟩
  · rw [List.length_append]; unfold intVals at *; rw [List.map_append]; exact hb
  · rcases ho with h1 | h1
    · exact h.2.2 k (h1 ▸ hk) e
    · rw [h1] at hk
      have h2 := Option.some.inj hk
      have h3 := (h.2.1.1.lt k e).2
      simp at h2; omega
theorem Two.putU {w wr w' : World} {v u u' : Value} {xs : List Int} {F : List Nat} {y : Nat} (h : Two w wr v xs u F) (hb : Bld 3 1 w w' u' (F.length + 1) (ivs F ++ [.int .i64 (y : Nat)])) (hg : (wr.alloc (.cells #[.int .i64 (y : Nat)] 3)).grownBy w' u.ownBlock)
    (ho : u'.ownBlock = u.ownBlock ∨ u'.ownBlock = some (wr.alloc (.cells #[.int .i64 (y : Nat)] 3)).heap.size) : Two w w' v xs u' (F ++ [y]) := by
  have hal : Below wr.heap.size wr (wr.alloc (.cells #[.int .i64 (y : Nat)] 3)) := (Below.refl _ _).alloc (Nat.le_refl _) _
  refine ⟨kept_of (h.1.later hal) hg (fun k hk e => h.2.2 k hk e) (fun k hk => (h.2.1.1.lt k hk).1), ?_, fun k hk e => ?_⟩
  · rw [List.length_append, ivs_app]; exact hb
  · rcases ho with h1 | h1
    · exact h.2.2 k hk (h1 ▸ e)
    · rw [h1] at e
      have h2 := Option.some.inj e
      have h3 := (h.1.1.lt k hk).2
      simp at h2; omega
set_option maxRecDepth 100000 in
set_option maxHeartbeats 2000000 in
theorem numbered_any (B g : Nat) (caps : Array Value) (p : Nat → Nat → Bool) (m : Nat) (w : World) (hm : m ≤ 1000) (h : PredEl2 B g caps p m w) (hB : B ≤ w.heap.size) (eg : ∀ args w, (callFunc g args).run Try.prog w = .ok (.enter g args) w) :
    Calls Try.prog 88 #[.int .i64 m, .func (.func g) #[] caps] w (RetSl 3 1 (numO p m).length (intVals (numO p m)) w) := by
  have HP := Lib.hid h
  have EG := Lib.hid eg
  clear h eg
  go_enter Try.func88, Try.ntmps88
  go_wp2_with fail
  obtain ⟨w1, hw1⟩ : ∃ w1, w1 = w.alloc (.cells #[.func (.func g) #[] caps] 63) := ⟨_, rfl⟩
  have hb1 : Below w.heap.size w w1 := by rw [hw1]; exact (Below.refl _ _).alloc (Nat.le_refl _) _
  have hx0 : ∀ W, Below w1.heap.size w1 W → W.cell? ⟨w.heap.size, 0, none⟩ = some (.func (.func g) #[] caps) := fun W hW => by rw [hW.cell (by rw [hw1]; simp), hw1]; simp
  rw [← hw1]
  have HB := Lib.hid hb1
  have HS : Hid (Two w1 w1 (.slice none 0 0) [] (.slice none 0 0) []) := ⟨Bld.nil _ _ (Below.refl _ _), Bld.nil _ _ (Below.refl _ _), fun k hk => by simp [Value.ownBlock] at hk⟩
  have X0 := Lib.hid hx0
  clear hw1 hb1 hx0
  go_loopw [5, 6, 10] (fun v u i wr => ∃ c : Nat, c ≤ m ∧ i = .int .i64 c ∧ Two w1 wr v (numO p c) u (numF p c)) (fun _ _ i _ => m - (intOf i).toNat)
  case atStart => exact ⟨0, Nat.zero_le _, rfl, HS.out⟩
  case round =>
    clear HS
    obtain ⟨c, hcm, rfl, ht⟩ := hrel
    have HT := Lib.hid ht
    clear ht
    by_cases hlt : c < m
    · have hfl := numF_len p c
      have hol := numO_len p c
      have HOL := Lib.hid hol
      obtain ⟨ua, uc, rfl⟩ := owns_form HT.out.2.1.1
      have HT2 := Lib.hid (HT.out.later ((Below.refl _ _).alloc (Nat.le_refl _) (.cells #[.int .i64 (c : Nat)] 3)))
      have hbw := HT.out.1.2
      clear hol
      have hp := sameK B g caps p m c w (wr.alloc (.cells #[.int .i64 (c : Nat)] 3)) w.heap.size wr.heap.size HP.out hB (Below.now HB.out HT2.out.1.2) hlt (numF p c) (fun f hf => Nat.lt_trans (numF_lt p c f hf) hlt) (X0.out _ HT2.out.1.2) (by simp) EG.out
      have hC := indexFuncInts_any 107 #[.pointer (some ⟨w.heap.size, 0, none⟩), .pointer (some ⟨wr.heap.size, 0, none⟩)] (fun x => p c x.toNat) ((numF p c).map Int.ofNat) ua uc (wr.alloc (.cells #[.int .i64 (c : Nat)] 3)) (owns_ints (l := (numF p c).map Int.ofNat) HT2.out.2.1.1) (by rw [List.length_map]; omega) _ (Nat.le_refl _) hp (enters_of Try.func107 (by kernel_rfl) rfl)
      rw [idxZ_num, List.length_map] at hC
      have HC := Lib.hid hC
      have HR := Lib.hid (numO_succ p c)
      have HY := Lib.hid (@numF_yes p c)
      have HN := Lib.hid (@numF_no p c)
      have HVY := Lib.hid (@numV_yes p (numF p c) c)
      have HVN := Lib.hid (@numV_no p (numF p c) c)
      clear hC hp hbw
      generalize numI p (numF p c) c = q at *
      generalize numF p c = F at *
      go_wp2_with fail
      refine HC.out.mono ?_
      rintro e w3 ⟨rfl, hb3⟩
      have HT3 := Lib.hid (HT2.out.later hb3)
      have hci : w3.cell? ⟨wr.heap.size, 0, none⟩ = some (.int .i64 (c : Nat)) := by rw [hb3.cell (by simp)]; simp
      clear hb3 HC HT2 HT
      by_cases hq : q < 0
      · have HF1 := Lib.hid (HN.out hq)
        have HV1 := Lib.hid (HVN.out hq)
        have HO3 := Lib.hid HT3.out.2.1
        have HSR := Lib.hid (Src.lit (w := w3) (T := 3) (c := 1) (m := 1) [.int .i64 (c : Nat)])
        have HO4 := Lib.hid (HO3.out.later ((Below.refl _ _).alloc (Nat.le_refl _) (.cells #[.int .i64 (c : Nat)] 3)))
        go_wp2_with (at_builtin; refine wpList_appM rfl (.tmp 20) (.tmp 22) rfl Try.underlying22 Try.infoInt rfl (by decide) rfl HO4.out rfl HSR.out (by rfl) ?a1 ?a2 ?a3 ?a4)
        case a1 => simp [Value.oneCell']
        case a2 => unfold maxLen; omega
        case a3 => omega
        intro v4 w4 hb4 hg4 ho4
        have HT4 := Lib.hid (HT3.out.putU hb4 hg4 (by simpa using ho4))
        clear hb4 hg4 ho4 HT3 HO3 HO4 HSR hci
        have HSR := Lib.hid (Src.lit (w := w4) (T := 3) (c := 1) (m := 1) [.int .i64 ((F.length : Nat) : Int)])
        have HO5 := Lib.hid (HT4.out.1.later ((Below.refl _ _).alloc (Nat.le_refl _) (.cells #[.int .i64 ((F.length : Nat) : Int)] 3)))
        go_wp2_with (at_builtin; refine wpList_appM rfl (.tmp 24) (.tmp 26) rfl Try.underlying22 Try.infoInt rfl (by decide) rfl HO5.out rfl HSR.out (by rfl) ?b1 ?b2 ?b3 ?b4)
        case b1 => simp [Value.oneCell']
        case b2 => rw [HOL.out]; unfold maxLen; omega
        case b3 => rw [HOL.out]; omega
        intro v5 w5 hb5 hg5 ho5
        have HT5 : Hid (Two w1 w5 v5 (numO p (c + 1)) v4 (numF p (c + 1))) := Lib.hid (by
          rw [HR.out, HV1.out, HF1.out]
          exact HT4.out.putV hb5 hg5 (by simpa using ho5))
        clear hb5 hg5 ho5
        go_wp2_with fail
        go_roundw
        case rel => exact ⟨c + 1, by omega, by go_num, HT5.out⟩
        case measure => simp [intOf]; omega
      · have HF1 := Lib.hid (HY.out (by omega))
        have HV1 := Lib.hid (HVY.out (by omega))
        have HSR := Lib.hid (Src.lit (w := w3) (T := 3) (c := 1) (m := 1) [.int .i64 q])
        have HO5 := Lib.hid (HT3.out.1.later ((Below.refl _ _).alloc (Nat.le_refl _) (.cells #[.int .i64 q] 3)))
        go_wp2_with (at_builtin; refine wpList_appM rfl (.tmp 24) (.tmp 26) rfl Try.underlying22 Try.infoInt rfl (by decide) rfl HO5.out rfl HSR.out (by rfl) ?d1 ?d2 ?d3 ?d4)
        case d1 => simp [Value.oneCell']
        case d2 => rw [HOL.out]; unfold maxLen; omega
        case d3 => rw [HOL.out]; omega
        intro v5 w5 hb5 hg5 ho5
        have HT5 : Hid (Two w1 w5 v5 (numO p (c + 1)) (.slice ua F.length uc) (numF p (c + 1))) := Lib.hid (by
          rw [HR.out, HV1.out, HF1.out]
          exact HT3.out.putV hb5 hg5 (by simpa using ho5))
        clear hb5 hg5 ho5
        go_wp2_with fail
        go_roundw
        case rel => exact ⟨c + 1, by omega, by go_num, HT5.out⟩
        case measure => simp [intOf]; omega
    · obtain rfl : c = m := by omega
      have F2 : Hid (∀ v u wr, Two w1 wr v (numO p c) u (numF p c) → RetSl 3 1 (numO p c).length (intVals (numO p c)) w (.returned v) wr) := fun v u wr h => (h.1.since HB.out).ret
      have F3 := Lib.hid (F2.out _ _ _ HT.out)
      obtain ⟨va, vc, rfl⟩ := owns_form HT.out.1.1
      go_wp2_with fail
      go_ret
      exact F3.out
end Go.Proofs.Ytkkffaiacipibaa
