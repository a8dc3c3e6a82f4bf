/-
  slices.DeleteFunc at strings, over a slice of the call's own.
-/
import Derived.Test.YtnnboeeogbgmdaaFillP
import Derived.Test.YtnnboeeogbgmdaaLetters
import Derived.Lib.SliceRun
namespace Go.Proofs.Ytnnboeeogbgmdaa
open Go.RowKit
set_option linter.unusedVariables false
/-- the numbers that stay -/
def keepS (p : ByteArray → Bool) (l : List ByteArray) : List ByteArray := l.filter fun x => !p x
/-- how many of the first j stay -/
def keepNS (p : ByteArray → Bool) (l : List ByteArray) (j : Nat) : Nat := (keepS p (l.take j)).length
theorem keepS_succ {p : ByteArray → Bool} {l : List ByteArray} {j : Nat} (h : j < l.length) : keepS p (l.take (j + 1)) = keepS p (l.take j) ++ (if p (nthS l j) then [] else [nthS l j]) := by
  unfold keepS
  rw [List.take_succ_eq_append_getElem h, List.filter_append, nthS_lt h]
  cases hp : p l[j] <;> simp [hp]
theorem keepNS_yes {p : ByteArray → Bool} {l : List ByteArray} {j : Nat} (h : j < l.length) (hp : p (nthS l j) = false) : keepNS p l (j + 1) = keepNS p l j + 1 := by
  unfold keepNS; rw [keepS_succ h, hp]; simp
theorem keepNS_no {p : ByteArray → Bool} {l : List ByteArray} {j : Nat} (h : j < l.length) (hp : p (nthS l j) = true) : keepNS p l (j + 1) = keepNS p l j := by
  unfold keepNS; rw [keepS_succ h, hp]; simp
theorem keepNS_le (p : ByteArray → Bool) (l : List ByteArray) (j : Nat) : keepNS p l j ≤ j := by
  unfold keepNS keepS
  exact Nat.le_trans (List.length_filter_le _ _) (List.length_take_le _ _)
/-- a row from which elements are being deleted: the first j have been looked at -/
def DelingS (T : TypeId) (w wr : World) (base g n cap : Nat) (p : ByteArray → Bool) (l : List ByteArray) (j : Nat) : Prop :=
  ∃ xs, wr.ownsRow base T 1 (.slice (some ⟨g, 0, none⟩) n cap) n xs ∧ xs.take (keepNS p l j) = strVals (keepS p (l.take j)) ∧ xs.drop j = strVals (l.drop j) ∧ Below base w wr ∧ n = l.length
theorem DelingS.cell {T : TypeId} {w wr : World} {base g n cap : Nat} {p : ByteArray → Bool} {l : List ByteArray} {j : Nat} (h : DelingS T w wr base g n cap p l j) (hj : j < n) : wr.cell? ⟨g, j, none⟩ = some (.string (nthS l j)) := by
  obtain ⟨xs, ho, ht, hd, hb, rfl⟩ := h
  have h1 := ho.1
  rw [ho.cellAt j (by omega)]
  have : (xs.drop j)[0]? = (strVals (l.drop j))[0]? := by rw [hd]
  rw [List.getElem?_drop] at this
  rw [show j = j + 0 by omega, this]
  simp [strVals, hj, nthS_lt hj]
theorem DelingS.frozen {T : TypeId} {w wr : World} {base g n cap : Nat} {p : ByteArray → Bool} {l : List ByteArray} {j : Nat} (h : DelingS T w wr base g n cap p l j) (i : Nat) : wr.frozen? ⟨g, i, none⟩ = false := by
  obtain ⟨xs, ho, _⟩ := h
  exact ho.frozenAt i
theorem DelingS.there {T : TypeId} {w wr : World} {base g n cap : Nat} {p : ByteArray → Bool} {l : List ByteArray} {j : Nat} (h : DelingS T w wr base g n cap p l j) {i : Nat} (hi : i < n) : ∃ v, wr.cell? ⟨g, i, none⟩ = some v := by
  obtain ⟨xs, ho, _⟩ := h
  have h1 := ho.1
  exact ⟨xs[i]'(by omega), by rw [ho.cellAt i (by omega), List.getElem?_eq_getElem]⟩
theorem DelingS.base {T : TypeId} {w wr : World} {base g n cap : Nat} {p : ByteArray → Bool} {l : List ByteArray} {j : Nat} (h : DelingS T w wr base g n cap p l j) : base ≤ g := by
  obtain ⟨xs, ho, _⟩ := h
  exact (ho.lt g rfl).1
theorem DelingS.later {T : TypeId} {w wr wr' : World} {base g n cap : Nat} {p : ByteArray → Bool} {l : List ByteArray} {j : Nat} (h : DelingS T w wr base g n cap p l j) (hb' : Below wr.heap.size wr wr') (hbase : base ≤ w.heap.size) : DelingS T w wr' base g n cap p l j := by
  obtain ⟨xs, ho, ht, hd, hb, hn⟩ := h
  exact ⟨xs, owns_later ho hb', ht, hd, hb.trans (hb'.mono (Nat.le_trans hbase hb.size)), hn⟩
theorem drop_succ_ofS {α : Type} {xs ys : List α} {j : Nat} (h : xs.drop j = ys.drop j) : xs.drop (j + 1) = ys.drop (j + 1) := by
  rw [← List.drop_drop, ← List.drop_drop, h]
theorem DelingS.skip {T : TypeId} {w wr : World} {base g n cap : Nat} {p : ByteArray → Bool} {l : List ByteArray} {j : Nat} (h : DelingS T w wr base g n cap p l j) (hj : j < n) (hp : p (nthS l j) = true) : DelingS T w wr base g n cap p l (j + 1) := by
  obtain ⟨xs, ho, ht, hd, hb, rfl⟩ := h
  refine ⟨xs, ho, ?_, ?_, hb, rfl⟩
  · rw [keepNS_no hj hp, ht, keepS_succ hj, hp]; simp
  · unfold strVals at *
    rw [List.map_drop] at *
    exact drop_succ_ofS hd
theorem DelingS.keep {T : TypeId} {w wr : World} {base g n cap : Nat} {p : ByteArray → Bool} {l : List ByteArray} {j : Nat} (h : DelingS T w wr base g n cap p l j) (hj : j < n) (hp : p (nthS l j) = false) :
    DelingS T w (wr.setCell ⟨g, keepNS p l j, none⟩ (.string (nthS l j))) base g n cap p l (j + 1) := by
  have hbg := h.base
  obtain ⟨xs, ho, ht, hd, hb, rfl⟩ := h
  have hk := keepNS_le p l j
  have h1 := ho.1
  refine ⟨xs.set (keepNS p l j) (.string (nthS l j)), (ho.stored _ _).1, ?_, ?_, hb.setCell hbg _, rfl⟩
  · rw [keepNS_yes hj hp, List.take_succ_eq_append_getElem (by simpa using by omega), List.take_set_of_le (Nat.le_refl _), ht, keepS_succ hj, hp]
    simp [strVals]
  · rw [List.drop_set_of_lt (by omega)]
    unfold strVals at *
    rw [List.map_drop] at *
    exact drop_succ_ofS hd
/-- what DeleteFunc leaves -/
def DeletedS (T : TypeId) (w : World) (base : Nat) (a : Option Addr) (cap : Nat) (l : List ByteArray) (e : Ending) (w' : World) : Prop :=
  e = .returned (.slice a l.length cap) ∧ w'.ownsRow base T 1 (.slice a l.length cap) l.length (strVals l) ∧ Below base w w'
theorem owns_cutS {w : World} {base : Nat} {T : TypeId} {g n m cap : Nat} {xs : List Value} (h : w.ownsRow base T 1 (.slice (some ⟨g, 0, none⟩) n cap) n xs) (hm : m ≤ n) : w.ownsRow base T 1 (.slice (some ⟨g, 0, none⟩) m cap) m (xs.take m) := by
  obtain ⟨h1, h2⟩ := h
  rcases h2 with ⟨hv, _⟩ | ⟨g', cap', cur, hv, hb, hg, hn, hc, hs, ht⟩
  · cases hv
  · simp only [Value.slice.injEq, Option.some.injEq, Addr.mk.injEq, and_true, true_and] at hv
    obtain ⟨rfl, rfl⟩ := hv
    refine ⟨by simp; omega, .inr ⟨g, cap, cur, rfl, hb, hg, by omega, hc, hs, ?_⟩⟩
    rw [← ht, List.take_take]
    congr 1
    omega
theorem setCells_ownsS {base : Nat} {T : TypeId} {g n cap : Nat} : ∀ (zs : List Value) (o : Nat) (w : World) (xs : List Value), w.ownsRow base T 1 (.slice (some ⟨g, 0, none⟩) n cap) n xs →
    ∃ ys, (w.setCells g o zs).ownsRow base T 1 (.slice (some ⟨g, 0, none⟩) n cap) n ys ∧ ys.take o = xs.take o ∧ w.grownBy (w.setCells g o zs) (some g)
  | [], o, w, xs, h => ⟨xs, h, rfl, ⟨rfl, rfl, rfl, Nat.le_refl _, fun _ _ _ => rfl⟩⟩
  | z :: zs, o, w, xs, h => by
    have hs := h.stored o z
    obtain ⟨ys, h1, h2, h3⟩ := setCells_ownsS zs (o + 1) _ _ hs.1
    have hg := hs.2
    refine ⟨ys, h1, ?_, ⟨h3.os.trans hg.os, h3.tape.trans hg.tape, h3.output.trans hg.output, Nat.le_trans hg.size h3.size, fun k hk hne => (h3.block k (Nat.lt_of_lt_of_le hk hg.size) hne).trans (hg.block k hk hne)⟩⟩
    have h4 := congrArg (List.take o) h2
    rw [List.take_take, List.take_take, Nat.min_eq_left (by omega), List.take_set_of_le (Nat.le_refl _)] at h4
    exact h4
theorem DelingS.done {T : TypeId} {w wr : World} {base g n cap : Nat} {p : ByteArray → Bool} {l : List ByteArray} {j : Nat} (h : DelingS T w wr base g n cap p l j) (hj : ¬ j < n) (zs : List Value) (hbase : base ≤ w.heap.size) :
    DeletedS T w base (some ⟨g, 0, none⟩) cap (keepS p l) (.returned (.slice (some ⟨g, 0, none⟩) (keepNS p l j) cap)) (wr.setCells g (keepNS p l j) zs) := by
  have hbg := h.base
  obtain ⟨xs, ho, ht, hd, hb, rfl⟩ := h
  have hk : keepS p (l.take j) = keepS p l := by rw [List.take_of_length_le (by omega)]
  have hkn : keepNS p l j = (keepS p l).length := by unfold keepNS; rw [hk]
  obtain ⟨ys, h1, h2, h3⟩ := setCells_ownsS zs (keepNS p l j) wr xs ho
  have h4 := owns_cutS h1 (m := keepNS p l j) (by rw [hkn]; unfold keepS; exact List.length_filter_le _ _)
  rw [h2, ht, hk] at h4
  unfold DeletedS
  rw [← hkn]
  refine ⟨rfl, h4, hb.trans ⟨h3.os, h3.tape, h3.output, h3.size, fun k hk => h3.block k (by have := hb.size; omega) (by intro e; cases e; omega)⟩⟩
theorem DelingS.start {T : TypeId} {w wr : World} {base g cap : Nat} {p : ByteArray → Bool} {l : List ByteArray} {i : Nat} (ho : wr.ownsRow base T 1 (.slice (some ⟨g, 0, none⟩) l.length cap) l.length (strVals l)) (hb : Below base w wr)
    (hi : i < l.length) (hn : noneToS p l i) (hp : p (nthS l i) = true) : keepNS p l (i + 1) = i ∧ DelingS T w wr base g l.length cap p l (i + 1) := by
  have hk : ∀ j, j ≤ i → keepS p (l.take j) = l.take j := by
    intro j
    induction j with
    | zero => intro _; simp [keepS]
    | succ j ih =>
      intro hj
      rw [keepS_succ (by omega), ih (by omega), hn j (by omega), List.take_succ_eq_append_getElem (by omega), nthS_lt (by omega)]
      simp
  have h1 : keepNS p l i = i := by unfold keepNS; rw [hk i (Nat.le_refl _)]; simp; omega
  refine ⟨by rw [keepNS_no hi hp, h1], ?_⟩
  have h2 : DelingS T w wr base g l.length cap p l i := ⟨strVals l, ho, by rw [h1, hk i (Nat.le_refl _)]; simp [strVals], by simp [strVals], hb, rfl⟩
  exact h2.skip hi hp
theorem idxS_cases (p : ByteArray → Bool) (l : List ByteArray) : (idxS p l = -1 ∧ keepS p l = l) ∨ ∃ i : Nat, idxS p l = (i : Nat) ∧ i < l.length ∧ noneToS p l i ∧ p (nthS l i) = true := by
  unfold idxS
  cases h : l.findIdx? p
  · left
    rw [List.findIdx?_eq_none_iff] at h
    exact ⟨rfl, by unfold keepS; rw [List.filter_eq_self]; intro x hx; simp [h x hx]⟩
  · right
    rename_i i
    rw [List.findIdx?_eq_some_iff_getElem] at h
    obtain ⟨hi, hp, hn⟩ := h
    refine ⟨i, rfl, hi, fun j hj => ?_, by rw [nthS_lt hi]; exact hp⟩
    have := hn j hj
    rw [nthS_lt (by omega)]
    simpa using this
theorem Try.zeroStr (w : World) : (zeroValue 9).run Try.prog w = .ok (.string ⟨#[]⟩) w := by kernel_rfl
set_option maxHeartbeats 800000 in
theorem deleteFuncStrs_any (g : Nat) (caps : Array Value) (p : ByteArray → Bool) (l : List ByteArray) (a : Option Addr) (cap base : Nat) (w : World) (ho : w.ownsRow base 9 1 (.slice a l.length cap) l.length (strVals l)) (hlen : l.length ≤ 1000000) (hbase : base ≤ w.heap.size)
    (hf : PredStrs base g caps p l w) (eg : ∀ args w, (callFunc g args).run Try.prog w = .ok (.enter g args) w) :
    Calls Try.prog 58 #[.slice a l.length cap, .func (.func g) #[] caps] w (DeletedS 9 w base a cap (keepS p l)) := by
  have HI := Lib.hid (indexFuncStrs_any g caps p l a cap w (owns_strsIn (l := l) ho) (by omega) base hbase hf eg)
  rcases idxS_cases p l with ⟨h1, h2⟩ | ⟨i, h1, hi, hn, hp⟩
  · have F : Hid (∀ w', Below w.heap.size w w' → DeletedS 9 w base a cap (keepS p l) (.returned (.slice a l.length cap)) w') := fun w' hb => by
      unfold DeletedS; rw [h2]; exact ⟨rfl, owns_later ho hb, hb.mono hbase⟩
    have H1 := Lib.hid h1
    clear hf eg ho h2 h1
    go_enter Try.func58, Try.ntmps58
    go_wp2_with fail
    refine HI.out.mono ?_
    rintro e w2 ⟨rfl, hb2⟩
    rw [H1.out]
    go_wp2_with fail
    go_ret
    exact F.out _ hb2
  · rcases ho.2 with ⟨hv, h0⟩ | ⟨gr, cap', cur, hv, hbg, hg, hnc, hcm, hs, ht⟩
    · omega
    simp only [Value.slice.injEq] at hv
    obtain ⟨rfl, _, rfl⟩ := hv
    have H1 := Lib.hid h1
    have HO := Lib.hid ho
    have HF := Lib.hid hf
    have HP := Lib.hid hp
    have HN := Lib.hid hn
    unfold maxLen at hcm
    clear hf ho h1 hg ht hs hp hn
    go_enter Try.func58, Try.ntmps58
    go_wp2_with fail
    refine HI.out.mono ?_
    rintro e w2 ⟨rfl, hb2⟩
    rw [H1.out]
    obtain ⟨hk, hd⟩ := DelingS.start (p := p) (owns_later HO.out hb2) (hb2.mono hbase) hi HN.out HP.out
    have HD := Lib.hid hd
    have HK := Lib.hid hk
    clear hd hk
    have hi1 : (((i : Nat) : Int) == -1) = false := by rw [beq_eq_false_iff_ne]; omega
    go_wp2_with fail
    go_loopw [5, 6] (fun x y wr => ∃ j : Nat, j ≤ l.length ∧ y = .int .i64 j ∧ x = .int .i64 (keepNS p l j : Nat) ∧ keepNS p l j < j ∧ DelingS 9 w wr base gr l.length cap p l j) (fun _ y _ => l.length - (intOf y).toNat)
    case atStart => exact ⟨i + 1, by omega, by go_num, by rw [HK.out], by rw [HK.out]; omega, HD.out⟩
    case round =>
      clear HD HK
      obtain ⟨j, hj, rfl, rfl, hkj, hd⟩ := hrel
      have HD := Lib.hid hd
      have hkl := keepNS_le p l j
      by_cases hlt : j < l.length
      · have c1 := hd.cell hlt
        have hbw : Below base w wr := by obtain ⟨_, _, _, _, hb, _⟩ := hd; exact hb
        clear hd
        cases hpj : p (nthS l j)
        · go_wp2_with fail
          refine (HF.out j hlt _ hbw).mono ?_
          rintro e w3 ⟨rfl, hb3⟩
          have hd3 := HD.out.later hb3 hbase
          obtain ⟨v, c2⟩ := hd3.there (i := keepNS p l j) (by omega)
          have c3 := hd3.frozen (keepNS p l j)
          have HD3 := Lib.hid (hd3.keep hlt hpj)
          have HK := Lib.hid (keepNS_yes hlt hpj)
          clear hd3 hb3 c1 hbw
          go_wp2_with fail
          go_roundw
          case rel => exact ⟨j + 1, by omega, by go_num, by rw [HK.out]; go_num, by rw [HK.out]; omega, HD3.out⟩
          case measure => simp [intOf]; omega
        · go_wp2_with fail
          refine (HF.out j hlt _ hbw).mono ?_
          rintro e w3 ⟨rfl, hb3⟩
          have HD3 := Lib.hid ((HD.out.later hb3 hbase).skip hlt hpj)
          have HK := Lib.hid (keepNS_no hlt hpj)
          clear hb3 c1 hbw
          go_wp2_with fail
          go_roundw
          case rel => exact ⟨j + 1, by omega, by go_num, by rw [HK.out], by rw [HK.out]; omega, HD3.out⟩
          case measure => simp [intOf]; omega
      · have hcl := fun ty => Lib.run_clear_slice (P := Try.prog) wr 33 9 ty (.string ⟨#[]⟩) Try.underlying33 Try.zeroStr rfl rfl gr (keepNS p l j) (l.length - keepNS p l j) (cap - keepNS p l j) (by omega) (fun t ht => by obtain ⟨v, hv⟩ := hd.there (i := keepNS p l j + t) (by omega); rw [hv]; rfl) (fun t ht => hd.frozen _)
        have HF2 := Lib.hid (hd.done hlt (List.replicate (l.length - keepNS p l j) (.string ⟨#[]⟩)) hbase)
        have hne : ¬ cap = keepNS p l j := by omega
        clear hd
        go_wp2_with fail
        go_ret
        exact HF2.out
end Go.Proofs.Ytnnboeeogbgmdaa
