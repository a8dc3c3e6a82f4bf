/-
  newReader, with its map of dead ends.
-/
import Derived.Test.YtdhaebbfiaddnaaGrp17
import Derived.Sort.Walk0
import Derived.Test.YtdhaebbfiaddnaaGrp20
import Derived.Test.YtdhaebbfiaddnaaGrp05
import Derived.DeepKeys4
namespace Go.Proofs.Ytdhaebbfiaddnaa
open Go.RowKit
set_option linter.unusedVariables false
/-- one letter more -/
def stepW (R : List RulD) (k : Nat) (w : ByteArray) : List ByteArray := (List.range k).flatMap fun x => if okX R w x = true then [w ++ letterN x] else []
/-- all reduced words from w by m letters -/
def wordsF (R : List RulD) (k : Nat) : Nat → ByteArray → List ByteArray
  | 0, w => [w]
  | m + 1, w => (List.range k).flatMap fun x => if okX R w x = true then wordsF R k m (w ++ letterN x) else []
theorem flat_if {α β : Type} (l : List Nat) (p : Nat → Bool) (f : Nat → List α) (g : α → List β) : (l.flatMap fun x => if p x = true then f x else []).flatMap g = l.flatMap fun x => if p x = true then (f x).flatMap g else [] := by
  rw [List.flatMap_assoc]
  congr 1
  funext x
  split <;> rfl
theorem wordsF_step (R : List RulD) (k : Nat) : ∀ (m : Nat) (w : ByteArray), wordsF R k (m + 1) w = (wordsF R k m w).flatMap (stepW R k)
  | 0, w => by
    show _ = ([w] : List ByteArray).flatMap (stepW R k)
    rw [List.flatMap_singleton]
    rfl
  | m + 1, w => by
    have e : wordsF R k (m + 1) w = (List.range k).flatMap fun x => if okX R w x = true then wordsF R k m (w ++ letterN x) else [] := rfl
    rw [e, flat_if]
    show (List.range k).flatMap _ = _
    congr 1
    funext x
    split
    · exact wordsF_step R k m (w ++ letterN x)
    · rfl
theorem len_flat (l : List Nat) (p : Nat → Bool) (f : Nat → List ByteArray) : (l.flatMap fun x => if p x = true then f x else []).length = (l.map fun x => if p x = true then (f x).length else 0).sum := by
  rw [List.length_flatMap]
  congr 1
  apply List.map_congr_left
  intro x _
  split <;> rfl
theorem wordsF_len {R : List RulD} (hne : LeftsP R) (k : Nat) : ∀ (m : Nat) (w : ByteArray), (wordsF R k m w).length = paths R k m w
  | 0, w => rfl
  | m + 1, w => by
    show ((List.range k).flatMap _).length = _
    rw [len_flat, paths_succ]
    unfold pTo
    congr 1
    apply List.map_congr_left
    intro x _
    rw [wordsF_len hne k m (w ++ letterN x), paths_nxt hne]
theorem wordsF_size (R : List RulD) (k : Nat) : ∀ (m : Nat) (w : ByteArray), ∀ u ∈ wordsF R k m w, u.size = w.size + m
  | 0, w, u, hu => by rw [List.mem_singleton.1 hu]; rfl
  | m + 1, w, u, hu => by
    obtain ⟨x, _, h2⟩ := List.mem_flatMap.1 hu
    split at h2
    · have h3 := wordsF_size R k m _ u h2
      rw [ByteArray.size_append, letterN_size] at h3
      omega
    · cases h2
theorem wordsF_pre (R : List RulD) (k : Nat) : ∀ (m : Nat) (w : ByteArray), ∀ u ∈ wordsF R k m w, ∃ t, u.data.toList = w.data.toList ++ t
  | 0, w, u, hu => ⟨[], by rw [List.mem_singleton.1 hu]; simp⟩
  | m + 1, w, u, hu => by
    obtain ⟨x, _, h2⟩ := List.mem_flatMap.1 hu
    split at h2
    · obtain ⟨t, ht⟩ := wordsF_pre R k m _ u h2
      rw [app_lt] at ht
      exact ⟨lt97 x :: t, by rw [ht]; simp⟩
    · cases h2
/-- Go's order of strings -/
def ltB (a b : ByteArray) : Bool := Op.bytesLess a.data.toList b.data.toList
theorem less_app (p s t : Wd) : Op.bytesLess (p ++ s) (p ++ t) = Op.bytesLess s t := by
  induction p with
  | nil => rfl
  | cons a p ih =>
    have h1 : ¬ a < a := UInt8.lt_irrefl a
    simp only [List.cons_append, Op.bytesLess, ih, beq_self_eq_true, Bool.true_and, decide_eq_false h1, Bool.false_or]
theorem less_head {a b : UInt8} (h : a < b) (s t : Wd) : Op.bytesLess (a :: s) (b :: t) = true := by
  simp [Op.bytesLess, h]
theorem less_head_no {a b : UInt8} (h : b < a) (s t : Wd) : Op.bytesLess (a :: s) (b :: t) = false := by
  have h1 : ¬ a < b := fun h2 => UInt8.lt_asymm h h2
  have h2 : (a == b) = false := by
    rw [beq_eq_false_iff_ne]
    intro e
    subst e
    exact UInt8.lt_irrefl _ h
  simp [Op.bytesLess, h1, h2]
/-- two words of one length: their rest does not tell -/
theorem less_pre : ∀ {p q : Wd}, p.length = q.length → ∀ (s t : Wd), (Op.bytesLess p q = true → Op.bytesLess (p ++ s) (q ++ t) = true ∧ Op.bytesLess (q ++ t) (p ++ s) = false)
  | [], [], _, s, t, h => by cases h
  | [], _ :: _, h, _, _, _ => by simp at h
  | _ :: _, [], h, _, _, _ => by simp at h
  | a :: p, b :: q, h, s, t, hl => by
    unfold Op.bytesLess at hl
    simp only [Bool.or_eq_true, decide_eq_true_eq, Bool.and_eq_true, beq_iff_eq] at hl
    rcases hl with hl | ⟨rfl, hl⟩
    · exact ⟨less_head hl _ _, less_head_no hl _ _⟩
    · have ih := less_pre (p := p) (q := q) (by simpa using h) s t hl
      have h1 : ¬ a < a := UInt8.lt_irrefl a
      refine ⟨?_, ?_⟩
      · simp only [List.cons_append, Op.bytesLess, ih.1, beq_self_eq_true, Bool.true_and, Bool.or_true]
      · simp only [List.cons_append, Op.bytesLess, ih.2, Bool.and_false, decide_eq_false h1, Bool.or_false]
theorem lt97_lt {x y : Nat} (h : x < y) (hy : y < 4) : lt97 x < lt97 y := by
  rw [UInt8.lt_iff_toNat_lt]
  unfold lt97
  simp
  omega
/-- the words rise -/
theorem wordsF_rise {R : List RulD} {k : Nat} (hk : k ≤ 4) : ∀ (m : Nat) (w : ByteArray), (wordsF R k m w).Pairwise (fun a b => ltB a b = true)
  | 0, w => List.pairwise_singleton _ _
  | m + 1, w => by
    show ((List.range k).flatMap _).Pairwise _
    rw [List.pairwise_flatMap]
    refine ⟨fun x hx => ?_, ?_⟩
    · split
      · exact wordsF_rise hk m _
      · exact List.Pairwise.nil
    · refine List.pairwise_lt_range.imp_of_mem ?_
      intro x y hx hy hxy a ha b hb
      split at ha
      · split at hb
        · obtain ⟨s, hs⟩ := wordsF_pre R k m _ a ha
          obtain ⟨t, ht⟩ := wordsF_pre R k m _ b hb
          have := List.mem_range.1 hy
          unfold ltB
          rw [hs, ht, app_lt, app_lt, List.append_assoc, List.append_assoc, less_app]
          exact less_head (lt97_lt hxy (by omega)) _ _
        · cases hb
      · cases ha
end Go.Proofs.Ytdhaebbfiaddnaa
namespace Go.Proofs.Ytdhaebbfiaddnaa
open Go.RowKit
set_option linter.unusedVariables false
/-- the words of less than i letters -/
def outTo (R : List RulD) (k i : Nat) : List ByteArray := (List.range i).flatMap fun m => wordsF R k m ⟨#[]⟩
theorem outTo_succ (R : List RulD) (k i : Nat) : outTo R k (i + 1) = outTo R k i ++ wordsF R k i ⟨#[]⟩ := by
  unfold outTo; rw [List.range_succ, List.flatMap_append]; simp
theorem outTo_len {R : List RulD} (hne : LeftsP R) (k i : Nat) : (outTo R k i).length = pSum R k i := by
  unfold outTo pSum
  rw [List.length_flatMap]
  congr 1
  apply List.map_congr_left
  intro m _
  exact wordsF_len hne k m _
/-- the first j words with a letter more -/
def nxW (R : List RulD) (k : Nat) (l : List ByteArray) (j : Nat) : List ByteArray := (l.take j).flatMap (stepW R k)
/-- .. with one of the first x letters -/
def stepTo (R : List RulD) (w : ByteArray) (x : Nat) : List ByteArray := (List.range x).flatMap fun y => if okX R w y = true then [w ++ letterN y] else []
theorem stepTo_yes {R : List RulD} {w : ByteArray} {x : Nat} (h : okX R w x = true) : stepTo R w (x + 1) = stepTo R w x ++ [w ++ letterN x] := by
  unfold stepTo; rw [List.range_succ, List.flatMap_append]; simp [h]
theorem stepTo_no {R : List RulD} {w : ByteArray} {x : Nat} (h : okX R w x = false) : stepTo R w (x + 1) = stepTo R w x := by
  unfold stepTo; rw [List.range_succ, List.flatMap_append]; simp [h]
theorem stepTo_len (R : List RulD) (w : ByteArray) : ∀ x, (stepTo R w x).length ≤ x
  | 0 => Nat.le_refl _
  | x + 1 => by
    have ih := stepTo_len R w x
    cases h : okX R w x
    · rw [stepTo_no h]; omega
    · rw [stepTo_yes h, List.length_append]; simp; omega
theorem nxW_succ {R : List RulD} {k : Nat} {l : List ByteArray} {j : Nat} (h : j < l.length) : nxW R k l (j + 1) = nxW R k l j ++ stepTo R (nthS l j) k := by
  unfold nxW
  rw [List.take_succ_eq_append_getElem h, List.flatMap_append]
  have e : nthS l j = l[j] := by unfold nthS; rw [List.getD_eq_getElem?_getD, List.getElem?_eq_getElem h]; rfl
  rw [e]
  simp [stepW, stepTo]
theorem nxW_len {R : List RulD} {k : Nat} {l : List ByteArray} : ∀ j, j ≤ l.length → (nxW R k l j).length ≤ k * j
  | 0, _ => by simp [nxW]
  | j + 1, h => by
    have ih := nxW_len (R := R) (k := k) (l := l) j (by omega)
    have h1 := stepTo_len R (nthS l j) k
    rw [nxW_succ (by omega), List.length_append, Nat.mul_succ]
    omega
theorem nxW_all (R : List RulD) (k i : Nat) : nxW R k (wordsF R k i ⟨#[]⟩) (wordsF R k i ⟨#[]⟩).length = wordsF R k (i + 1) ⟨#[]⟩ := by
  unfold nxW; rw [List.take_length, wordsF_step]
/-- what AllReduced hands back -/
def RetAll (k : Int) (R : List RulD) (w : World) (e : Ending) (w' : World) : Prop :=
  (¬ (∃ c, CntIs k R c ∧ 0 ≤ c ∧ c ≤ 256) ∧ e = .returned (.tuple #[.slice none 0 0, .bool false]) ∧ Below w.heap.size w w') ∨
  ∃ (kn h : Nat), k = (kn : Int) ∧ SysG R kn ∧ HtIs R kn ⟨#[]⟩ (h : Int) ∧ pSum R kn (h + 1) ≤ 256 ∧ (∃ c, CntIs k R c ∧ 0 ≤ c ∧ c ≤ 256) ∧ ∃ a cap, e = .returned (.tuple #[.slice a (outTo R kn (h + 1)).length cap, .bool true]) ∧
    w'.ownsRow w.heap.size 9 1 (.slice a (outTo R kn (h + 1)).length cap) (outTo R kn (h + 1)).length (strVals (outTo R kn (h + 1))) ∧ Below w.heap.size w w'
def lenV : Value → Nat
  | .slice _ n _ => n
  | _ => 0
theorem strVals_app (l m : List ByteArray) : strVals (l ++ m) = strVals l ++ strVals m := by simp [strVals]
theorem strVals_length (l : List ByteArray) : (strVals l).length = l.length := by simp [strVals]
theorem pSum_ge {R : List RulD} {k h : Nat} (hh : HtIs R k ⟨#[]⟩ (h : Int)) : ∀ j, j ≤ h + 1 → j ≤ pSum R k j
  | 0, _ => Nat.zero_le _
  | j + 1, hj => by
    have ih := pSum_ge hh j (by omega)
    have h1 : paths R k j ⟨#[]⟩ ≠ 0 := by
      rcases hh with ⟨h1, _⟩ | ⟨m, h1, h2, _⟩
      · omega
      · exact fun h0 => h2 (paths_zero_le h0 (by omega))
    rw [pSum_succ]; omega
set_option maxRecDepth 100000 in
set_option maxHeartbeats 4000000 in
theorem specAllReduced_any (k : Int) (R : List RulD) (a : Option Addr) (cap : Nat) (w : World) (hl : RulesIn w a R) (hlen : R.length ≤ 2 ^ 40) (hz : SzR R) :
    Calls Try.prog 48 #[.agg #[.int .i64 k, .slice a R.length cap]] w (RetAll k R w) := by
  have HL := Lib.hid hl
  have HS := Lib.hid (fun W h => specCountAll_any k R a cap W h hlen hz)
  have HA := Lib.hid (fun o => alloc_belowS w o)
  have hbx := alloc_at w (.cells #[.int .i64 k, .slice a R.length cap] 52)
  have HBX : Hid (∀ W2, Below (w.alloc (.cells #[.int .i64 k, .slice a R.length cap] 52)).heap.size (w.alloc (.cells #[.int .i64 k, .slice a R.length cap] 52)) W2 → W2.cell? ⟨w.heap.size, 0, none⟩ = some (.int .i64 k) ∧ W2.cell? ⟨w.heap.size, 1, none⟩ = some (.slice a R.length cap)) := Lib.hid (fun W2 hW2 => sys_cells ((hW2.block w.heap.size (by simp)).trans hbx))
  have kc := convC
  clear hl hz hbx
  go_enter Try.func48, Try.ntmps48
  go_wp2_with fail
  refine (HS.out _ (HL.out.later (HA.out _))).mono ?_
  rintro e w1 ⟨c, hcn, rfl, hb1⟩
  have HCN := Lib.hid hcn
  have HW1 := Lib.hid (Below.now (HA.out _) hb1)
  have HBX1 : Hid (∀ W2, Below w1.heap.size w1 W2 → W2.cell? ⟨w.heap.size, 0, none⟩ = some (.int .i64 k) ∧ W2.cell? ⟨w.heap.size, 1, none⟩ = some (.slice a R.length cap)) := Lib.hid (fun W2 hW2 => HBX.out W2 (Below.now hb1 hW2))
  have HR0 := Lib.hid (fun W => l01In_any c 0 256 W)
  clear hb1 HS HBX
  cases hb : inB c 0 256
  · have F : Hid (RetAll k R w (.returned (.tuple #[.slice none 0 0, .bool false])) w1) := Lib.hid (.inl ⟨fun ⟨c', h1, h2, h3⟩ => (by have := h1.uniq HCN.out; subst this; simp [inB] at hb; omega), rfl, HW1.out⟩)
    rw [hb] at HR0
    clear hb hcn
    go_wp2_with (go_at_call 45; refine (HR0.out _).mono ?_; rintro e w' ⟨rfl, rfl⟩)
    go_ret2
    exact F.out
  · have hb2 := inB_bounds hb
    rw [hb] at HR0
    clear hb
    obtain ⟨h, hlg, hcase⟩ := hcn
    rcases hcase with ⟨_, h1⟩ | ⟨h0, hc⟩
    · omega
    rcases hlg with ⟨_, h1⟩ | ⟨hsp, hh⟩
    · omega
    obtain ⟨_, h8, hk1, hk4⟩ := sys_sizes hsp
    obtain ⟨kn, rfl⟩ := Int.eq_ofNat_of_zero_le (show 0 ≤ k by omega)
    obtain ⟨hn, rfl⟩ := Int.eq_ofNat_of_zero_le h0
    have hG := sysG_of hsp
    have hh' : HtIs R kn ⟨#[]⟩ (hn : Int) := by simpa using hh
    have hps : pSum R kn (hn + 1) ≤ 256 := by simp at hc; omega
    have hge := pSum_ge hh' (hn + 1) (Nat.le_refl _)
    have hkn : kn ≤ 4 := by omega
    have hhn : hn ≤ 256 := by omega
    have HG := Lib.hid hG
    have HH := Lib.hid hh'
    have HPS := Lib.hid hps
    have HEX : Hid (∃ c, CntIs (kn : Int) R c ∧ 0 ≤ c ∧ c ≤ 256) := Lib.hid ⟨c, HCN.out, hb2.1, hb2.2⟩
    have HPA : Hid (∀ i, i ≤ hn + 1 → pSum R kn i ≤ 256) := Lib.hid (fun i hi => Nat.le_trans (pSum_mono R kn hi) hps)
    have HPL : Hid (∀ i, i ≤ hn + 1 → (wordsF R kn i ⟨#[]⟩).length ≤ 256 ∧ ((wordsF R kn i ⟨#[]⟩).length = 0 ↔ i = hn + 1)) := Lib.hid (fun i hi => by
      rw [wordsF_len hG.ne]
      rcases hh' with ⟨h1, _⟩ | ⟨m, h1, h2, h3⟩
      · omega
      · have : m = hn := by omega
        subst this
        by_cases e : i = m + 1
        · subst e; rw [h3]; exact ⟨by omega, by simp⟩
        · exact ⟨Nat.le_trans (pSum_at R kn (show i < m + 1 by omega)) hps, ⟨fun h0 => absurd (paths_zero_le h0 (by omega)) h2, fun h => absurd h e⟩⟩)
    have HEN := Lib.hid (fun v W2 h hv => l07Ends_any (kn : Nat) R v a cap W2 h hlen (fun j hj => by have := (h8 j hj).1; omega) hv)
    clear hsp hh hh' hps hG h8 hc hb2 hge hk1 hk4
    go_wp2_with (go_at_call 45; refine (HR0.out _).mono ?_; rintro e w' ⟨rfl, rfl⟩)
    clear HR0
    have HO0 : Hid (Bld 9 1 w1 ((w1.alloc (.cells #[] 9)).alloc (.cells #[.string ⟨#[]⟩] 9)) (.slice (some ⟨w1.heap.size, 0, none⟩) 0 0) (outTo R kn 0).length (strVals (outTo R kn 0))) := Lib.hid ((Bld.empty 9 1 w1).later (alloc_belowS _ _))
    have HI0 : Hid (StrsIn ((w1.alloc (.cells #[] 9)).alloc (.cells #[.string ⟨#[]⟩] 9)) (some ⟨w1.heap.size + 1, 0, none⟩) (wordsF R kn 0 ⟨#[]⟩)) := Lib.hid (.inr ⟨_, _, rfl, fun i hi => by
      have : i = 0 := by simp [wordsF] at hi; omega
      subst this
      have e1 : (w1.alloc (.cells #[] 9)).heap.size = w1.heap.size + 1 := by simp
      rw [← e1]
      simp [wordsF]⟩)
    go_loopw [4, 5] (fun vo vw wr => ∃ (i : Nat) (aw : Option Addr) (cw : Nat) (L : List ByteArray), i ≤ hn + 1 ∧ L = wordsF R kn i ⟨#[]⟩ ∧ vw = .slice aw L.length cw ∧ Bld 9 1 w1 wr vo (outTo R kn i).length (strVals (outTo R kn i)) ∧ StrsIn wr aw L ∧ Away wr aw vo) (fun vo _ _ => 257 - lenV vo)
    case atStart => exact ⟨0, _, 1, _, Nat.zero_le _, rfl, rfl, HO0.out, HI0.out, fun x hx => (by cases hx; refine ⟨by simp; try omega, by simp [Value.ownBlock]; try omega⟩)⟩
    case round =>
      clear HO0 HI0
      obtain ⟨i, aw, cw, L, hi, hL, rfl, hbd, hst, haw⟩ := hrel
      have hLl := HPL.out i hi
      have hol := outTo_len HG.out.ne kn i
      have hop := HPA.out i hi
      rw [← hL] at hLl
      obtain ⟨ao, co, rfl⟩ := owns_form hbd.1
      have HLE := Lib.hid hL
      have HB := Lib.hid hbd
      have HST := Lib.hid hst
      have HAW := Lib.hid haw
      clear hbd hst haw hL
      by_cases hlt : i = hn + 1
      · have hL0 : L.length = 0 := hLl.2.2 hlt
        subst hlt
        have F : Hid (RetAll (kn : Int) R w (.returned (.tuple #[.slice ao (outTo R kn (hn + 1)).length co, .bool true])) wr) := Lib.hid (.inr ⟨kn, hn, rfl, HG.out, HH.out, HPS.out, HEX.out, ao, co, rfl, owns_mono HB.out.1 HW1.out.size, Below.now HW1.out HB.out.2⟩)
        have hL0' : ¬ 0 < L.length := by omega
        clear hol hLl hL0
        go_wp2_with fail
        go_ret2
        exact F.out
      · have hLp : 0 < L.length := by
          by_cases h0 : L.length = 0
          · exact absurd (hLl.2.1 h0) hlt
          · omega
        have hpn := HPA.out (i + 1) (by omega)
        have hos := outTo_succ R kn i
        rw [← HLE.out] at hos
        have HOS := Lib.hid hos
        have hon : (outTo R kn i).length + L.length ≤ 256 := by
          have h1 := outTo_len HG.out.ne kn (i + 1)
          rw [hos, List.length_append] at h1
          omega
        have HSR : Hid (Src wr (.slice aw L.length cw) L.length (strVals L)) := Lib.hid (by
          cases aw with
          | none =>
            obtain ⟨_, _, hb, _⟩ := HST.out.cell hLp
            cases hb
          | some x => exact Src.of_cells HST.out)
        have HN1 : Hid ((strVals L).length = L.length * 1) := Lib.hid (by rw [strVals_length]; omega)
        have HN2 : Hid (∀ u ∈ strVals L, u.oneCell' = true) := Lib.hid (fun u hu => by
          obtain ⟨_, _, rfl⟩ := List.mem_map.1 hu; rfl)
        clear hos hLl hol
        go_wp2_with (at_builtin; refine wpList_appM rfl (.tmp 20) (.tmp 21) rfl Try.underlying56 Try.infoStr rfl (by decide) rfl HB.out rfl HSR.out HN1.out HN2.out ?a1 ?a2 ?a3)
        case a1 => unfold maxLen; omega
        case a2 => omega
        intro v4 w4 hb4 hg4 ho4
        have hb4' : Bld 9 1 w1 w4 v4 (outTo R kn (i + 1)).length (strVals (outTo R kn (i + 1))) := by
          rw [HOS.out, List.length_append, strVals_app]; exact hb4
        have hno : (outTo R kn (i + 1)).length ≤ 256 := by rw [HOS.out, List.length_append]; exact hon
        have hlt4 : (outTo R kn i).length < (outTo R kn (i + 1)).length := by rw [HOS.out, List.length_append]; omega
        obtain ⟨a4, c4, hv4⟩ := owns_form hb4'.1
        subst hv4
        have HB4 := Lib.hid hb4'
        have HST4 : Hid (StrsIn w4 aw L) := Lib.hid (CellsIn.grownC HST.out hg4 (fun x hx => (HAW.out x hx).2))
        have HN0 : Hid (Bld 9 1 w4 (w4.alloc (.cells #[] 9)) (.slice (some ⟨w4.heap.size, 0, none⟩) 0 0) (nxW R kn L 0).length (strVals (nxW R kn L 0))) := Lib.hid (Bld.empty 9 1 w4)
        have HNA : Hid (nxW R kn L L.length = wordsF R kn (i + 1) ⟨#[]⟩) := Lib.hid (by rw [HLE.out]; exact nxW_all R kn i)
        have HSZ : Hid (∀ j, j < L.length → (nthS L j).size = i) := Lib.hid (fun j hj => by
          have h1 : nthS L j ∈ L := by unfold nthS; rw [List.getD_eq_getElem?_getD, List.getElem?_eq_getElem hj]; exact List.getElem_mem hj
          have h2 := wordsF_size R kn i ⟨#[]⟩ (nthS L j) (by rw [← HLE.out]; exact h1)
          have h3 : (⟨#[]⟩ : ByteArray).size = 0 := rfl
          omega)
        have hLm : L.length ≤ 256 := by omega
        have HLT := Lib.hid hlt4
        have HNO := Lib.hid hno
        clear hb4 hb4' hg4 ho4 HB HST HAW HOS HSR HN1 HN2 hon hpn hop hlt4 hno
        generalize hO : (outTo R kn (i + 1)) = O at *
        have HOE := Lib.hid hO
        clear hO
        generalize hn0 : (outTo R kn i).length = n0 at *
        have HN0E := Lib.hid hn0
        clear hn0
        go_wp2_with fail
        go_loopw [6, 26] (fun vn vj wr => ∃ j : Nat, j ≤ L.length ∧ vj = .int .i64 (j : Nat) ∧ Bld 9 1 w4 wr vn (nxW R kn L j).length (strVals (nxW R kn L j))) (fun _ vj _ => L.length - (intOf vj).toNat)
        case atStart => exact ⟨0, Nat.zero_le _, rfl, HN0.out⟩
        case round =>
          clear HN0
          obtain ⟨j, hj, rfl, hbn⟩ := hrel
          obtain ⟨an, cn, rfl⟩ := owns_form hbn.1
          have HBN := Lib.hid hbn
          clear hbn
          by_cases hlj : j < L.length
          · obtain ⟨b, off, rfl, hb, hc⟩ := (HST4.out.later HBN.out.2).cell hlj
            have c1 := hc j hlj
            have HXS := Lib.hid (nxW_succ (R := R) (k := kn) hlj)
            have hes := HSZ.out j hlj
            have hnl := nxW_len (R := R) (k := kn) j hj
            have hnl2 : (nxW R kn L j).length ≤ 1024 := by
              have h1 : kn * j ≤ 4 * 256 := Nat.mul_le_mul hkn (by omega)
              omega
            have hN0 : Hid (nxW R kn L j = nxW R kn L j ++ stepTo R (nthS L j) 0) := Lib.hid (by simp [stepTo])
            clear hc hnl
            generalize nthS L j = e at *
            generalize nxW R kn L j = X at *
            go_wp2_with fail
            generalize hW : wr = wr1 at *
            clear hW c1
            go_loopw [6, 9] (fun vn vx wr => ∃ (x : Nat) (Y : List ByteArray), x ≤ kn ∧ vx = .int .i64 (x : Nat) ∧ Bld 9 1 w4 wr vn Y.length (strVals Y) ∧ Hid (Y = X ++ stepTo R e x)) (fun _ vx _ => kn - (intOf vx).toNat)
            case atStart => exact ⟨0, X, Nat.zero_le _, rfl, HBN.out, hN0⟩
            case round =>
              clear hN0 HBN
              obtain ⟨x, Y, hx, rfl, hbn, HY⟩ := hrel
              obtain ⟨an, cn, rfl⟩ := owns_form hbn.1
              have hB1 := Below.now HB4.out.2 hbn.2
              obtain ⟨s0, s1⟩ := HBX1.out wr hB1
              have HBN := Lib.hid hbn
              have HB1 := Lib.hid hB1
              have hsl := stepTo_len R e x
              have hXl : Y.length ≤ 1028 := by rw [HY.out, List.length_append]; omega
              clear hbn hB1 hsl
              by_cases hlx : x < kn
              · have s0a : ∀ o, (wr.alloc o).cell? ⟨w.heap.size, 0, none⟩ = some (.int .i64 (kn : Nat)) := fun o => by rw [(alloc_belowS wr o).cell (World.block_lt_of_cell? wr _ s0)]; exact s0
                have s1a : ∀ o, (wr.alloc o).cell? ⟨w.heap.size, 1, none⟩ = some (.slice a R.length cap) := fun o => by rw [(alloc_belowS wr o).cell (World.block_lt_of_cell? wr _ s1)]; exact s1
                have hu : IntKind.u8.wrap (97 + (x : Int)) = 97 + (x : Int) := by simp [IntKind.wrap, IntKind.signed, IntKind.bits]; omega
                have hvs : (e ++ oneC (97 + (x : Int))).size ≤ 1000 := by
                  rw [ByteArray.size_append]
                  have : (oneC (97 + (x : Int))).size = 1 := rfl
                  omega
                have HEV := Lib.hid (fun W2 h => HEN.out (e ++ oneC (97 + (x : Int))) W2 h hvs)
                have HOK : Hid (okX R e x = !endsR R (e ++ oneC (97 + (x : Int)))) := Lib.hid rfl
                have HLN : Hid (e ++ letterN x = e ++ oneC (97 + (x : Int))) := Lib.hid rfl
                have hos : ∀ z, (oneC z).size = 1 := fun z => rfl
                have hesz1 : ¬ (9223372036854775807 : Int) < (e.size : Int) + 1 := by omega
                have hesz2 : ¬ 9223372036854775807 < e.size + 1 := by omega
                go_wp2_with fail
                clear hu hos hesz1 hesz2 hvs
                generalize e ++ oneC (97 + (x : Int)) = v at *
                refine (HEV.out _ (HL.out.later (Below.now HW1.out (Below.now HB1.out (alloc_belowS wr _))))).mono ?_
                rintro e2 w2 ⟨rfl, hb2⟩
                have HBN2 := Lib.hid (HBN.out.later (Below.now (alloc_belowS wr _) hb2))
                clear hb2 HEV s0 s1 s0a s1a HBN
                cases hend : endsR R v
                · have hok : okX R e x = true := by rw [HOK.out, hend]; rfl
                  have hst := stepTo_yes (R := R) (w := e) hok
                  rw [HLN.out] at hst
                  have HSTP := Lib.hid hst
                  clear hok hend HOK hst HLN
                  have HA3 := Lib.hid (HBN2.out.later (alloc_belowS w2 (.cells #[.string v] 9)))
                  have HN1 : Hid ([Value.string v].length = 1 * 1) := Lib.hid rfl
                  have HN2 : Hid (∀ u ∈ [Value.string v], u.oneCell' = true) := Lib.hid (fun u hu => by rw [List.mem_singleton.1 hu]; rfl)
                  go_wp2_with (at_builtin; refine wpList_appM rfl (.tmp 47) (.tmp 49) rfl Try.underlying56 Try.infoStr rfl (by decide) rfl HA3.out rfl (Src.lit _) HN1.out HN2.out ?b1 ?b2 ?b3)
                  case b1 => unfold maxLen; omega
                  case b2 => omega
                  intro v7 w7 hb7 hg7 ho7
                  have HB7 : Hid (Bld 9 1 w4 w7 v7 (Y ++ [v]).length (strVals (Y ++ [v]))) := Lib.hid (by
                    rw [List.length_append, strVals_app]; exact hb7)
                  have HY7 : Hid (Y ++ [v] = X ++ stepTo R e (x + 1)) := Lib.hid (by rw [HSTP.out, ← List.append_assoc, HY.out])
                  clear hb7 hg7 ho7
                  go_wp2_with fail
                  go_roundw
                  case rel => exact ⟨x + 1, _, by omega, by go_num, HB7.out, HY7⟩
                  case measure => simp [intOf]; omega
                · have hok : okX R e x = false := by rw [HOK.out, hend]; rfl
                  have HY7 : Hid (Y = X ++ stepTo R e (x + 1)) := Lib.hid (by rw [stepTo_no hok]; exact HY.out)
                  clear hok hend HOK HLN
                  go_wp2_with fail
                  go_roundw
                  case rel => exact ⟨x + 1, Y, by omega, by go_num, HBN2.out, HY7⟩
                  case measure => simp [intOf]; omega
              · obtain rfl : x = kn := by omega
                have HB7 : Hid (Bld 9 1 w4 wr (.slice an Y.length cn) (nxW R x L (j + 1)).length (strVals (nxW R x L (j + 1)))) := Lib.hid (by rw [HXS.out, ← HY.out]; exact HBN.out)
                go_wp2_with fail
                go_roundw
                case rel => exact ⟨j + 1, by omega, by go_num, HB7.out⟩
                case measure => simp [intOf]; omega
          · obtain rfl : j = L.length := by omega
            have HB9 := Lib.hid (HB4.out.later HBN.out.2)
            have HI9 : Hid (StrsIn wr an (nxW R kn L L.length)) := Lib.hid (owns_strsIn2 HBN.out.1)
            have HA9 : Hid (Away wr an (.slice a4 O.length c4)) := Lib.hid (fun x hx => by
              have h1 := HBN.out.1.lt x.block (by rw [hx]; rfl)
              refine ⟨h1.2, fun e => ?_⟩
              have h2 := (HB4.out.1.lt x.block e.symm).2
              omega)
            generalize nxW R kn L L.length = L2 at *
            go_wp2_with fail
            go_roundw
            case rel => exact ⟨i + 1, an, cn, L2, by omega, HNA.out, rfl, by rw [HOE.out]; exact HB9.out, HI9.out, HA9.out⟩
            case measure => have h1 := HLT.out; have h2 := HNO.out; have h3 := HN0E.out; simp only [lenV]; omega
end Go.Proofs.Ytdhaebbfiaddnaa
namespace Go.Proofs.Ytdhaebbfiaddnaa
open Go.RowKit
set_option linter.unusedVariables false
/-- the first reduced word from w by m letters that is above the bound -/
def firstF (R : List RulD) (k : Nat) (bound : ByteArray) (m : Nat) (w : ByteArray) : Option ByteArray := (wordsF R k m w).find? fun u => ltB bound u
/-- none begins with w and one of the first x letters -/
def NoneTo (R : List RulD) (k : Nat) (bound : ByteArray) (m : Nat) (w : ByteArray) (x : Nat) : Prop := ∀ y, y < x → okX R w y = true → firstF R k bound m (w ++ letterN y) = none
theorem NoneTo.start (R : List RulD) (k : Nat) (bound : ByteArray) (m : Nat) (w : ByteArray) : NoneTo R k bound m w 0 := fun y hy => by omega
theorem NoneTo.no {R : List RulD} {k : Nat} {bound : ByteArray} {m : Nat} {w : ByteArray} {x : Nat} (h : NoneTo R k bound m w x) (hx : okX R w x = false) : NoneTo R k bound m w (x + 1) := fun y hy ho => by
  by_cases e : y = x
  · subst e; rw [hx] at ho; cases ho
  · exact h y (by omega) ho
theorem NoneTo.skip {R : List RulD} {k : Nat} {bound : ByteArray} {m : Nat} {w : ByteArray} {x : Nat} (h : NoneTo R k bound m w x) (hx : firstF R k bound m (w ++ letterN x) = none) : NoneTo R k bound m w (x + 1) := fun y hy ho => by
  by_cases e : y = x
  · subst e; exact hx
  · exact h y (by omega) ho
theorem find_flat {α β : Type} (p : β → Bool) (g : α → List β) : ∀ l : List α, (∀ a ∈ l, (g a).find? p = none) → (l.flatMap g).find? p = none := fun l h => by
  rw [List.find?_eq_none]
  intro b hb
  obtain ⟨a, ha, hb⟩ := List.mem_flatMap.1 hb
  exact List.find?_eq_none.1 (h a ha) b hb
theorem NoneTo.done {R : List RulD} {k : Nat} {bound : ByteArray} {m : Nat} {w : ByteArray} (h : NoneTo R k bound m w k) : firstF R k bound (m + 1) w = none := by
  unfold firstF
  refine find_flat _ _ _ fun x hx => ?_
  split
  · rename_i ho
    exact h x (List.mem_range.1 hx) ho
  · rfl
theorem NoneTo.found {R : List RulD} {k : Nat} {bound : ByteArray} {m : Nat} {w u : ByteArray} {x : Nat} (h : NoneTo R k bound m w x) (hx : x < k) (ho : okX R w x = true) (hu : firstF R k bound m (w ++ letterN x) = some u) : firstF R k bound (m + 1) w = some u := by
  have e : List.range k = List.range x ++ x :: (List.range k).drop (x + 1) := by
    conv => lhs; rw [← List.take_append_drop x (List.range k)]
    rw [List.drop_eq_getElem_cons (by simpa using hx)]
    congr 1
    · rw [List.take_range]; congr 1; omega
    · simp
  unfold firstF
  show ((List.range k).flatMap _).find? _ = _
  rw [e, List.flatMap_append, List.find?_append, find_flat _ _ _ (fun y hy => by
    split
    · rename_i hy2
      exact h y (List.mem_range.1 hy) hy2
    · rfl), Option.none_or, List.flatMap_cons, List.find?_append]
  rw [if_pos ho]
  unfold firstF at hu
  rw [hu]
  rfl
/-- all words are above the bound: the first one is the first of all -/
def FreeW (bound w : ByteArray) : Prop := bound.size = 0 ∨ Op.bytesLess (bound.data.toList.take w.size) w.data.toList = true
theorem less_nil {s : Wd} (h : s ≠ []) : Op.bytesLess [] s = true := by
  cases s with
  | nil => exact absurd rfl h
  | cons a s => rfl
theorem free_above {R : List RulD} {k : Nat} {bound w u : ByteArray} {m : Nat} (h : FreeW bound w) (hb : bound.size = 0 ∨ bound.size = w.size + m) (hm : 0 < w.size + m) (hu : u ∈ wordsF R k m w) : ltB bound u = true := by
  have hs := wordsF_size R k m w u hu
  have hsz : ∀ z : ByteArray, z.data.toList.length = z.size := fun z => rfl
  unfold ltB
  rcases h with h0 | h0
  · have e : bound.data.toList = [] := List.length_eq_zero_iff.1 (by rw [hsz, h0])
    rw [e]
    exact less_nil fun e2 => by have h9 : 0 = u.size := (by have h8 := hsz u; rw [e2] at h8; exact h8); omega
  · obtain ⟨t, ht⟩ := wordsF_pre R k m w u hu
    rcases hb with hb | hb
    · have e : bound.data.toList = [] := List.length_eq_zero_iff.1 (by rw [hsz, hb])
      rw [e]
      exact less_nil fun e2 => by have h9 : 0 = u.size := (by have h8 := hsz u; rw [e2] at h8; exact h8); omega
    · rw [← List.take_append_drop w.size bound.data.toList, ht]
      exact (less_pre (by rw [List.length_take, hsz, hsz]; omega) _ _ h0).1
/-- beyond the bound, where there is none there is no word at all -/
theorem free_none {R : List RulD} (hne : LeftsP R) {k : Nat} {bound w : ByteArray} {m : Nat} (h : FreeW bound w) (hb : bound.size = 0 ∨ bound.size = w.size + m) (hm : 0 < w.size + m) (hn : firstF R k bound m w = none) : paths R k m w = 0 := by
  rw [← wordsF_len hne, List.length_eq_zero_iff]
  unfold firstF at hn
  rw [List.find?_eq_none] at hn
  exact List.eq_nil_iff_forall_not_mem.2 fun u hu => hn u hu (free_above h hb hm hu)
theorem none_of_paths {R : List RulD} (hne : LeftsP R) {k : Nat} {bound w : ByteArray} {m : Nat} (h : paths R k m w = 0) : firstF R k bound m w = none := by
  rw [← wordsF_len hne, List.length_eq_zero_iff] at h
  unfold firstF
  rw [h]; rfl
/-- below the bound there is none -/
theorem below_none {R : List RulD} {k : Nat} {bound w : ByteArray} {m : Nat} (hb : bound.size = w.size + m) (h : Op.bytesLess w.data.toList (bound.data.toList.take w.size) = true) : firstF R k bound m w = none := by
  unfold firstF
  rw [List.find?_eq_none]
  intro u hu
  obtain ⟨t, ht⟩ := wordsF_pre R k m w u hu
  have hsz : ∀ z : ByteArray, z.data.toList.length = z.size := fun z => rfl
  unfold ltB
  rw [← List.take_append_drop w.size bound.data.toList, ht]
  rw [(less_pre (by rw [List.length_take, hsz, hsz]; omega) t (bound.data.toList.drop w.size) h).2]
  simp
end Go.Proofs.Ytdhaebbfiaddnaa
namespace Go.Proofs.Ytdhaebbfiaddnaa
open Go.RowKit
set_option linter.unusedVariables false
theorem dec_ne (n : Nat) : Lib.decDigits n ≠ [] := by
  by_cases h : n < 10
  · rw [decDigits_small h]; simp
  · rw [decDigits_big (by omega)]; simp
theorem dig_inj {a b : Nat} (ha : a < 10) (hb : b < 10) (h : UInt8.ofNat (48 + a) = UInt8.ofNat (48 + b)) : a = b := by
  have h1 := congrArg UInt8.toNat h
  simp at h1
  omega
theorem dec_inj : ∀ (n m : Nat), Lib.decDigits n = Lib.decDigits m → n = m := by
  intro n
  induction n using Nat.strongRecOn with
  | ind n ih =>
    intro m h
    by_cases h1 : n < 10
    · by_cases h2 : m < 10
      · rw [decDigits_small h1, decDigits_small h2] at h
        exact dig_inj h1 h2 (by simpa using h)
      · rw [decDigits_small h1, decDigits_big (k := m) (by omega)] at h
        have h3 := congrArg List.length h
        have h4 : 0 < (Lib.decDigits (m / 10)).length := List.length_pos_iff.2 (dec_ne _)
        simp only [List.length_append, List.length_cons, List.length_nil] at h3
        omega
    · by_cases h2 : m < 10
      · rw [decDigits_small h2, decDigits_big (k := n) (by omega)] at h
        have h3 := congrArg List.length h
        have h4 : 0 < (Lib.decDigits (n / 10)).length := List.length_pos_iff.2 (dec_ne _)
        simp only [List.length_append, List.length_cons, List.length_nil] at h3
        omega
      · rw [decDigits_big (k := n) (by omega), decDigits_big (k := m) (by omega)] at h
        obtain ⟨h3, h4⟩ := List.append_inj' h rfl
        have h5 := ih (n / 10) (by omega) (m / 10) h3
        have h6 := dig_inj (Nat.mod_lt n (by omega)) (Nat.mod_lt m (by omega)) (by simpa using h4)
        omega
theorem numB_inj {n m : Nat} (h : numB (n : Int) = numB (m : Int)) : n = m := by
  apply dec_inj
  have h1 := congrArg (fun z : ByteArray => z.data.toList) h
  simp only [numB] at h1
  rw [itoa_nat, itoa_nat] at h1
  simpa using h1
end Go.Proofs.Ytdhaebbfiaddnaa
namespace Go.Proofs.Ytdhaebbfiaddnaa
open Go.RowKit Go.Maps
set_option linter.unusedVariables false
/-- the key of two strings -/
def kl2 (a b : ByteArray) : Lit := .string (keyBytes [.string a.data.toList, .string b.data.toList])
end Go.Proofs.Ytdhaebbfiaddnaa
namespace Go.Proofs.Ytdhaebbfiaddnaa
open Go.RowKit Go.Maps
set_option linter.unusedVariables false
end Go.Proofs.Ytdhaebbfiaddnaa
