/-
  Words in a complete system: a word is linked, through words of at most so many letters, exactly with those of its normal form; each class has one reduced word, its least.
-/
import Derived.Test.YtgoeadgpbidgiaaGreatClp13
import Derived.Test.YtgoeadgpbidgiaaGreatClp11
import Derived.Test.YtgoeadgpbidgiaaGreatClp08
import Derived.Test.YtgoeadgpbidgiaaGreatClp04
namespace Go.Proofs.YtgoeadgpbidgiaaGreat
open Go.RowKit
set_option linter.unusedVariables false
theorem ltW_wt {u v : List UInt8} (h : ltW u v = true) : wt u < wt v := by
  unfold ltW at h
  rcases of_decide_eq_true h with h | ⟨h1, h2⟩
  · exact wt_short h
  · exact wt_lex h1 h2
theorem wt_ltW {u v : List UInt8} (h : wt u < wt v) : ltW u v = true := by
  cases h1 : ltW u v
  · cases h2 : ltW v u
    · obtain rfl := ltW_total h1 h2
      omega
    · have := ltW_wt h2
      omega
  · rfl
theorem wt_lessS {a b : ByteArray} (h : wt a.data.toList < wt b.data.toList) : lessS a b = true := wt_ltW h
theorem lessS_size {a b : ByteArray} (h : lessS a b = true) : a.size ≤ b.size := by
  have := wt_len (lessS_wt h)
  exact this
theorem sysW_dwn {k : Int} {R : List RulD} (hs : sysW k R) : Dwn (SR R) := by
  rintro _ _ ⟨p, hp, rfl, rfl⟩
  exact lessS_wt (hs.2 p hp)
theorem sysW_ne {k : Int} {R : List RulD} (hs : sysW k R) : ∀ r ∈ R, r.1.size ≠ 0 := fun r hr => (hs.1.2 r hr).2
theorem nfC_is {k : Int} {R : List RulD} (hs : sysW k R) {u : ByteArray} (hw : wordOkB k u = true) : NormIs R u (nfC R u) := by
  obtain ⟨x, hx, _⟩ := NormIs.exW hs _ u (Nat.lt_succ_self _) hw
  rw [nfC_eq hx]; exact hx
theorem nfC_word {k : Int} {R : List RulD} (hs : sysW k R) {u : ByteArray} (hw : wordOkB k u = true) : wordOkB k (nfC R u) = true := (nfC_is hs hw).wordW hs hw
theorem nfC_red {k : Int} {R : List RulD} (hs : sysW k R) {u : ByteArray} (hw : wordOkB k u = true) : Nf (SR R) u.data.toList (nfC R u).data.toList := norm_nf (sysW_ne hs) (nfC_is hs hw)
theorem nfC_le {k : Int} {R : List RulD} (hs : sysW k R) {u : ByteArray} (hw : wordOkB k u = true) : wt (nfC R u).data.toList ≤ wt u.data.toList := (nfC_red hs hw).1.le (sysW_dwn hs)
/-- l lies somewhere in w -/
def hasB (w l : ByteArray) : Bool := !(placesF w l).isEmpty
theorem hasB_iff {w l : ByteArray} (hl : l.size ≠ 0) : hasB w l = true ↔ ∃ x y, w.data.toList = x ++ (l.data.toList ++ y) := by
  unfold hasB
  rw [Bool.not_eq_true', List.isEmpty_eq_false_iff]
  constructor
  · intro h
    obtain ⟨i, hi⟩ := List.exists_mem_of_ne_nil _ h
    obtain ⟨_, h2⟩ := mem_places.1 hi
    exact ⟨_, _, split_at h2⟩
  · rintro ⟨x, y, h⟩ he
    have e1 : w.data.toList.length = w.size := rfl
    have e2 : l.data.toList.length = l.size := rfl
    have h2 : x.length ∈ placesF w l := by
      rw [mem_places]
      rw [h] at e1
      simp only [List.length_append] at e1
      refine ⟨by omega, ?_⟩
      unfold preAt
      rw [h, List.drop_left, List.isPrefixOf_iff_prefix]
      exact List.prefix_append _ _
    rw [he] at h2
    cases h2
/-- the rules that are kept beside a new left side, and those that are not -/
def keptF (R : List RulD) (x : ByteArray) : List RulD := R.filter fun p => !hasB p.1 x
def goneF (R : List RulD) (x : ByteArray) : List RulD := R.filter fun p => hasB p.1 x
def allF (R : List RulD) (r : RulD) : List RulD := keptF R r.1 ++ [r]
noncomputable def mapF (R : List RulD) (r : RulD) (l : List RulD) : List RulD := l.map fun p => (p.1, nfC (allF R r) p.2)
noncomputable def nextF (R : List RulD) (r : RulD) : List RulD := mapF R r (keptF R r.1) ++ [r]
/-- the sides of the pairs with the last rule -/
def lastP (N : List RulD) (p : PairD) : Bool := decide (p.2.1 = N.length - 1) || decide (p.2.2.1 = N.length - 1)
def sidesF (N : List RulD) (p : PairD) : RulD := (leftP N p, rightP N p)
def newQ (N : List RulD) : List RulD := ((pairsF N).filter (lastP N)).map (sidesF N)
/-- the rule that an equation of two words is made into -/
def orF2 (a b : ByteArray) : RulD := if lessS a b = true then (b, a) else (a, b)
/-- what a turn is: its code, the rules, the equations and the turns behind it -/
noncomputable def turnF (R Q : List RulD) (T : Nat) : Nat × List RulD × List RulD × Nat :=
  match Q with
  | [] => (0, R, [], T)
  | q :: Qt =>
    if T = 200 then (3, R, q :: Qt, T)
    else if nfC R q.1 = nfC R q.2 then (0, R, Qt, T + 1)
    else if 8 < (orF2 (nfC R q.1) (nfC R q.2)).1.size then (1, R, q :: Qt, T)
    else if 12 < (nextF R (orF2 (nfC R q.1) (nfC R q.2))).length then (2, R, q :: Qt, T)
    else if 400 < (Qt ++ goneF R (orF2 (nfC R q.1) (nfC R q.2)).1 ++ newQ (nextF R (orF2 (nfC R q.1) (nfC R q.2)))).length then (2, R, q :: Qt, T)
    else (0, nextF R (orF2 (nfC R q.1) (nfC R q.2)), Qt ++ goneF R (orF2 (nfC R q.1) (nfC R q.2)).1 ++ newQ (nextF R (orF2 (nfC R q.1) (nfC R q.2))), T + 1)
/-- rules, equations and turns that a completion may go on from -/
structure WorkP (k : Int) (R Q : List RulD) (T : Nat) : Prop where
  sys : sysP k R
  few : Q.length ≤ 400
  word : ∀ q ∈ Q, wordOkB k q.1 = true ∧ wordOkB k q.2 = true
  turns : T ≤ 200
theorem orF2_less {a b : ByteArray} (h : a ≠ b) : lessS (orF2 a b).2 (orF2 a b).1 = true := by
  unfold orF2
  split
  · assumption
  · rename_i h1
    cases h2 : lessS b a
    · have e := ltW_total (Bool.not_eq_true _ ▸ h1 : ltW (blW a) (blW b) = false) h2
      exact absurd (ba_lists e) h
    · rfl
theorem orF2_cases (a b : ByteArray) : orF2 a b = (b, a) ∨ orF2 a b = (a, b) := by
  unfold orF2
  split
  · exact .inl rfl
  · exact .inr rfl
/-- what is known of a rule that a turn makes -/
structure NewR (k : Int) (r : RulD) : Prop where
  left : wordOkB k r.1 = true
  right : wordOkB k r.2 = true
  less : lessS r.2 r.1 = true
  short : r.1.size ≤ 8
theorem less_ne {a b : ByteArray} (h : lessS a b = true) : b.size ≠ 0 := by
  intro h0
  have e : b.data.toList = [] := List.eq_nil_of_length_eq_zero h0
  have := lessS_wt h
  rw [e] at this
  simp [wt, wtL] at this
theorem NewR.rule {k : Int} {r : RulD} (h : NewR k r) : ruleP k r := ⟨⟨⟨h.left, h.right⟩, h.short, Nat.le_trans (lessS_size h.less) h.short⟩, less_ne h.less⟩
theorem allF_sys {k : Int} {R : List RulD} (hs : sysP k R) {r : RulD} (hr : NewR k r) : sysW k (allF R r) := by
  have key : ∀ p ∈ allF R r, p ∈ R ∨ p = r := fun p hp => by
    rcases List.mem_append.1 hp with hp | hp
    · exact .inl ((List.mem_filter.1 hp).1)
    · exact .inr (List.mem_singleton.1 hp)
  refine ⟨⟨hs.1.1.1, fun p hp => ?_⟩, fun p hp => ?_⟩
  · rcases key p hp with h | rfl
    · exact hs.1.2 p h
    · exact hr.rule
  · rcases key p hp with h | rfl
    · exact hs.2 p h
    · exact hr.less
theorem allF_len {k : Int} {R : List RulD} (hs : sysP k R) (r : RulD) : (allF R r).length ≤ 13 := by
  unfold allF keptF
  have h1 := List.length_filter_le (fun p : RulD => !hasB p.1 r.1) R
  have h2 := hs.1.1.2
  rw [List.length_append, List.length_singleton]
  omega
theorem nextF_mem {R : List RulD} {r : RulD} {p : RulD} : p ∈ nextF R r ↔ (∃ q ∈ keptF R r.1, p = (q.1, nfC (allF R r) q.2)) ∨ p = r := by
  unfold nextF mapF
  rw [List.mem_append, List.mem_map, List.mem_singleton]
  constructor
  · rintro (⟨q, h1, h2⟩ | h)
    · exact .inl ⟨q, h1, h2.symm⟩
    · exact .inr h
  · rintro (⟨q, h1, h2⟩ | h)
    · exact .inl ⟨q, h1, h2.symm⟩
    · exact .inr h
theorem nextF_len (R : List RulD) (r : RulD) : (nextF R r).length = (keptF R r.1).length + 1 := by
  unfold nextF mapF
  rw [List.length_append, List.length_map, List.length_singleton]
theorem nextF_weak {k : Int} {R : List RulD} (hs : sysP k R) {r : RulD} (hr : NewR k r) : sysW k (nextF R r) := by
  have ha := allF_sys hs hr
  have key : ∀ p ∈ nextF R r, ruleP k p ∧ lessS p.2 p.1 = true := fun p hp => by
    rcases nextF_mem.1 hp with ⟨q, hq, rfl⟩ | rfl
    · have hq2 := (List.mem_filter.1 hq).1
      have h1 := hs.1.2 q hq2
      have h2 := nfC_le ha h1.1.1.2
      have h3 := lessS_wt (hs.2 q hq2)
      have h4 : lessS (nfC (allF R r) q.2) q.1 = true := wt_lessS (by omega)
      exact ⟨⟨⟨⟨h1.1.1.1, nfC_word ha h1.1.1.2⟩, h1.1.2.1, Nat.le_trans (lessS_size h4) h1.1.2.1⟩, h1.2⟩, h4⟩
    · exact ⟨hr.rule, hr.less⟩
  exact ⟨⟨hs.1.1.1, fun p hp => (key p hp).1⟩, fun p hp => (key p hp).2⟩
theorem nextF_sys {k : Int} {R : List RulD} (hs : sysP k R) {r : RulD} (hr : NewR k r) (hl : ¬ 12 < (nextF R r).length) : sysP k (nextF R r) :=
  ⟨⟨⟨hs.1.1.1, by omega⟩, (nextF_weak hs hr).1.2⟩, (nextF_weak hs hr).2⟩
theorem sides_word {k : Int} {N : List RulD} (hs : sysP k N) {p : PairD} (hp : p ∈ pairsF N) : wordOkB k (sidesF N p).1 = true ∧ wordOkB k (sidesF N p).2 = true := by
  have h := pairOk hs hp
  exact ⟨step_word hs h.word h.one, step_word hs h.word h.two⟩
theorem newQ_word {k : Int} {N : List RulD} (hs : sysP k N) : ∀ q ∈ newQ N, wordOkB k q.1 = true ∧ wordOkB k q.2 = true := fun q hq => by
  obtain ⟨p, hp, rfl⟩ := List.mem_map.1 hq
  exact sides_word hs ((List.mem_filter.1 hp).1)
theorem orF2_new {k : Int} {R : List RulD} (hs : sysP k R) {q : RulD} (hq : wordOkB k q.1 = true ∧ wordOkB k q.2 = true) (hne : ¬ nfC R q.1 = nfC R q.2) (h8 : ¬ 8 < (orF2 (nfC R q.1) (nfC R q.2)).1.size) : NewR k (orF2 (nfC R q.1) (nfC R q.2)) := by
  have h1 := nfC_word hs.weak hq.1
  have h2 := nfC_word hs.weak hq.2
  have h3 := orF2_less hne
  rcases orF2_cases (nfC R q.1) (nfC R q.2) with e | e <;> rw [e] at h3 h8 ⊢
  · exact ⟨h2, h1, h3, by omega⟩
  · exact ⟨h1, h2, h3, by omega⟩
/-- a turn that ends well leaves what a completion may go on from -/
theorem WorkP.turn {k : Int} {R Q : List RulD} {T : Nat} (h : WorkP k R Q T) (hc : (turnF R Q T).1 = 0) : WorkP k (turnF R Q T).2.1 (turnF R Q T).2.2.1 (turnF R Q T).2.2.2 := by
  cases Q with
  | nil => exact h
  | cons q Qt =>
    have hq := h.word q List.mem_cons_self
    have hf := h.few
    simp only [List.length_cons] at hf
    have ht := h.turns
    unfold turnF at hc ⊢
    simp only at hc ⊢
    by_cases c1 : T = 200
    · rw [if_pos c1] at hc; cases hc
    rw [if_neg c1] at hc ⊢
    by_cases c2 : nfC R q.1 = nfC R q.2
    · rw [if_pos c2]
      exact ⟨h.sys, by show Qt.length ≤ 400; omega, fun p hp => h.word p (List.mem_cons_of_mem _ hp), by show T + 1 ≤ 200; omega⟩
    rw [if_neg c2] at hc ⊢
    by_cases c3 : 8 < (orF2 (nfC R q.1) (nfC R q.2)).1.size
    · rw [if_pos c3] at hc; cases hc
    rw [if_neg c3] at hc ⊢
    by_cases c4 : 12 < (nextF R (orF2 (nfC R q.1) (nfC R q.2))).length
    · rw [if_pos c4] at hc; cases hc
    rw [if_neg c4] at hc ⊢
    by_cases c5 : 400 < (Qt ++ goneF R (orF2 (nfC R q.1) (nfC R q.2)).1 ++ newQ (nextF R (orF2 (nfC R q.1) (nfC R q.2)))).length
    · rw [if_pos c5] at hc; cases hc
    rw [if_neg c5]
    have hr := orF2_new h.sys hq c2 c3
    have hs2 := nextF_sys h.sys hr c4
    refine ⟨hs2, Nat.not_lt.1 c5, fun p hp => ?_, by show T + 1 ≤ 200; omega⟩
    rcases List.mem_append.1 hp with hp | hp
    · rcases List.mem_append.1 hp with hp | hp
      · exact h.word p (List.mem_cons_of_mem _ hp)
      · exact (h.sys.1.2 p ((List.mem_filter.1 hp).1)).1.1
    · exact newQ_word hs2 p hp
/-- a completion: turns one after the other, until no equation is left or a turn fails -/
inductive RunIs : List RulD → List RulD → Nat → Nat → List RulD → List RulD → Nat → Prop
  | done {R : List RulD} {T : Nat} : RunIs R [] T 0 R [] T
  | fail {R Q : List RulD} {T : Nat} : Q ≠ [] → (turnF R Q T).1 ≠ 0 → RunIs R Q T (turnF R Q T).1 R Q T
  | step {R Q : List RulD} {T c : Nat} {R' Q' : List RulD} {T' : Nat} : Q ≠ [] → (turnF R Q T).1 = 0 → RunIs (turnF R Q T).2.1 (turnF R Q T).2.2.1 (turnF R Q T).2.2.2 c R' Q' T' → RunIs R Q T c R' Q' T'
theorem RunIs.uniq {R Q : List RulD} {T c1 c2 : Nat} {R1 R2 Q1 Q2 : List RulD} {T1 T2 : Nat} (a : RunIs R Q T c1 R1 Q1 T1) (b : RunIs R Q T c2 R2 Q2 T2) : c1 = c2 ∧ R1 = R2 ∧ Q1 = Q2 ∧ T1 = T2 := by
  induction a generalizing c2 R2 Q2 T2 with
  | done =>
    cases b with
    | done => exact ⟨rfl, rfl, rfl, rfl⟩
    | fail h _ => exact absurd rfl h
    | step h _ _ => exact absurd rfl h
  | fail h1 h2 =>
    cases b with
    | done => exact absurd rfl h1
    | fail _ _ => exact ⟨rfl, rfl, rfl, rfl⟩
    | step _ h3 _ => exact absurd h3 h2
  | step h1 h2 _ ih =>
    cases b with
    | done => exact absurd rfl h1
    | fail _ h3 => exact absurd h2 h3
    | step _ _ b => exact ih b
end Go.Proofs.YtgoeadgpbidgiaaGreat
namespace Go.Proofs.YtgoeadgpbidgiaaGreat
open Go.RowKit
set_option linter.unusedVariables false
/-- a word with each letter behind it -/
def exts (v : ByteArray) (x : Nat) : List ByteArray := (List.range x).map fun x => v ++ letterN x
def longer (k : Nat) (l : List ByteArray) : List ByteArray := l.flatMap fun v => exts v k
def longTo (k : Nat) (l : List ByteArray) (j : Nat) : List ByteArray := (l.take j).flatMap fun v => exts v k
theorem exts_succ (v : ByteArray) (x : Nat) : exts v (x + 1) = exts v x ++ [v ++ letterN x] := by simp [exts, List.range_succ]
theorem exts_zero (v : ByteArray) : exts v 0 = [] := rfl
theorem exts_len (v : ByteArray) (x : Nat) : (exts v x).length = x := by simp [exts]
theorem longTo_zero (k : Nat) (l : List ByteArray) : longTo k l 0 = [] := by simp [longTo]
theorem longTo_succ {k : Nat} {l : List ByteArray} {j : Nat} (hj : j < l.length) : longTo k l (j + 1) = longTo k l j ++ exts (nthS l j) k := by
  unfold longTo
  rw [List.take_succ_eq_append_getElem hj, List.flatMap_append, nthS_lt hj]; simp
theorem longTo_full (k : Nat) (l : List ByteArray) : longTo k l l.length = longer k l := by unfold longTo longer; rw [List.take_length]
theorem longTo_len (k : Nat) (l : List ByteArray) : ∀ j, j ≤ l.length → (longTo k l j).length = j * k
  | 0, _ => by rw [longTo_zero]; simp
  | j + 1, h => by rw [longTo_succ (by omega), List.length_append, longTo_len k l j (by omega), exts_len, Nat.add_mul]; omega
/-- the words of a length -/
def lev (k : Nat) : Nat → List ByteArray
  | 0 => [⟨#[]⟩]
  | j + 1 => longer k (lev k j)
theorem lev_len (k : Nat) : ∀ j, (lev k j).length = k ^ j
  | 0 => rfl
  | j + 1 => by
    show (longer k (lev k j)).length = _
    rw [← longTo_full, longTo_len k _ _ (Nat.le_refl _), lev_len k j, Nat.pow_succ]
theorem lev_size (k : Nat) : ∀ j, ∀ v ∈ lev k j, v.size = j
  | 0, v, hv => by rw [List.mem_singleton.1 hv]; rfl
  | j + 1, v, hv => by
    obtain ⟨u, hu, hv⟩ := List.mem_flatMap.1 hv
    obtain ⟨x, _, rfl⟩ := List.mem_map.1 hv
    rw [ByteArray.size_append, lev_size k j u hu]; rfl
theorem pow_leU {k n : Nat} (hk : k ≤ 4) (hn : n ≤ 8) : k ^ n ≤ 65536 :=
  Nat.le_trans (Nat.pow_le_pow_left hk n) (Nat.le_trans (Nat.pow_le_pow_right (by omega) hn) (by decide))
theorem strVals_appU (l m : List ByteArray) : strVals (l ++ m) = strVals l ++ strVals m := by simp [strVals]
theorem strVals_oneU (v : ByteArray) : strVals [v] = [.string v] := rfl
set_option maxHeartbeats 2000000 in
theorem longerWords_any (k : Nat) (l : List ByteArray) (a : Option Addr) (cap : Nat) (w : World) (hl : StrsIn w a l) (hk : k ≤ 4) (hlen : l.length ≤ 65536) (hsz : ∀ v ∈ l, v.size ≤ 100) :
    Calls Tryz.prog 42 #[.int .i64 (k : Nat), .slice a l.length cap] w (RetSl 9 1 (longer k l).length (strVals (longer k l)) w) := by
  have HL := Lib.hid hl
  have HZ := Lib.hid hsz
  have hb0 := Below.refl w.heap.size w
  clear hl hsz
  go_enter Tryz.func42, Tryz.ntmps42
  go_wp2_with fail
  have HS : Hid (Bld 9 1 w w (.slice none 0 0) (longTo k l 0).length (strVals (longTo k l 0))) := Lib.hid (by rw [longTo_zero]; exact Bld.nil _ _ hb0)
  clear hb0
  go_loopw [5, 11] (fun v i wr => ∃ j : Nat, j ≤ l.length ∧ i = .int .i64 j ∧ Bld 9 1 w wr v (longTo k l j).length (strVals (longTo k l j))) (fun _ i _ => l.length - (intOf i).toNat)
  case atStart => exact ⟨0, Nat.zero_le _, rfl, HS.out⟩
  case round =>
    clear HS
    obtain ⟨j, hj, rfl, hb⟩ := hrel
    have hle := longTo_len k l j hj
    have hjk : j * k ≤ 262144 := Nat.le_trans (Nat.mul_le_mul (Nat.le_trans hj hlen) hk) (by decide)
    have HB := Lib.hid hb
    clear hb
    by_cases hlt : j < l.length
    · have hcell : ∃ b off, a = some ⟨b, off, none⟩ ∧ wr.cell? ⟨b, off + j, none⟩ = some (.string (nthS l j)) := by
        rcases HL.out.later HB.out.2 with h | ⟨b, off, ha, hc⟩
        · have : l = [] := by simpa using h
          subst this; simp at hlt
        · exact ⟨b, off, ha, by rw [hc j (by simpa using hlt), List.getElem_map, nthS_lt hlt]⟩
      obtain ⟨b, off, rfl, hc⟩ := hcell
      have hvs : (nthS l j).size ≤ 100 := HZ.out _ (by rw [nthS_lt hlt]; exact List.getElem_mem _)
      have HX := Lib.hid (longTo_succ (k := k) hlt)
      have hB0 := HB.out
      rw [show longTo k l j = longTo k l j ++ exts (nthS l j) 0 by rw [exts_zero, List.append_nil]] at hB0
      have HB0 := Lib.hid hB0
      clear hB0
      generalize nthS l j = v at *
      generalize hq : longTo k l j = q at *
      clear hq
      go_wp2_with fail
      clear hc HB
      go_loopw [5, 16] (fun u i wr => ∃ x : Nat, x ≤ k ∧ i = .int .i64 x ∧ Bld 9 1 w wr u (q ++ exts v x).length (strVals (q ++ exts v x))) (fun _ i _ => k - (intOf i).toNat)
      case atStart => exact ⟨0, Nat.zero_le _, rfl, HB0.out⟩
      case round =>
        clear HB0
        obtain ⟨x, hx, rfl, hb⟩ := hrel
        have hll : (q ++ exts v x).length ≤ 262148 := by rw [List.length_append, exts_len]; omega
        have HB := Lib.hid hb
        have HY : Hid (q ++ exts v (x + 1) = (q ++ exts v x) ++ [v ++ letterN x]) := Lib.hid (by rw [exts_succ, List.append_assoc])
        have HFin : Hid (x = k → longTo k l (j + 1) = q ++ exts v x) := Lib.hid (fun h => by rw [HX.out, h])
        clear hb
        generalize q ++ exts v x = r at *
        by_cases hxk : x < k
        · have hsum : ¬ 9223372036854775807 < v.size + (letterN x).size := by rw [letterN_size]; omega
          have HLe := Lib.hid (fun W => letterOf_any x W (by omega))
          generalize letterN x = y at *
          go_wp2_with fail
          refine (HLe.out _).mono ?_
          rintro e w2 ⟨rfl, hb2⟩
          have HB2 := Lib.hid (HB.out.later hb2)
          clear hb2
          go_wp2_with (at_builtin; refine wpList_app1 rfl _ _ rfl Tryz.underlying32 Tryz.infoStr rfl (by decide) rfl HB2.out rfl rfl ?c1 ?c2 ?c3 ?c4)
          case c1 => simp [Value.oneCell']
          case c2 => unfold maxLen; omega
          case c3 => omega
          intro v3 w3 hb3
          have F3 : Hid (Bld 9 1 w w3 v3 (q ++ exts v (x + 1)).length (strVals (q ++ exts v (x + 1)))) := Lib.hid (by
            rw [HY.out, List.length_append, strVals_appU, strVals_oneU]; exact hb3)
          clear hb3 hsum
          go_wp2_with fail
          go_roundw
          case rel => exact ⟨x + 1, by omega, by go_num, F3.out⟩
          case measure => simp [intOf]; omega
        · have F3 := Lib.hid (HFin.out (by omega))
          go_wp2_with fail
          go_roundw
          case rel => exact ⟨j + 1, by omega, by go_num, by rw [F3.out]; exact HB.out⟩
          case measure => simp [intOf]; omega
    · obtain rfl : j = l.length := by omega
      have F : Hid (∀ u wr, Bld 9 1 w wr u (longTo k l l.length).length (strVals (longTo k l l.length)) → RetSl 9 1 (longer k l).length (strVals (longer k l)) w (.returned u) wr) := Lib.hid (fun u wr h => by rw [longTo_full] at h; exact h.ret)
      have F2 := Lib.hid (F.out _ _ HB.out)
      obtain ⟨va, vc, rfl⟩ := owns_form HB.out.1
      clear hle
      go_wp2_with fail
      go_ret
      exact F2.out
def up (k : Nat) : Nat → List ByteArray
  | 0 => lev k 0
  | j + 1 => up k j ++ lev k (j + 1)
theorem up_succ (k j : Nat) : up k (j + 1) = up k j ++ lev k (j + 1) := rfl
theorem up_len {k : Nat} (hk : k ≤ 4) : ∀ j, j ≤ 8 → (up k j).length ≤ (j + 1) * 65536
  | 0, _ => by show (lev k 0).length ≤ _; rw [lev_len]; simp
  | j + 1, h => by
    rw [up_succ, List.length_append, lev_len]
    have := up_len hk j (by omega)
    have := pow_leU hk h
    omega
theorem up_size (k : Nat) : ∀ j, ∀ v ∈ up k j, v.size ≤ j
  | 0, v, hv => by have := lev_size k 0 v hv; omega
  | j + 1, v, hv => by
    rw [up_succ] at hv
    rcases List.mem_append.1 hv with hv | hv
    · have := up_size k j v hv; omega
    · have := lev_size k (j + 1) v hv; omega
set_option maxRecDepth 20000 in
set_option maxHeartbeats 2000000 in
theorem wordsUpTo_any (k n : Nat) (w : World) (hk : k ≤ 4) (hn : n ≤ 8) :
    Calls Tryz.prog 19 #[.int .i64 (k : Nat), .int .i64 (n : Nat)] w (RetSl 9 1 (up k n).length (strVals (up k n)) w) := by
  go_enter Tryz.func19, Tryz.ntmps19
  go_wp2_with fail
  have hB1 : Bld 9 1 w ((w.alloc (.cells #[.string ⟨#[]⟩] 9)).alloc (.cells #[.string ⟨#[]⟩] 9)) (.slice (some ⟨w.heap.size + 1, 0, none⟩) 1 1) (up k 0).length (strVals (up k 0)) := by
    have h1 : Below w.heap.size w (w.alloc (.cells #[.string ⟨#[]⟩] 9)) := (Below.refl _ _).alloc (Nat.le_refl _) _
    have h2 := World.ownsRow_lit (e := 9) (size := 1) (w.alloc (.cells #[.string ⟨#[]⟩] 9)) #[.string ⟨#[]⟩] 1 (Nat.le_refl _) (by unfold maxLen; omega) rfl
    rw [alloc_size] at h2
    exact ⟨owns_mono h2 (by omega), Below.now h1 ((Below.refl _ _).alloc (Nat.le_refl _) _)⟩
  have hL1 : StrsIn ((w.alloc (.cells #[.string ⟨#[]⟩] 9)).alloc (.cells #[.string ⟨#[]⟩] 9)) (some ⟨w.heap.size, 0, none⟩) (lev k 0) := by
    refine .inr ⟨_, _, rfl, fun i hi => ?_⟩
    obtain rfl : i = 0 := by simp [lev] at hi; omega
    have h1 := two_lo w (.cells #[.string ⟨#[]⟩] 9) (.cells #[.string ⟨#[]⟩] 9)
    simp [World.cell?, h1, lev]
  have HB1 := Lib.hid hB1
  have HL1 := Lib.hid hL1
  clear hB1 hL1
  go_loopw [5, 6, 10] (fun lv u i wr => ∃ (j : Nat) (a : Option Addr) (c : Nat), j ≤ n ∧ i = .int .i64 j ∧ lv = .slice a (lev k j).length c ∧ StrsIn wr a (lev k j) ∧ Bld 9 1 w wr u (up k j).length (strVals (up k j))) (fun _ _ i _ => n - (intOf i).toNat)
  case atStart => exact ⟨0, some ⟨w.heap.size, 0, none⟩, 1, Nat.zero_le _, rfl, rfl, HL1.out, HB1.out⟩
  case round =>
    clear HB1 HL1
    obtain ⟨j, a, c, hj, rfl, rfl, hs, hb⟩ := hrel
    have HB := Lib.hid hb
    have hul := up_len hk j (by omega)
    have hpl := pow_leU hk (show j ≤ 8 by omega)
    have HC : Hid (∀ W, Below wr.heap.size wr W → Calls Tryz.prog 42 #[.int .i64 (k : Nat), .slice a (lev k j).length c] W (RetSl 9 1 (lev k (j + 1)).length (strVals (lev k (j + 1))) W)) := Lib.hid (fun W hW => longerWords_any k (lev k j) a c W (hs.later hW) hk (by rw [lev_len]; exact hpl) (fun v hv => by have := lev_size k j v hv; omega))
    clear hs hb
    by_cases hlt : j < n
    · have hpl2 := pow_leU hk (show j + 1 ≤ 8 by omega)
      have HLL := Lib.hid (lev_len k (j + 1))
      have HU := Lib.hid (up_succ k j)
      obtain ⟨ua, uc, rfl⟩ := owns_form HB.out.1
      go_wp2_with fail
      refine (HC.out _ (Below.refl _ _)).mono ?_
      rintro e w3 ⟨a3, c3, rfl, ho3, hb3⟩
      have HO3 := Lib.hid ho3
      have HB3 := Lib.hid (HB.out.later hb3)
      have HS3 := Lib.hid (Src.of_owns ho3)
      have hfar : ∀ q, (Value.slice a3 (lev k (j + 1)).length c3).ownBlock = some q → (Value.slice ua (up k j).length uc).ownBlock ≠ some q := fun q hq e => by
        have h1 := (ho3.lt q hq).1
        have h2 := (HB.out.1.lt q e).2
        omega
      have HFR := Lib.hid hfar
      have N1 : Hid ((strVals (lev k (j + 1))).length = (lev k (j + 1)).length * 1) := Lib.hid (by simp [strVals])
      have N2 : Hid (∀ u ∈ strVals (lev k (j + 1)), u.oneCell' = true) := Lib.hid (fun u hu => by obtain ⟨x, _, rfl⟩ := List.mem_map.1 hu; rfl)
      have N3 : Hid ((up k j).length + (lev k (j + 1)).length ≤ maxLen) := Lib.hid (by rw [HLL.out]; unfold maxLen; omega)
      have N4 : Hid (((up k j).length + (lev k (j + 1)).length) * 16 ≤ 140737488355328) := Lib.hid (by rw [HLL.out]; omega)
      clear ho3 hb3 hfar HC hul hpl hpl2
      go_wp2_with (at_builtin; refine wpList_appM rfl (.tmp 15) (.tmp 16) rfl Tryz.underlying32 Tryz.infoStr rfl (by decide) rfl HB3.out rfl HS3.out N1.out N2.out N3.out N4.out ?c4)
      intro v4 w4 hb4 hg4 ho4
      have HB4 : Hid (Bld 9 1 w w4 v4 (up k (j + 1)).length (strVals (up k (j + 1)))) := Lib.hid (by
        rw [HU.out, List.length_append, strVals_appU]; exact hb4)
      have HS4 : Hid (StrsIn w4 a3 (lev k (j + 1))) := Lib.hid (owns_strsIn2 (HO3.out.kept hg4 (by
        cases hq : (Value.slice a3 (lev k (j + 1)).length c3).ownBlock with
        | none => exact .inl rfl
        | some q => exact .inr fun e => HFR.out q hq e.symm)))
      clear hb4 hg4 ho4
      go_wp2_with fail
      go_roundw
      case rel => exact ⟨j + 1, a3, c3, by omega, by go_num, rfl, HS4.out, HB4.out⟩
      case measure => simp [intOf]; omega
    · obtain rfl : j = n := by omega
      have F := Lib.hid HB.out.ret
      obtain ⟨ua, uc, rfl⟩ := owns_form HB.out.1
      go_wp2_with fail
      go_ret
      exact F.out
end Go.Proofs.YtgoeadgpbidgiaaGreat
namespace Go.Proofs.YtgoeadgpbidgiaaGreat
open Go.RowKit
set_option linter.unusedVariables false
/-- a link: a step, or a step back, to a word of at most n letters -/
def LinkL (R : List RulD) (n : Nat) (u v : List UInt8) : Prop := v.length ≤ n ∧ (Stp (SR R) u v ∨ Stp (SR R) v u)
inductive ReachL (R : List RulD) (n : Nat) (u : List UInt8) : List UInt8 → Prop
  | refl : ReachL R n u u
  | step {v x : List UInt8} : ReachL R n u v → LinkL R n v x → ReachL R n u x
theorem ReachL.trans {R : List RulD} {n : Nat} {u v x : List UInt8} (a : ReachL R n u v) (b : ReachL R n v x) : ReachL R n u x := by
  induction b with
  | refl => exact a
  | step _ l ih => exact .step ih l
theorem ReachL.len {R : List RulD} {n : Nat} {u v : List UInt8} (hu : u.length ≤ n) (h : ReachL R n u v) : v.length ≤ n := by
  cases h with
  | refl => exact hu
  | step _ l => exact l.1
theorem ReachL.symm {R : List RulD} {n : Nat} {u v : List UInt8} (hu : u.length ≤ n) (h : ReachL R n u v) : ReachL R n v u := by
  induction h with
  | refl => exact .refl
  | step r l ih => exact (ReachL.step .refl ⟨r.len hu, l.2.symm⟩).trans ih
theorem ReachL.red {R : List RulD} {n : Nat} (hd : Dwn (SR R)) {u v : List UInt8} (h : Red (SR R) u v) (hu : u.length ≤ n) : ReachL R n u v := by
  induction h with
  | refl => exact .refl
  | step s _ ih =>
    have h1 := wt_len (hd.stp s)
    exact (ReachL.step .refl ⟨by omega, .inl s⟩).trans (ih (by omega))
theorem stp_okLt {k : Int} {R : List RulD} (hs : rulesP k R) {u v : List UInt8} (h : Stp (SR R) u v) : okLt k u ↔ okLt k v := by
  obtain ⟨x, l, r, y, ⟨p, hp, rfl, rfl⟩, rfl, rfl⟩ := h
  have h1 := (hs.2 p hp).1.1
  have h2 := (wordOk_iff.1 h1.1).2.2
  have h3 := (wordOk_iff.1 h1.2).2.2
  constructor <;> intro h z hz <;> simp only [List.mem_append] at hz <;> rcases hz with hz | hz | hz
  · exact h z (by simp [hz])
  · exact h3 z hz
  · exact h z (by simp [hz])
  · exact h z (by simp [hz])
  · exact h2 z hz
  · exact h z (by simp [hz])
section
variable {k : Int} {R : List RulD} {n : Nat}
theorem stp_nf (hc : ComplP k R) {u v : ByteArray} (hu : wordOkB k u = true) (hv : wordOkB k v = true) (h : Stp (SR R) u.data.toList v.data.toList) : nfC R u = nfC R v :=
  comp_red hc (Red.one h) (nfC_is hc.1.weak hu) (nfC_is hc.1.weak hv)
theorem reach_word (hc : ComplP k R) (hn : n ≤ 16) {u : ByteArray} (hu : wordOkB k u = true) (hun : u.size ≤ n) {x : List UInt8} (h : ReachL R n u.data.toList x) :
    ∃ v : ByteArray, v.data.toList = x ∧ wordOkB k v = true ∧ v.size ≤ n ∧ nfC R v = nfC R u := by
  induction h with
  | refl => exact ⟨u, rfl, hu, hun, rfl⟩
  | @step a x r l ih =>
    obtain ⟨v, rfl, hv, hvn, hnf⟩ := ih
    have hx : (⟨x.toArray⟩ : ByteArray).data.toList = x := rfl
    have hxs : (⟨x.toArray⟩ : ByteArray).size ≤ n := l.1
    have hvi := wordOk_iff.1 hv
    have hxw : wordOkB k (⟨x.toArray⟩ : ByteArray) = true := wordOk_iff.2 ⟨hvi.1, by omega, by
      rw [hx]
      rcases l.2 with s | s
      · exact (stp_okLt hc.1.1 s).1 hvi.2.2
      · exact (stp_okLt hc.1.1 s).2 hvi.2.2⟩
    refine ⟨_, hx, hxw, hxs, ?_⟩
    rw [← hnf]
    rcases l.2 with s | s
    · exact (stp_nf hc hv hxw s).symm
    · exact stp_nf hc hxw hv s
theorem reach_iff (hc : ComplP k R) (hn : n ≤ 16) {u v : ByteArray} (hu : wordOkB k u = true) (hun : u.size ≤ n) :
    ReachL R n u.data.toList v.data.toList ↔ wordOkB k v = true ∧ v.size ≤ n ∧ nfC R v = nfC R u := by
  constructor
  · intro h
    obtain ⟨v', e, h1, h2, h3⟩ := reach_word hc hn hu hun h
    obtain rfl := ba_lists e
    exact ⟨h1, h2, h3⟩
  · rintro ⟨hv, hvn, e⟩
    have hd := sys_dwn hc.1
    have r1 := ReachL.red hd (nfC_red hc.1.weak hu).1 (n := n) hun
    have r2 := ReachL.red hd (nfC_red hc.1.weak hv).1 (n := n) hvn
    rw [e] at r2
    exact r1.trans (r2.symm hvn)
/-- no left side is in it -/
def irrB (R : List RulD) (v : ByteArray) : Bool := R.all fun p => !hasB v p.1
theorem irrB_iff (hne : ∀ r ∈ R, r.1.size ≠ 0) {v : ByteArray} : irrB R v = true ↔ Irr (SR R) v.data.toList := by
  unfold irrB
  rw [irr_iff, List.all_eq_true]
  constructor
  · intro h p hp x y e
    have h1 := h p hp
    rw [(hasB_iff (hne p hp)).2 ⟨x, y, e⟩] at h1
    cases h1
  · intro h p hp
    cases hb : hasB v p.1
    · rfl
    · obtain ⟨x, y, e⟩ := (hasB_iff (hne p hp)).1 hb
      exact absurd e (h p hp x y)
theorem irr_nf {x : List UInt8} (h : Irr (SR R) x) {y : List UInt8} (hr : Red (SR R) x y) : y = x := by
  cases hr with
  | refl => rfl
  | step s _ => exact absurd s (h _)
theorem nfC_self (hc : ComplP k R) {v : ByteArray} (hv : wordOkB k v = true) (h : Irr (SR R) v.data.toList) : nfC R v = v := ba_lists (irr_nf h (nfC_red hc.1.weak hv).1)
theorem exts_flat (v : ByteArray) (k : Nat) : exts v k = (List.range k).flatMap fun x => [v ++ letterN x] := by
  unfold exts
  exact List.map_eq_flatMap
theorem filter_flat {α β : Type} (p : β → Bool) (f : α → List β) (l : List α) : (l.flatMap f).filter p = l.flatMap fun a => (f a).filter p := by
  induction l with
  | nil => rfl
  | cons a l ih => simp only [List.flatMap_cons, List.filter_append, ih]
/-- the reduced words of a length among all -/
theorem lev_filter (hne : ∀ r ∈ R, r.1.size ≠ 0) (k : Nat) : ∀ m : Nat, (lev k m).filter (irrB R) = wordsF R k m ⟨#[]⟩
  | 0 => by
    have h : irrB R ⟨#[]⟩ = true := (irrB_iff hne).2 (irr_iff.2 fun p hp x y e => by
      have h1 := congrArg List.length e
      simp only [List.length_append] at h1
      have h2 : p.1.data.toList.length = p.1.size := rfl
      have := hne p hp
      simp at h1
      omega)
    show [(⟨#[]⟩ : ByteArray)].filter (irrB R) = [⟨#[]⟩]
    rw [List.filter_cons_of_pos h, List.filter_nil]
  | m + 1 => by
    rw [wordsF_step, ← lev_filter hne k m]
    show ((lev k m).flatMap fun v => exts v k).filter (irrB R) = _
    rw [filter_flat]
    have key : ∀ l : List ByteArray, (l.flatMap fun v => (exts v k).filter (irrB R)) = (l.filter (irrB R)).flatMap (stepW R k) := fun l => by
      induction l with
      | nil => rfl
      | cons v l ih =>
        rw [List.flatMap_cons, ih]
        cases hv : irrB R v
        · rw [List.filter_cons_of_neg (by simp [hv])]
          have : (exts v k).filter (irrB R) = [] := by
            rw [List.filter_eq_nil_iff]
            intro u hu h
            obtain ⟨x, _, rfl⟩ := List.mem_map.1 hu
            have h1 := (irrB_iff hne).1 h
            rw [app_lt] at h1
            have h2 := (irrB_iff hne).2 (irr_pre h1)
            rw [h2] at hv; cases hv
          rw [this, List.nil_append]
        · rw [List.filter_cons_of_pos hv, List.flatMap_cons]
          congr 1
          rw [exts_flat, filter_flat]
          unfold stepW
          congr 1
          funext x
          have h1 := (irrB_iff hne).1 hv
          split
          · rename_i hx
            rw [List.filter_cons_of_pos ((irrB_iff hne).2 (irr_snoc hne h1 hx)), List.filter_nil]
          · rename_i hx
            rw [List.filter_cons_of_neg (fun h => hx (okX_irr ((irrB_iff hne).1 h))), List.filter_nil]
    exact key _
theorem lev_words (k m : Nat) : lev k m = wordsF [] k m ⟨#[]⟩ := by
  rw [← lev_filter (R := []) (fun r hr => by cases hr) k m]
  have : irrB [] = fun _ => true := by funext v; rfl
  rw [this]
  exact (List.filter_eq_self.2 (fun _ _ => rfl)).symm
theorem ltB_wt {a b : ByteArray} (hs : a.size = b.size) (h : ltB a b = true) : wt a.data.toList < wt b.data.toList := by
  have h1 : lessS a b = true := by rw [lessS_same hs, Lib.toList_data, Lib.toList_data]; exact h
  exact lessS_wt h1
/-- all words rise -/
theorem up_rise {k : Nat} (hk : k ≤ 4) : ∀ n : Nat, (up k n).Pairwise fun a b => wt a.data.toList < wt b.data.toList
  | 0 => List.pairwise_singleton _ _
  | n + 1 => by
    rw [up_succ, List.pairwise_append]
    refine ⟨up_rise hk n, ?_, fun a ha b hb => ?_⟩
    · have h := wordsF_rise (R := []) hk (n + 1) ⟨#[]⟩
      rw [← lev_words] at h
      exact h.imp_of_mem fun ha hb h => ltB_wt (by rw [lev_size k _ _ ha, lev_size k _ _ hb]) h
    · exact wt_short (by
        have h1 := up_size k n a ha
        have h2 := lev_size k _ b hb
        have e1 : a.data.toList.length = a.size := rfl
        have e2 : b.data.toList.length = b.size := rfl
        omega)
theorem mem_lev {k : Nat} (hk : k ≤ 4) {m : Nat} {v : ByteArray} : v ∈ lev k m ↔ okLt (k : Int) v.data.toList ∧ v.size = m := by
  constructor
  · intro h
    refine ⟨?_, lev_size k m v h⟩
    rw [lev_words] at h
    exact wordsF_ok hk m _ (fun y hy => by cases hy) v h
  · rintro ⟨h, rfl⟩
    rw [lev_words]
    exact irr_wordsF (R := []) v.data.toList ⟨#[]⟩ v (let_lt97 h) (by simp) (irr_iff.2 fun p hp => by cases hp)
theorem mem_up {k : Nat} (hk : k ≤ 4) {n : Nat} {v : ByteArray} : v ∈ up k n ↔ okLt (k : Int) v.data.toList ∧ v.size ≤ n := by
  induction n with
  | zero => exact (mem_lev hk).trans ⟨fun h => ⟨h.1, by omega⟩, fun h => ⟨h.1, by omega⟩⟩
  | succ n ih =>
    rw [up_succ, List.mem_append, ih, mem_lev hk]
    constructor
    · rintro (h | h)
      · exact ⟨h.1, by omega⟩
      · exact ⟨h.1, by omega⟩
    · rintro ⟨h1, h2⟩
      by_cases h : v.size = n + 1
      · exact .inr ⟨h1, h⟩
      · exact .inl ⟨h1, by omega⟩
end
theorem red_cases {E : Rs} {u v : List UInt8} (h : Red E u v) : v = u ∨ ∃ x, Stp E u x ∧ Red E x v := by
  cases h with
  | refl => exact .inl rfl
  | step s r => exact .inr ⟨_, s, r⟩
/-- the words that were met are those of the classes of the first j words -/
def MetW (k : Int) (R : List RulD) (n : Nat) (L : List ByteArray) (j : Nat) (S : List ByteArray) : Prop := ∀ v, v ∈ S ↔ wordOkB k v = true ∧ v.size ≤ n ∧ ∃ i, i < j ∧ i < L.length ∧ nfC R (nthS L i) = nfC R v
/-- the next word is met exactly if it isn't reduced -/
theorem met_irr {k : Nat} {R : List RulD} {n j : Nat} (hc : ComplP (k : Int) R) (hn : n ≤ 16) {S : List ByteArray} (hS : MetW (k : Int) R n (up k n) j S) (hj : j < (up k n).length) : nthS (up k n) j ∈ S ↔ irrB R (nthS (up k n) j) = false := by
  have hk14 := hc.1.1.1.1
  have hk4 : k ≤ 4 := by omega
  have hne := sys_ne hc.1.1
  have hP := up_rise hk4 n
  have hmem : nthS (up k n) j ∈ up k n := nth_mem hj
  have okOf : ∀ {v : ByteArray}, v ∈ up k n → wordOkB (k : Int) v = true ∧ v.size ≤ n := fun {v} hv => by
    obtain ⟨h1, h2⟩ := (mem_up hk4).1 hv
    exact ⟨wordOk_iff.2 ⟨hk14, by omega, h1⟩, h2⟩
  obtain ⟨hw, hwn⟩ := okOf hmem
  have lt_of : ∀ {a b : Nat}, a < b → b < (up k n).length → wt (nthS (up k n) a).data.toList < wt (nthS (up k n) b).data.toList := fun {a b} hab hb => by
    rw [nthS_lt hb, nthS_lt (by omega)]
    exact List.pairwise_iff_getElem.1 hP a b (by omega) hb hab
  rw [hS, Bool.eq_false_iff]
  constructor
  · rintro ⟨_, _, i, hi, hil, e⟩ hirr
    have h1 := nfC_self hc hw ((irrB_iff hne).1 hirr)
    rw [h1] at e
    have h2 := (okOf (nth_mem hil)).1
    have h3 := nfC_le hc.1.weak h2
    rw [e] at h3
    have h4 := lt_of hi hj
    omega
  · intro hirr
    refine ⟨hw, hwn, ?_⟩
    have hr := nfC_red hc.1.weak hw
    have hnw := nfC_word hc.1.weak hw
    have hd := sys_dwn hc.1
    have hlt : wt (nfC R (nthS (up k n) j)).data.toList < wt (nthS (up k n) j).data.toList := by
      have h1 := hr.1.le hd
      have h2 := hr.2
      rcases red_cases hr.1 with h3 | ⟨x, s, r2⟩
      · rw [h3] at h2
        exact absurd ((irrB_iff hne).2 h2) hirr
      · have h3 := hd.stp s
        have h4 := r2.le hd
        omega
    have hnn : (nfC R (nthS (up k n) j)).size ≤ n := by
      have h1 := wt_len hlt
      have e1 : (nfC R (nthS (up k n) j)).data.toList.length = (nfC R (nthS (up k n) j)).size := rfl
      have e2 : (nthS (up k n) j).data.toList.length = (nthS (up k n) j).size := rfl
      omega
    have hm := (mem_up hk4).2 ⟨(wordOk_iff.1 hnw).2.2, hnn⟩
    obtain ⟨i, hi, e⟩ := List.getElem_of_mem hm
    rw [← nthS_lt hi] at e
    have hij : i < j := by
      refine Nat.lt_of_not_le fun hle => ?_
      rcases Nat.lt_or_eq_of_le hle with h | h
      · have := lt_of h hi
        rw [e] at this; omega
      · subst h
        have h2 : wt (nthS (up k n) j).data.toList = wt (nfC R (nthS (up k n) j)).data.toList := congrArg (fun v : ByteArray => wt v.data.toList) e
        omega
    exact ⟨i, hij, hi, by rw [e]; exact nfC_self hc hnw hr.2⟩
/-- the classes among the first j words -/
def clsTo (R : List RulD) (L : List ByteArray) (j : Nat) : Nat := ((L.take j).filter (irrB R)).length
theorem clsTo_succ {R : List RulD} {L : List ByteArray} {j : Nat} (h : j < L.length) : clsTo R L (j + 1) = clsTo R L j + (if irrB R (nthS L j) = true then 1 else 0) := by
  unfold clsTo
  rw [List.take_succ_eq_append_getElem h, List.filter_append, List.length_append, nthS_lt h]
  congr 1
  cases hb : irrB R L[j]
  · rw [List.filter_cons_of_neg (by simp [hb])]; rfl
  · rw [List.filter_cons_of_pos hb]; rfl
/-- all of them: the sum of the growth -/
theorem clsTo_all {R : List RulD} (hne : ∀ r ∈ R, r.1.size ≠ 0) (hL : LeftsP R) (k : Nat) : ∀ n : Nat, ((clsTo R (up k n) (up k n).length : Nat) : Int) = (growL R k n).sum
  | 0 => by
    have h := wordsF_len hL k 0 ⟨#[]⟩
    rw [← lev_filter hne k 0] at h
    unfold clsTo
    rw [List.take_length]
    show ((((lev k 0).filter (irrB R)).length : Nat) : Int) = _
    rw [h]
    simp [growL]
  | n + 1 => by
    have h := wordsF_len hL k (n + 1) ⟨#[]⟩
    rw [← lev_filter hne k (n + 1)] at h
    have ih := clsTo_all hne hL k n
    unfold clsTo at ih ⊢
    rw [List.take_length] at ih ⊢
    rw [up_succ, List.filter_append, List.length_append, h, growL_succ, List.sum_append, ← ih]
    simp
end Go.Proofs.YtgoeadgpbidgiaaGreat
