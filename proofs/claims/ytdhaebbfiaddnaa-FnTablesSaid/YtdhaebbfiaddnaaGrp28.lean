/-
  Sorting and collecting a list of integers of the call's own.
-/
import Derived.Test.YtdhaebbfiaddnaaGrp27
import Derived.Test.YtdhaebbfiaddnaaGrp24
import Derived.Test.YtdhaebbfiaddnaaGrp23
import Derived.Test.YtdhaebbfiaddnaaGrp01
import Derived.Test.YtdhaebbfiaddnaaGrp05
import Derived.Test.YtdhaebbfiaddnaaGrp26
import Derived.Test.YtdhaebbfiaddnaaGrp02
import Derived.Sort.OwnSortedInts
namespace Go.Proofs.Ytdhaebbfiaddnaa
open Go.RowKit
set_option linter.unusedVariables false
set_option maxHeartbeats 400000 in
theorem has_any (m : Nat) (i : Int) (v : Value) (w : World) (hm0 : 1 ≤ m) (hm : m ≤ 40) :
    Calls Try.prog 18 #[.agg #[.int .i64 m, v], .int .i64 i] w fun e w' => e = .returned (.bool (inB i 0 ((m : Int) - 1))) ∧ Below w.heap.size w w' := by
  go_enter Try.func18, Try.ntmps18
  go_wp2_with fail
  refine (within_any _ _ _ _).mono ?_
  rintro e w2 ⟨rfl, rfl⟩
  go_wp2_with fail
  go_ret
  exact ⟨rfl, (Below.refl _ _).alloc (Nat.le_refl _) _⟩
theorem owns_capZ {w : World} {base : Nat} {T : TypeId} {size : Nat} {a : Option Addr} {n m cap : Nat} {xs : List Value} (h : w.ownsRow base T size (.slice a n cap) m xs) : n ≤ cap ∧ cap ≤ maxLen := by
  rcases h.2 with ⟨hv, h0⟩ | ⟨g, cap', cur, hv, hb, hg, hn, hc, r⟩
  · simp only [Value.slice.injEq] at hv
    obtain ⟨_, rfl, rfl⟩ := hv
    exact ⟨Nat.le_refl _, Nat.zero_le _⟩
  · simp only [Value.slice.injEq] at hv
    obtain ⟨_, rfl, rfl⟩ := hv
    exact ⟨hn, hc⟩
def eqZ (x : Int) : Int → Bool := fun y => x == y
theorem eqZ_def (x y : Int) : (x == y) = eqZ x y := rfl
/-- a row of a table -/
def rowZ (m : Nat) (ln : List Nat) (i : Nat) : List Int := (List.range m).map fun k => ((tm m ln i k : Nat) : Int)
theorem rowZ_len (m : Nat) (ln : List Nat) (i : Nat) : (rowZ m ln i).length = m := by simp [rowZ]
theorem rowZ_at {m : Nat} {ln : List Nat} {i k : Nat} (h : k < m) : nthZ (rowZ m ln i) k = ((tm m ln i k : Nat) : Int) := by
  rw [nthZ_lt (by rw [rowZ_len]; exact h)]; simp [rowZ]
theorem row_in {m : Nat} {ln : List Nat} {i : Nat} (hT : Tb m ln) (hi : i < m) {w : World} {b off : Nat} (hc : ∀ i k, i < m → k < m → w.cell? ⟨b, off + (i * m + k), none⟩ = some (.int .i64 (tm m ln i k : Nat))) : IntsIn w (some ⟨b, off + i * m, none⟩) (rowZ m ln i) := by
  right
  refine ⟨b, off + i * m, rfl, fun k hk => ?_⟩
  have hk' : k < m := by simpa [rowZ] using hk
  have := hc i k hi hk'
  rw [← Nat.add_assoc] at this
  rw [this]
  simp [rowZ]
theorem idx_inv {m : Nat} {ln : List Nat} (h : Grp m ln) {i : Nat} (hi : i < m) : idxZ (eqZ 0) (rowZ m ln i) = invF m ln i := by
  obtain ⟨k, hk, e1, e2, e3⟩ := h.inv hi
  rw [e3]
  refine idxZ_at (j := k) (fun z hz => ?_) (by rw [rowZ_len]; exact hk) ?_
  · rw [rowZ_at (by omega)]
    cases hb : eqZ 0 ((tm m ln i z : Nat) : Int)
    · rfl
    · have e : tm m ln i z = 0 := by simp [eqZ] at hb; omega
      have := (h.right_inv hi (by omega) e).2
      rw [e3] at this
      omega
  · rw [rowZ_at hk, e1]; rfl
set_option maxHeartbeats 400000 in
theorem power_any (m : Nat) (ln : List Nat) (a : Option Addr) (len cap i n : Nat) (w : World) (hl : NatsIn w a ln) (hT : Tb m ln) (hlen : len = m * m) (hi : i < m) (hn : n ≤ 1000) :
    Calls Try.prog 21 #[.agg #[.int .i64 m, .slice a len cap], .int .i64 i, .int .i64 n] w fun e w' => e = .returned (.int .i64 ((pw m ln i n : Nat) : Int)) ∧ Below w.heap.size w w' := by
  have HT := Lib.hid hT
  have HL := Lib.hid hlen
  have HN := Lib.hid hl
  have hm := hT.hi
  clear hl hT hlen
  go_enter Try.func21, Try.ntmps21
  go_wp2_with fail
  obtain ⟨w1, hw1⟩ : ∃ w1, w1 = w.alloc (.cells #[.int .i64 (m : Nat), .slice a len cap] 25) := ⟨_, rfl⟩
  have hb1 : Below w.heap.size w w1 := by rw [hw1]; exact (Below.refl _ _).alloc (Nat.le_refl _) _
  have hx0 : ∀ W, Below w1.heap.size w1 W → W.cell? ⟨w.heap.size, 0, none⟩ = some (.int .i64 (m : Nat)) := fun W hW => by rw [hW.cell (by rw [hw1]; simp), hw1]; simp
  have hx1 : ∀ W, Below w1.heap.size w1 W → W.cell? ⟨w.heap.size, 1, none⟩ = some (.slice a len cap) := fun W hW => by rw [hW.cell (by rw [hw1]; simp), hw1]; simp
  have HN1 : Hid (∀ W, Below w1.heap.size w1 W → NatsIn W a ln) := fun W hW => (HN.out.later hb1).later hW
  rw [← hw1]
  have HB := Lib.hid hb1
  have hb0 := Below.refl w1.heap.size w1
  clear hw1 hb1 HN
  go_loopw [7, 9] (fun v i' wr => ∃ k : Nat, k ≤ n ∧ i' = .int .i64 k ∧ v = .int .i64 ((pw m ln i k : Nat) : Int) ∧ Below w1.heap.size w1 wr) (fun _ i' _ => n - (intOf i').toNat)
  case atStart => exact ⟨0, Nat.zero_le _, rfl, rfl, Below.refl _ _⟩
  case round =>
    clear hb0
    obtain ⟨k, hk, rfl, rfl, hbw⟩ := hrel
    have HS := Lib.hid (pw_succ m ln i k)
    have hp := HT.out.pw_lt hi k
    by_cases hlt : k < n
    · go_wp2_with fail
      refine (implTimes_any m ln a _ _ (pw m ln i k) i _ (HN1.out _ hbw) HT.out HL.out hp hi).mono ?_
      rintro e w2 ⟨rfl, hb2⟩
      replace hbw := Below.now hbw hb2
      clear hb2
      go_wp2_with fail
      go_roundw
      case rel => exact ⟨k + 1, by omega, by go_num, by rw [HS.out], hbw⟩
      case measure => simp [intOf]; omega
    · obtain rfl : k = n := by omega
      go_wp2_with fail
      go_ret
      exact ⟨rfl, Below.now HB.out hbw⟩
end Go.Proofs.Ytdhaebbfiaddnaa
namespace Go.Proofs.Ytdhaebbfiaddnaa
open Go.RowKit
set_option linter.unusedVariables false
/-- how often a number is in a list -/
def cntZ (l : List Int) (x : Int) : Nat := (l.filter fun y => decide (y = x)).length
def cntZTo (l : List Int) (x : Int) (j : Nat) : Nat := cntZ (l.take j) x
theorem cntZTo_le (l : List Int) (x : Int) (j : Nat) : cntZTo l x j ≤ l.length := Nat.le_trans (List.length_filter_le _ _) (by rw [List.length_take]; omega)
theorem cntZTo_succ {l : List Int} {x : Int} {j : Nat} (hj : j < l.length) : cntZTo l x (j + 1) = if nthZ l j = x then cntZTo l x j + 1 else cntZTo l x j := by
  unfold cntZTo cntZ
  rw [List.take_add_one, List.getElem?_eq_getElem hj, List.filter_append, List.length_append]
  have e : nthZ l j = l[j] := by unfold nthZ; rw [List.getD_eq_getElem?_getD, List.getElem?_eq_getElem hj]; rfl
  rw [e]
  by_cases h : l[j] = x
  · simp [h]
  · simp [h]
theorem cntZTo_all {l : List Int} {x : Int} {j : Nat} (hj : ¬ j < l.length) : cntZTo l x j = cntZ l x := by
  unfold cntZTo; rw [List.take_of_length_le (by omega)]
theorem cntZ_pos (l : List Int) (x : Int) : decide (0 < cntZ l x) = decide (x ∈ l) := by
  rw [decide_eq_decide]
  unfold cntZ
  rw [List.length_pos_iff_exists_mem]
  constructor
  · rintro ⟨y, hy⟩
    obtain ⟨h1, h2⟩ := List.mem_filter.1 hy
    rw [← of_decide_eq_true h2]; exact h1
  · intro h
    exact ⟨x, List.mem_filter.2 ⟨h, by simp⟩⟩
set_option maxHeartbeats 1000000 in
theorem lawSame_any (xs ys : List Int) (ax ay : Option Addr) (cx cy : Nat) (w : World) (hx : IntsIn w ax xs) (hy : IntsIn w ay ys) (hxl : xs.length ≤ 2 ^ 47) (hyl : ys.length ≤ 2 ^ 47) :
    Calls Try.prog 9 #[.slice ax xs.length cx, .slice ay ys.length cy] w fun e w' => e = .returned (.bool (decide (xs = ys))) ∧ w' = w := by
  have HX := Lib.hid hx
  have HY := Lib.hid hy
  clear hx hy
  cases hn : (((xs.length : Nat) : Int) != ((ys.length : Nat) : Int))
  rotate_left
  · have F : Hid (decide (xs = ys) = false) := Lib.hid (decide_eq_false (by rintro rfl; simp at hn))
    go_enter Try.func9, Try.ntmps9
    go_wp2_with fail
    go_ret
    exact ⟨ret_bool F.out.symm, rfl⟩
  have hxy : xs.length = ys.length := by simp at hn; omega
  have HE := Lib.hid hxy
  clear hxy
  go_enter Try.func9, Try.ntmps9
  go_wp2_with fail
  go_loop [14] (fun i => ∃ j : Nat, j ≤ xs.length ∧ i = .int .i64 (j : Nat) ∧ Hid (xs.take j = ys.take j)) (fun i => xs.length - (intOf i).toNat)
  case atStart => exact ⟨0, Nat.zero_le _, rfl, Lib.hid rfl⟩
  case round =>
    obtain ⟨j, hj, rfl, ht⟩ := hrel
    by_cases hlt : j < xs.length
    · have hlt2 : j < ys.length := by rw [← HE.out]; exact hlt
      obtain ⟨b, off, rfl, hb, hcell⟩ := HX.out.cell hlt
      obtain ⟨b2, off2, rfl, hb2, hcell2⟩ := HY.out.cell hlt2
      have h1 := hcell j hlt
      have h2 := hcell2 j hlt2
      have e1 : Hid (nthZ xs j = xs[j] ∧ nthZ ys j = ys[j]) := Lib.hid (by unfold nthZ; rw [List.getD_eq_getElem?_getD, List.getElem?_eq_getElem hlt, List.getD_eq_getElem?_getD, List.getElem?_eq_getElem hlt2]; exact ⟨rfl, rfl⟩)
      clear hcell hcell2
      cases hq : (nthZ xs j != nthZ ys j)
      · have F : Hid (xs.take (j + 1) = ys.take (j + 1)) := Lib.hid (by
          rw [List.take_add_one, List.take_add_one, ht.out, List.getElem?_eq_getElem hlt, List.getElem?_eq_getElem hlt2, ← e1.out.1, ← e1.out.2]
          have : nthZ xs j = nthZ ys j := by simpa using hq
          rw [this])
        go_wp2_with fail
        go_round
        case rel => exact ⟨j + 1, by omega, by go_num, F⟩
        case measure => simp [intOf]; omega
      · have F : Hid (decide (xs = ys) = false) := Lib.hid (decide_eq_false (by rintro rfl; simp at hq))
        go_wp2_with fail
        go_ret
        exact ⟨ret_bool F.out.symm, rfl⟩
    · have F : Hid (decide (xs = ys) = true) := Lib.hid (decide_eq_true (by
        have := ht.out
        rw [List.take_of_length_le (by omega), List.take_of_length_le (by rw [← HE.out]; omega)] at this
        exact this))
      go_wp2_with fail
      go_ret
      exact ⟨ret_bool F.out.symm, rfl⟩
end Go.Proofs.Ytdhaebbfiaddnaa
namespace Go.Proofs.Ytdhaebbfiaddnaa
open Go.RowKit
set_option linter.unusedVariables false
set_option linter.unusedSectionVars false
theorem nodup_leN : ∀ {l l' : List Nat}, l.Nodup → (∀ x ∈ l, x ∈ l') → l.length ≤ l'.length
  | [], _, _, _ => Nat.zero_le _
  | a :: l, l', h, hs => by
    rw [List.nodup_cons] at h
    have h1 : a ∈ l' := hs a List.mem_cons_self
    have h2 := nodup_leN (l := l) (l' := l'.erase a) h.2 (fun x hx => by
      have hne : x ≠ a := by rintro rfl; exact h.1 hx
      exact (List.mem_erase_of_ne hne).2 (hs x (List.mem_cons_of_mem _ hx)))
    have h3 := List.length_erase_of_mem h1
    have h4 := List.length_pos_of_mem h1
    simp only [List.length_cons]
    omega
theorem listTo_inj_le {f g : Nat → Bool} {m k : Nat} (φ : Nat → Nat) (h1 : ∀ x, x < m → f x = true → φ x < k ∧ g (φ x) = true) (h2 : ∀ x y, x < m → y < m → f x = true → f y = true → φ x = φ y → x = y) : (listTo f m).length ≤ (listTo g k).length := by
  unfold listTo
  rw [List.length_map, List.length_map]
  have e : ((List.range m).filter f).length = (((List.range m).filter f).map φ).length := by rw [List.length_map]
  rw [e]
  refine nodup_leN ?_ ?_
  · refine List.pairwise_map.2 ?_
    have hn : ((List.range m).filter f).Nodup := List.Pairwise.filter _ List.nodup_range
    refine List.Pairwise.imp_of_mem (fun {a b} ha hb hab he => hab ?_) hn
    have ha' := List.mem_filter.1 ha
    have hb' := List.mem_filter.1 hb
    exact h2 a b (List.mem_range.1 ha'.1) (List.mem_range.1 hb'.1) ha'.2 hb'.2 he
  · intro y hy
    obtain ⟨x, hx, rfl⟩ := List.mem_map.1 hy
    have hx' := List.mem_filter.1 hx
    have := h1 x (List.mem_range.1 hx'.1) hx'.2
    exact List.mem_filter.2 ⟨List.mem_range.2 this.1, this.2⟩
theorem listTo_true (m : Nat) : (listTo (fun _ => true) m).length = m := by
  unfold listTo
  rw [List.length_map, List.filter_eq_self.2 (fun _ _ => rfl), List.length_range]
/-- how many below m have the value y -/
def fibN (φ : Nat → Nat) (m y : Nat) : Nat := (listTo (fun x => decide (φ x = y)) m).length
theorem fib_succ (φ : Nat → Nat) (m y : Nat) : fibN φ (m + 1) y = fibN φ m y + if φ m = y then 1 else 0 := by
  unfold fibN
  by_cases h : φ m = y
  · rw [listTo_yes (by simpa using h), if_pos h]; simp
  · rw [listTo_no (by simpa using h), if_neg h]; rfl
theorem sum_one {v : Nat} : ∀ {q : Nat}, ((List.range q).map fun y => if v = y then 1 else 0).sum = if v < q then 1 else 0
  | 0 => by simp
  | q + 1 => by
    rw [List.range_succ, List.map_append, List.sum_append, sum_one (q := q)]
    simp only [List.map_cons, List.map_nil, List.sum_cons, List.sum_nil]
    split <;> split <;> split <;> omega
theorem sum_addN (f g : Nat → Nat) : ∀ l : List Nat, (l.map fun y => f y + g y).sum = (l.map f).sum + (l.map g).sum
  | [] => rfl
  | a :: l => by
    simp only [List.map_cons, List.sum_cons, sum_addN f g l]
    omega
theorem sum_none : ∀ l : List Nat, (l.map fun _ => 0).sum = 0
  | [] => rfl
  | a :: l => by simp only [List.map_cons, List.sum_cons, sum_none l]
theorem fib_sum {φ : Nat → Nat} {q : Nat} : ∀ {m : Nat}, (∀ x, x < m → φ x < q) → ((List.range q).map (fibN φ m)).sum = m
  | 0, _ => by
    have e : fibN φ 0 = fun _ => 0 := by funext y; simp [fibN, listTo]
    rw [e, sum_none]
  | m + 1, h => by
    have e : fibN φ (m + 1) = fun y => fibN φ m y + (fun y => if φ m = y then 1 else 0) y := by funext y; exact fib_succ φ m y
    rw [e, sum_addN, fib_sum (m := m) (fun x hx => h x (by omega)), sum_one, if_pos (h m (Nat.lt_succ_self m))]
theorem sum_even {img : Nat → Bool} {s : Nat} {f : Nat → Nat} : ∀ {q : Nat}, (∀ y, y < q → img y = true → f y = s) → (∀ y, y < q → img y = false → f y = 0) → ((List.range q).map f).sum = (listTo img q).length * s
  | 0, _, _ => by simp [listTo]
  | q + 1, h1, h0 => by
    rw [List.range_succ, List.map_append, List.sum_append, sum_even (fun y hy => h1 y (by omega)) (fun y hy => h0 y (by omega))]
    simp only [List.map_cons, List.map_nil, List.sum_cons, List.sum_nil]
    cases hi : img q
    · rw [listTo_no hi, h0 q (by omega) hi]; omega
    · rw [listTo_yes hi, h1 q (by omega) hi, List.length_append, List.length_singleton, Nat.add_mul]; omega
theorem fib_even {φ : Nat → Nat} {img : Nat → Bool} {s q m : Nat} (h : ∀ x, x < m → φ x < q) (h1 : ∀ y, y < q → img y = true → fibN φ m y = s) (h0 : ∀ y, y < q → img y = false → fibN φ m y = 0) : m = (listTo img q).length * s := by
  rw [← sum_even h1 h0, fib_sum h]
theorem fib_zero {φ : Nat → Nat} {m y : Nat} (h : ∀ x, x < m → φ x ≠ y) : fibN φ m y = 0 := by
  unfold fibN listTo
  rw [List.length_map, List.length_eq_zero_iff, List.filter_eq_nil_iff]
  intro x hx
  simpa using h x (List.mem_range.1 hx)
theorem mul_mod {a b c : Nat} (h : a = b * c) : a % c = 0 ∧ a % b = 0 := by subst h; simp
/-- the classes' numbers are all met -/
theorem num_onto (p : Nat → Nat → Bool) : ∀ c n, n < (numF p c).length → ∃ i, i < c ∧ numV p (numF p i) i = ((n : Nat) : Int)
  | 0, n, h => by simp [numF] at h
  | c + 1, n, h => by
    by_cases hq : numI p (numF p c) c < 0
    · rw [numF_no hq, List.length_append, List.length_singleton] at h
      by_cases hn : n < (numF p c).length
      · obtain ⟨i, hi, e⟩ := num_onto p c n hn
        exact ⟨i, by omega, e⟩
      · refine ⟨c, by omega, ?_⟩
        rw [numV_no hq]
        congr 1
        omega
    · rw [numF_yes hq] at h
      obtain ⟨i, hi, e⟩ := num_onto p c n h
      exact ⟨i, by omega, e⟩
theorem numF_mono (p : Nat → Nat → Bool) {a b : Nat} (h : a ≤ b) : (numF p a).length ≤ (numF p b).length := (numF_pre h).length_le
theorem numV_lt (p : Nat → Nat → Bool) {c i : Nat} (h : i < c) : 0 ≤ numV p (numF p i) i ∧ numV p (numF p i) i < ((numF p c).length : Nat) := by
  have h1 := numF_mono p (show i + 1 ≤ c from h)
  have h2 := numV_le (p := p) (F := numF p i) (j := i)
  refine ⟨numV_nn _ _ _, ?_⟩
  by_cases hq : numI p (numF p i) i < 0
  · rw [numF_no hq, List.length_append, List.length_singleton] at h1
    rw [numV_no hq]
    omega
  · rw [numV_yes hq]
    have h3 : (numI p (numF p i) i) < (((numF p i).length : Nat) : Int) := by
      unfold numI at hq ⊢
      cases hf : (numF p i).findIdx? (p i) with
      | none => simp only [hf] at hq; omega
      | some k =>
        have := (List.findIdx?_eq_some_iff_findIdx_eq.1 hf).1
        simp only
        omega
    have h4 := numF_mono p (show i ≤ c by omega)
    omega
theorem numF_congr {p q : Nat → Nat → Bool} {m : Nat} (h : ∀ i k, i < m → k < m → p i k = q i k) : ∀ c, c ≤ m → numF p c = numF q c
  | 0, _ => rfl
  | c + 1, hc => by
    have ih := numF_congr h c (by omega)
    rw [numF_succ, numF_succ, ih]
    have e : (numF q c).any (p c) = (numF q c).any (q c) := by
      rw [Bool.eq_iff_iff, List.any_eq_true, List.any_eq_true]
      constructor
      · rintro ⟨x, hx, h1⟩; have := numF_lt q c x hx; exact ⟨x, hx, by rw [← h c x (by omega) (by omega)]; exact h1⟩
      · rintro ⟨x, hx, h1⟩; have := numF_lt q c x hx; exact ⟨x, hx, by rw [h c x (by omega) (by omega)]; exact h1⟩
    rw [e]
theorem findIdx_congr {α : Type} {p q : α → Bool} : ∀ {l : List α}, (∀ x ∈ l, p x = q x) → l.findIdx? p = l.findIdx? q
  | [], _ => rfl
  | a :: l, h => by
    rw [List.findIdx?_cons, List.findIdx?_cons, h a List.mem_cons_self, findIdx_congr (l := l) fun x hx => h x (List.mem_cons_of_mem _ hx)]
theorem numO_congr {p q : Nat → Nat → Bool} {m : Nat} (h : ∀ i k, i < m → k < m → p i k = q i k) : numO p m = numO q m := by
  unfold numO
  refine List.map_congr_left fun j hj => ?_
  have hj := List.mem_range.1 hj
  have hF := numF_congr h j (by omega)
  have e : numI p (numF p j) j = numI q (numF q j) j := by
    unfold numI
    rw [hF, findIdx_congr (p := p j) (q := q j) (fun x hx => h j x hj (by have := numF_lt q j x hx; omega))]
  unfold numV
  rw [e, hF]
/-- a relation below m, made an equivalence -/
def clampR (m : Nat) (p : Nat → Nat → Bool) (i k : Nat) : Bool := if i < m ∧ k < m then p i k else decide (i = k)
theorem clampR_in {m : Nat} {p : Nat → Nat → Bool} {i k : Nat} (hi : i < m) (hk : k < m) : clampR m p i k = p i k := if_pos ⟨hi, hk⟩
theorem clampR_eqv {m : Nat} {p : Nat → Nat → Bool} (hr : ∀ i, i < m → p i i = true) (hs : ∀ i k, i < m → k < m → p i k = true → p k i = true) (ht : ∀ i j k, i < m → j < m → k < m → p i j = true → p j k = true → p i k = true) : EqvB (clampR m p) := by
  refine ⟨fun i => ?_, fun i k h => ?_⟩
  · unfold clampR
    split
    · rename_i h; exact hr i h.1
    · simp
  · by_cases hi : i < m
    · by_cases hk : k < m
      · rw [clampR_in hi hk] at h
        funext j
        by_cases hj : j < m
        · rw [clampR_in hi hj, clampR_in hk hj, Bool.eq_iff_iff]
          exact ⟨fun h1 => ht k i j hk hi hj (hs i k hi hk h) h1, fun h1 => ht i k j hi hk hj h h1⟩
        · unfold clampR
          rw [if_neg (fun h => hj h.2), if_neg (fun h => hj h.2), Bool.eq_iff_iff]
          simp only [decide_eq_true_eq]
          omega
      · unfold clampR at h
        rw [if_neg (fun h => hk h.2)] at h
        have := of_decide_eq_true h
        omega
    · unfold clampR at h
      rw [if_neg (fun h => hi h.1)] at h
      have := of_decide_eq_true h
      rw [this]
/-- classes of one size -/
theorem num_even {p : Nat → Nat → Bool} {m s : Nat} (hr : ∀ i, i < m → p i i = true) (hs : ∀ i k, i < m → k < m → p i k = true → p k i = true) (ht : ∀ i j k, i < m → j < m → k < m → p i j = true → p j k = true → p i k = true)
    (hsz : ∀ i, i < m → (listTo (fun x => p x i) m).length = s) :
    m = (numF p m).length * s ∧ ∀ n : Nat, n < (numF p m).length → cntZ (numO p m) (n : Nat) = s := by
  have he := clampR_eqv hr hs ht
  have hc : ∀ i k, i < m → k < m → p i k = clampR m p i k := fun i k hi hk => (clampR_in hi hk).symm
  have e1 := numO_congr hc
  have e2 := numF_congr hc m (Nat.le_refl _)
  rw [e1, e2]
  have hval : ∀ x, x < m → ∃ v : Nat, nthZ (numO (clampR m p) m) x = (v : Int) ∧ v < (numF (clampR m p) m).length := fun x hx => by
    have := numV_lt (clampR m p) hx
    rw [numO_nth hx]
    exact ⟨(numV (clampR m p) (numF (clampR m p) x) x).toNat, by omega, by omega⟩
  have hfib : ∀ y, y < (numF (clampR m p) m).length → fibN (fun x => (nthZ (numO (clampR m p) m) x).toNat) m y = s := by
    intro y hy
    obtain ⟨i, hi, e⟩ := num_onto (clampR m p) m y hy
    rw [← hsz i hi]
    unfold fibN
    congr 1
    refine listTo_congr fun x hx => ?_
    rw [hc x i hx hi, Bool.eq_iff_iff, decide_eq_true_eq, ← num_same he hx hi, numO_nth hi, e]
    obtain ⟨v, hv, _⟩ := hval x hx
    show ((nthZ (numO (clampR m p) m) x).toNat = y) ↔ _
    rw [hv]
    omega
  refine ⟨?_, fun n hn => ?_⟩
  · have := fib_even (φ := fun x => (nthZ (numO (clampR m p) m) x).toNat) (img := fun _ => true) (s := s) (q := (numF (clampR m p) m).length) (m := m) (fun x hx => by
      obtain ⟨v, hv, h2⟩ := hval x hx
      simp only [hv]; omega) (fun y hy _ => hfib y hy) (fun y hy h => by cases h)
    rw [listTo_true] at this
    exact this
  · rw [← hfib n hn]
    unfold fibN cntZ numO listTo
    rw [List.filter_map, List.length_map, List.length_map]
    congr 1
    refine List.filter_congr fun x hx => ?_
    have hx := List.mem_range.1 hx
    obtain ⟨v, hv, _⟩ := hval x hx
    have h2 := numO_nth (p := clampR m p) hx
    rw [hv] at h2
    have h4 : decide (numV (clampR m p) (numF (clampR m p) x) x = (n : Int)) = decide ((nthZ (numO (clampR m p) m) x).toNat = n) := by
      rw [hv, ← h2, Bool.eq_iff_iff, decide_eq_true_eq, decide_eq_true_eq]
      omega
    exact h4
end Go.Proofs.Ytdhaebbfiaddnaa
namespace Go.Proofs.Ytdhaebbfiaddnaa
open Go.RowKit
set_option linter.unusedVariables false
set_option linter.unusedSectionVars false
/-- a row of a table that is told by its products -/
def rowN (f : Nat → Nat → Nat) (i k : Nat) : List Nat := (List.range k).map (f i)
def rowsN (m : Nat) (f : Nat → Nat → Nat) (i : Nat) : List Nat := (List.range i).flatMap fun i => rowN f i m
def mkT (m : Nat) (f : Nat → Nat → Nat) : List Nat := rowsN m f m
theorem rowN_succ (f : Nat → Nat → Nat) (i k : Nat) : rowN f i (k + 1) = rowN f i k ++ [f i k] := by simp [rowN, List.range_succ]
theorem rowN_zero (f : Nat → Nat → Nat) (i : Nat) : rowN f i 0 = [] := rfl
theorem rowN_len (f : Nat → Nat → Nat) (i k : Nat) : (rowN f i k).length = k := by simp [rowN]
theorem rowsN_succ (m : Nat) (f : Nat → Nat → Nat) (i : Nat) : rowsN m f (i + 1) = rowsN m f i ++ rowN f i m := by simp [rowsN, List.range_succ, List.flatMap_append]
theorem rowsN_zero (m : Nat) (f : Nat → Nat → Nat) : rowsN m f 0 = [] := rfl
theorem rowsN_len (m : Nat) (f : Nat → Nat → Nat) : ∀ i, (rowsN m f i).length = i * m
  | 0 => by simp [rowsN_zero]
  | i + 1 => by rw [rowsN_succ, List.length_append, rowsN_len m f i, rowN_len, Nat.add_mul]; omega
theorem mkT_len (m : Nat) (f : Nat → Nat → Nat) : (mkT m f).length = m * m := rowsN_len m f m
theorem rowsN_at {m : Nat} {f : Nat → Nat → Nat} {i k : Nat} (hk : k < m) : ∀ {c : Nat}, i < c → (rowsN m f c).getD (i * m + k) 0 = f i k
  | 0, hi => by omega
  | c + 1, hi => by
    rw [rowsN_succ, List.getD_eq_getElem?_getD]
    by_cases h : i < c
    · have hlt : i * m + k < (rowsN m f c).length := by
        rw [rowsN_len]
        have := Nat.mul_le_mul_right m (show i + 1 ≤ c from h)
        rw [Nat.add_mul] at this
        omega
      rw [List.getElem?_append_left hlt, ← List.getD_eq_getElem?_getD]
      exact rowsN_at hk h
    · obtain rfl : i = c := by omega
      rw [List.getElem?_append_right (by rw [rowsN_len]; omega), rowsN_len, show i * m + k - i * m = k by omega]
      simp [rowN, hk]
theorem mkT_at {m : Nat} {f : Nat → Nat → Nat} {i k : Nat} (hi : i < m) (hk : k < m) : tm m (mkT m f) i k = f i k := rowsN_at hk hi
theorem tab_ext {m : Nat} {ln rn : List Nat} (h1 : ln.length = m * m) (h2 : rn.length = m * m) (h : ∀ i k, i < m → k < m → tm m ln i k = tm m rn i k) : ln = rn := by
  refine List.ext_getElem (by omega) fun j hj1 hj2 => ?_
  have hm : 0 < m := by
    rcases Nat.eq_zero_or_pos m with e | e
    · subst e; omega
    · exact e
  have hq : j / m < m := Nat.div_lt_of_lt_mul (by omega)
  have hr : j % m < m := Nat.mod_lt _ hm
  have e : j / m * m + j % m = j := by rw [Nat.mul_comm]; exact Nat.div_add_mod j m
  have := h _ _ hq hr
  unfold tm at this
  rw [e, List.getD_eq_getElem?_getD, List.getD_eq_getElem?_getD, List.getElem?_eq_getElem hj1, List.getElem?_eq_getElem hj2] at this
  exact this
theorem rowsN_mem {m : Nat} {f : Nat → Nat → Nat} {c x : Nat} (h : x ∈ rowsN m f c) : ∃ i k, i < c ∧ k < m ∧ x = f i k := by
  unfold rowsN rowN at h
  obtain ⟨i, hi, h⟩ := List.mem_flatMap.1 h
  obtain ⟨k, hk, rfl⟩ := List.mem_map.1 h
  exact ⟨i, k, List.mem_range.1 hi, List.mem_range.1 hk, rfl⟩
theorem mkT_ok {m : Nat} {f : Nat → Nat → Nat} (h1 : 1 ≤ m) (h2 : m ≤ 40) (hr : ∀ i k, i < m → k < m → f i k < m) (hl : ∀ i, i < m → f 0 i = i) (hrt : ∀ i, i < m → f i 0 = i) (ha : ∀ i j k, i < m → j < m → k < m → f (f i j) k = f i (f j k)) : TabOk m (mkT m f) := by
  refine ⟨⟨h1, h2, mkT_len m f, fun x hx => ?_⟩, fun i hi => ?_, fun i hi => ?_, fun i j k hi hj hk => ?_⟩
  · obtain ⟨i, k, hi, hk, rfl⟩ := rowsN_mem hx; exact hr i k hi hk
  · rw [mkT_at (by omega) hi, hl i hi]
  · rw [mkT_at hi (by omega), hrt i hi]
  · rw [mkT_at hi hj, mkT_at hj hk, mkT_at (hr i j hi hj) hk, mkT_at hi (hr j k hj hk), ha i j k hi hj hk]

/-! ### the opposite table -/
def oppF (m : Nat) (ln : List Nat) (i k : Nat) : Nat := tm m ln k i
def oppT (m : Nat) (ln : List Nat) : List Nat := mkT m (oppF m ln)
theorem opp_ok {m : Nat} {ln : List Nat} (h : TabOk m ln) : TabOk m (oppT m ln) :=
  mkT_ok h.lo h.hi (fun i k hi hk => h.tm_lt hk hi) (fun i hi => h.right i hi) (fun i hi => h.left i hi) (fun i j k hi hj hk => (h.assoc k j i hk hj hi).symm)
theorem opp_opp {m : Nat} {ln : List Nat} (h : TabOk m ln) : oppT m (oppT m ln) = ln := by
  refine tab_ext (mkT_len _ _) h.len fun i k hi hk => ?_
  unfold oppT
  rw [mkT_at hi hk]
  show tm m (mkT m (oppF m ln)) k i = _
  rw [mkT_at hk hi]
  rfl
theorem opp_same {m : Nat} {ln : List Nat} (h : TabOk m ln) : oppT m ln = ln ↔ ∀ x y, x < m → y < m → tm m ln x y = tm m ln y x := by
  constructor
  · intro e x y hx hy
    have : tm m (oppT m ln) x y = tm m ln x y := by rw [e]
    unfold oppT at this
    rw [mkT_at hx hy] at this
    exact this.symm
  · intro e
    refine tab_ext (mkT_len _ _) h.len fun i k hi hk => ?_
    unfold oppT
    rw [mkT_at hi hk]
    exact e k i hk hi

/-! ### the product of two tables -/
def prdF (m : Nat) (ln : List Nat) (n : Nat) (rn : List Nat) (i k : Nat) : Nat := tm m ln (i / n) (k / n) * n + tm n rn (i % n) (k % n)
def prodT (m : Nat) (ln : List Nat) (n : Nat) (rn : List Nat) : List Nat := mkT (m * n) (prdF m ln n rn)
section
variable {m n : Nat} {ln rn : List Nat} (h : TabOk m ln) (h' : TabOk n rn)
include h h'
theorem div_lt' {i : Nat} (hi : i < m * n) : i / n < m ∧ i % n < n := ⟨Nat.div_lt_of_lt_mul (by rw [Nat.mul_comm]; exact hi), Nat.mod_lt _ h'.lo⟩
theorem two_lt {a b : Nat} (ha : a < m) (hb : b < n) : a * n + b < m * n := by
  have := Nat.mul_le_mul_right n (show a + 1 ≤ m from ha)
  rw [Nat.add_mul] at this
  omega
theorem prdF_lt {i k : Nat} (hi : i < m * n) (hk : k < m * n) : prdF m ln n rn i k < m * n := by
  obtain ⟨a1, a2⟩ := div_lt' h h' hi
  obtain ⟨b1, b2⟩ := div_lt' h h' hk
  exact two_lt h h' (h.tm_lt a1 b1) (h'.tm_lt a2 b2)
theorem prdF_parts {i k : Nat} (hi : i < m * n) (hk : k < m * n) : prdF m ln n rn i k / n = tm m ln (i / n) (k / n) ∧ prdF m ln n rn i k % n = tm n rn (i % n) (k % n) := by
  obtain ⟨a1, a2⟩ := div_lt' h h' hi
  obtain ⟨b1, b2⟩ := div_lt' h h' hk
  have hlt := h'.tm_lt a2 b2
  have hn := h'.lo
  unfold prdF
  constructor
  · rw [Nat.mul_comm, Nat.mul_add_div (by omega), Nat.div_eq_of_lt hlt]; rfl
  · rw [Nat.mul_comm, Nat.mul_add_mod, Nat.mod_eq_of_lt hlt]
theorem prod_ok (hm : m * n ≤ 40) : TabOk (m * n) (prodT m ln n rn) := by
  have hm1 := h.lo
  have hn1 := h'.lo
  refine mkT_ok (Nat.mul_pos h.lo h'.lo) hm (fun i k hi hk => prdF_lt h h' hi hk) (fun i hi => ?_) (fun i hi => ?_) (fun i j k hi hj hk => ?_)
  · obtain ⟨a1, a2⟩ := div_lt' h h' hi
    unfold prdF
    rw [Nat.zero_div, Nat.zero_mod, h.left _ a1, h'.left _ a2, Nat.mul_comm]
    exact Nat.div_add_mod i n
  · obtain ⟨a1, a2⟩ := div_lt' h h' hi
    unfold prdF
    rw [Nat.zero_div, Nat.zero_mod, h.right _ a1, h'.right _ a2, Nat.mul_comm]
    exact Nat.div_add_mod i n
  · obtain ⟨a1, a2⟩ := div_lt' h h' hi
    obtain ⟨b1, b2⟩ := div_lt' h h' hj
    obtain ⟨c1, c2⟩ := div_lt' h h' hk
    obtain ⟨p1, p2⟩ := prdF_parts h h' hi hj
    obtain ⟨q1, q2⟩ := prdF_parts h h' hj hk
    have e1 : prdF m ln n rn (prdF m ln n rn i j) k = tm m ln (tm m ln (i / n) (j / n)) (k / n) * n + tm n rn (tm n rn (i % n) (j % n)) (k % n) := by
      rw [prdF.eq_def m ln n rn (prdF m ln n rn i j) k, p1, p2]
    have e2 : prdF m ln n rn i (prdF m ln n rn j k) = tm m ln (i / n) (tm m ln (j / n) (k / n)) * n + tm n rn (i % n) (tm n rn (j % n) (k % n)) := by
      rw [prdF.eq_def m ln n rn i (prdF m ln n rn j k), q1, q2]
    rw [e1, e2, h.assoc _ _ _ a1 b1 c1, h'.assoc _ _ _ a2 b2 c2]
theorem prod_two {i k a b : Nat} (hi : i < m * n) (hk : k < m * n) (ha : a < m) (hb : b < n) : prdF m ln n rn i k = a * n + b ↔ tm m ln (i / n) (k / n) = a ∧ tm n rn (i % n) (k % n) = b := by
  obtain ⟨p1, p2⟩ := prdF_parts h h' hi hk
  have hn := h'.lo
  constructor
  · intro e
    rw [e] at p1 p2
    rw [Nat.mul_comm, Nat.mul_add_div (by omega), Nat.div_eq_of_lt hb] at p1
    rw [Nat.mul_comm, Nat.mul_add_mod, Nat.mod_eq_of_lt hb] at p2
    exact ⟨by rw [← p1]; rfl, p2.symm⟩
  · rintro ⟨e1, e2⟩
    unfold prdF
    rw [e1, e2]
end
theorem uni_iff {m : Nat} {ln : List Nat} {i : Nat} : isUnit m ln i = true ↔ ∃ k, k < m ∧ tm m ln i k = 0 ∧ tm m ln k i = 0 := by
  unfold isUnit
  rw [Bool.not_eq_true']
  constructor
  · intro hf
    rcases Classical.em (∃ k, k < m ∧ tm m ln i k = 0 ∧ tm m ln k i = 0) with h1 | h1
    · exact h1
    · exfalso
      rw [Bool.eq_false_iff] at hf
      refine hf (all_range.2 fun k hk => ?_)
      cases hb : unB m ln i k
      · exfalso
        unfold unB at hb
        simp at hb
        exact h1 ⟨k, hk, hb.1, hb.2⟩
      · rfl
  · rintro ⟨k, hk, h1, h2⟩
    refine all_range_false hk ?_
    unfold unB
    simp [h1, h2]
theorem listTo_add (f : Nat → Bool) (a : Nat) : ∀ b, (listTo f (a + b)).length = (listTo f a).length + (listTo (fun x => f (a + x)) b).length
  | 0 => by simp [listTo]
  | b + 1 => by
    rw [show a + (b + 1) = (a + b) + 1 by omega]
    cases hf : f (a + b)
    · rw [listTo_no hf, listTo_no (f := fun x => f (a + x)) hf, listTo_add f a b]
    · rw [listTo_yes hf, listTo_yes (f := fun x => f (a + x)) hf, List.length_append, List.length_append, listTo_add f a b]; simp; omega
theorem count_pair (P Q : Nat → Bool) {n : Nat} (hn : 0 < n) : ∀ m, (listTo (fun x => P (x / n) && Q (x % n)) (m * n)).length = (listTo P m).length * (listTo Q n).length
  | 0 => by simp [listTo]
  | m + 1 => by
    rw [Nat.add_mul, Nat.one_mul, listTo_add, count_pair P Q hn m]
    have e : listTo (fun x => P ((m * n + x) / n) && Q ((m * n + x) % n)) n = listTo (fun x => P m && Q x) n := listTo_congr fun x hx => by
      rw [Nat.mul_comm m n, Nat.mul_add_div hn, Nat.div_eq_of_lt hx, Nat.mul_add_mod, Nat.mod_eq_of_lt hx]; rfl
    rw [e]
    cases hp : P m
    · rw [listTo_no hp]
      have e2 : (listTo (fun x => false && Q x) n).length = 0 := by simp [listTo]
      rw [e2]; omega
    · rw [listTo_yes hp, List.length_append, List.length_singleton, Nat.add_mul]
      have e2 : listTo (fun x => true && Q x) n = listTo Q n := listTo_congr fun x hx => by rw [Bool.true_and]
      rw [e2]; omega
section
variable {m n : Nat} {ln rn : List Nat} (h : TabOk m ln) (h' : TabOk n rn)
include h h'
theorem prod_idem : (listTo (idemB (m * n) (prodT m ln n rn)) (m * n)).length = (listTo (idemB m ln) m).length * (listTo (idemB n rn) n).length := by
  rw [← count_pair (idemB m ln) (idemB n rn) h'.lo]
  congr 1
  refine listTo_congr fun x hx => ?_
  obtain ⟨a1, a2⟩ := div_lt' h h' hx
  have e : x = x / n * n + x % n := by rw [Nat.mul_comm]; exact (Nat.div_add_mod x n).symm
  have key : prdF m ln n rn x x = x ↔ tm m ln (x / n) (x / n) = x / n ∧ tm n rn (x % n) (x % n) = x % n := by
    have := prod_two h h' hx hx a1 a2
    rwa [← e] at this
  rw [Bool.eq_iff_iff, Bool.and_eq_true]
  unfold idemB prodT
  rw [mkT_at hx hx]
  simp only [decide_eq_true_eq]
  exact key
theorem prod_unit : (listTo (isUnit (m * n) (prodT m ln n rn)) (m * n)).length = (listTo (isUnit m ln) m).length * (listTo (isUnit n rn) n).length := by
  rw [← count_pair (isUnit m ln) (isUnit n rn) h'.lo]
  congr 1
  refine listTo_congr fun x hx => ?_
  obtain ⟨a1, a2⟩ := div_lt' h h' hx
  rw [Bool.eq_iff_iff, Bool.and_eq_true, uni_iff, uni_iff, uni_iff]
  have hz : ∀ i k, i < m * n → k < m * n → (tm (m * n) (prodT m ln n rn) i k = 0 ↔ tm m ln (i / n) (k / n) = 0 ∧ tm n rn (i % n) (k % n) = 0) := fun i k hi hk => by
    unfold prodT
    rw [mkT_at hi hk]
    have := prod_two h h' hi hk h.lo h'.lo
    rw [Nat.zero_mul, Nat.zero_add] at this
    exact this
  constructor
  · rintro ⟨k, hk, e1, e2⟩
    obtain ⟨b1, b2⟩ := div_lt' h h' hk
    obtain ⟨f1, f2⟩ := (hz x k hx hk).1 e1
    obtain ⟨g1, g2⟩ := (hz k x hk hx).1 e2
    exact ⟨⟨k / n, b1, f1, g1⟩, k % n, b2, f2, g2⟩
  · rintro ⟨⟨a, ha, f1, g1⟩, b, hb, f2, g2⟩
    have hn := h'.lo
    have hab := two_lt h h' ha hb
    have d1 : (a * n + b) / n = a := by rw [Nat.mul_comm, Nat.mul_add_div (by omega), Nat.div_eq_of_lt hb]; rfl
    have d2 : (a * n + b) % n = b := by rw [Nat.mul_comm, Nat.mul_add_mod, Nat.mod_eq_of_lt hb]
    exact ⟨a * n + b, hab, (hz _ _ hx hab).2 (by rw [d1, d2]; exact ⟨f1, f2⟩), (hz _ _ hab hx).2 (by rw [d1, d2]; exact ⟨g1, g2⟩)⟩
end

/-! ### powers -/
section
variable {m : Nat} {ln : List Nat} (h : TabOk m ln)
include h
theorem pw_back {i : Nat} (hi : i < m) {k : Nat} (hk : repK m ln i ≤ k) (j : Nat) : pw m ln i (k + (repN m ln i - repK m ln i) * j) = pw m ln i k := by
  induction j with
  | zero => rfl
  | succ j ih =>
    obtain ⟨h1, h2, _⟩ := h.toTb.repK_spec hi
    have e : k + (repN m ln i - repK m ln i) * (j + 1) = (k + (repN m ln i - repK m ln i) * j) + (repN m ln i - repK m ln i) := by rw [Nat.mul_add]; omega
    have e2 : k + (repN m ln i - repK m ln i) = repN m ln i + (k - repK m ln i) := by omega
    have e3 : k = repK m ln i + (k - repK m ln i) := by omega
    have e4 : pw m ln i (k + (repN m ln i - repK m ln i)) = pw m ln i k := by
      rw [e2, h.pw_add hi, ← h2, ← h.pw_add hi, ← e3]
    rw [e, h.pw_add hi, ih, ← h.pw_add hi, e4]
theorem pw_idem {i : Nat} (hi : i < m) : ∃ n, 1 ≤ n ∧ n ≤ repN m ln i ∧ idemB m ln (pw m ln i n) = true := by
  obtain ⟨h1, h2, _⟩ := h.toTb.repK_spec hi
  generalize hK : repK m ln i = K at *
  generalize hN : repN m ln i = N at *
  have hp : 0 < N - K := by omega
  have key : ∀ n, K ≤ n → ∀ q, n = (N - K) * q → idemB m ln (pw m ln i n) = true := fun n hn q hq => by
    unfold idemB
    rw [decide_eq_true_eq, ← h.pw_add hi]
    have := pw_back h hi (k := n) (by rw [hK]; exact hn) q
    rw [hK, hN, ← hq] at this
    exact this
  by_cases h0 : K = 0
  · exact ⟨N - K, hp, by omega, key _ (by omega) 1 (by omega)⟩
  · refine ⟨(N - K) * ((K + (N - K) - 1) / (N - K)), ?_, ?_, key _ ?_ _ rfl⟩
    · have h3 := Nat.div_add_mod (K + (N - K) - 1) (N - K)
      have h4 := Nat.mod_lt (K + (N - K) - 1) hp
      omega
    · have h3 := Nat.div_add_mod (K + (N - K) - 1) (N - K)
      omega
    · have h3 := Nat.div_add_mod (K + (N - K) - 1) (N - K)
      have h4 := Nat.mod_lt (K + (N - K) - 1) hp
      omega
end
end Go.Proofs.Ytdhaebbfiaddnaa
namespace Go.Proofs.Ytdhaebbfiaddnaa
open Go.RowKit Go.Sort
set_option linter.unusedVariables false
theorem owns_block_of {w : World} {base g cap n : Nat} {T : TypeId} {xs : List Value} (h : w.ownsRow base T 1 (.slice (some ⟨g, 0, none⟩) n cap) n xs) : ∃ cur, base ≤ g ∧ w.heap[g]? = some (.cells cur T (0, 0)) ∧ n ≤ cap ∧ cap ≤ maxLen ∧ cur.size = cap * 1 ∧ cur.toList.take n = xs := by
  rcases h.2 with ⟨hv, _⟩ | ⟨g', cap', cur, hv, hb, hg, hn, hc, hs, ht⟩
  · cases hv
  · simp only [Value.slice.injEq, Option.some.injEq, Addr.mk.injEq, and_true, true_and] at hv
    obtain ⟨rfl, rfl⟩ := hv
    exact ⟨cur, hb, hg, hn, hc, hs, by simpa using ht⟩
theorem owns_shrink {w : World} {base g cap n k : Nat} {T : TypeId} {xs : List Value} (h : w.ownsRow base T 1 (.slice (some ⟨g, 0, none⟩) n cap) n xs) (hk : k ≤ n) : w.ownsRow base T 1 (.slice (some ⟨g, 0, none⟩) k cap) k (xs.take k) := by
  have hl := h.1
  obtain ⟨cur, h1, h2, h3, h4, h5, h6⟩ := owns_block_of h
  refine ⟨by rw [List.length_take]; omega, .inr ⟨g, cap, cur, rfl, h1, h2, by omega, h4, h5, ?_⟩⟩
  rw [← h6, List.take_take]
  congr 1; omega
theorem grow_none (w : World) : grow w #[] = w := by simp [grow]
end Go.Proofs.Ytdhaebbfiaddnaa
