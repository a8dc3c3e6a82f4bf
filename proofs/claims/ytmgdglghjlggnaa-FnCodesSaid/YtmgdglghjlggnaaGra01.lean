/-
  The order of words (size first, then bytewise), sorted lists of words, each once: plain data.
-/
import Derived.Test.YtmgdglghjlggnaaRows
import Derived.WalkKit
import Derived.WalkSpells
import Derived.WalkLawsBesides
import Derived.BigQuiet
import Derived.Lib.Hide
import Derived.Lib.SlicesCompact
import Derived.Sort.Statements
import Derived.Sort.Walk0
namespace Go.Proofs.Ytmgdglghjlggnaa
open Go.RowKit
set_option linter.unusedVariables false
/-- the number a lies in the range from b to c -/
def inB (a b c : Int) : Bool := decide (b ≤ a) && decide (a ≤ c)
theorem inB_bounds {a b c : Int} (h : inB a b c = true) : b ≤ a ∧ a ≤ c := by simpa [inB] using h
set_option maxHeartbeats 400000 in
theorem within_any (a b c : Int) (w : World) :
    Calls Try.prog 23 #[.int .i64 a, .int .i64 b, .int .i64 c] w fun e w' => e = .returned (.bool (inB a b c)) ∧ w = w' := by
  by_cases h : b ≤ a
  · go_enter Try.func23, Try.ntmps23
    go_wp2
    go_ret
    exact ⟨by simp [inB, h], rfl⟩
  · go_enter Try.func23, Try.ntmps23
    go_wp2
    go_ret
    exact ⟨by simp [inB]; omega, rfl⟩
/-- the byte is among the first k small letters -/
def letB (k : Int) (c : UInt8) : Bool := inB (c.toNat : Int) 97 (97 + k - 1)
/-- all bytes of a text have a property -/
def allB (p : UInt8 → Bool) (s : ByteArray) : Bool := s.data.toList.all p
/-- the first j bytes have it -/
def allTo (p : UInt8 → Bool) (s : ByteArray) (j : Nat) : Bool := (s.data.toList.take j).all p
theorem allTo_zero (p : UInt8 → Bool) (s : ByteArray) : allTo p s 0 = true := by simp [allTo]
theorem allTo_succ (s : ByteArray) (p : UInt8 → Bool) (j : Nat) (h : j < s.size) (ha : allTo p s j = true) (hp : p s[j] = true) : allTo p s (j + 1) = true := by
  unfold allTo at *
  rw [List.take_succ_eq_append_getElem (by simpa using h), List.all_append, ha]
  simpa [ByteArray.getElem_eq_getElem_data] using hp
theorem allTo_full (s : ByteArray) (p : UInt8 → Bool) (j : Nat) (h : ¬ j < s.size) (ha : allTo p s j = true) : allB p s = true := by
  unfold allTo at ha
  rwa [List.take_of_length_le (by simp; omega)] at ha
theorem allB_at (s : ByteArray) (p : UInt8 → Bool) (j : Nat) (h : j < s.size) (hp : p s[j] = false) : allB p s = false := by
  unfold allB
  rw [List.all_eq_false]
  exact ⟨s[j], by have := List.getElem_mem (l := s.data.toList) (n := j) (by simpa using h); rwa [Array.getElem_toList] at this, by simp [hp]⟩
theorem byte_lt (c : UInt8) : (c.toNat : Int) < 256 := by have := c.toNat_lt; omega
theorem ret_bool {a b : Bool} (h : a = b) : Ending.returned (.bool a) = .returned (.bool b) := by rw [h]
theorem ret_int {k : IntKind} {a b : Int} (h : a = b) : Ending.returned (.int k a) = .returned (.int k b) := by rw [h]
set_option maxHeartbeats 400000 in
theorem hasLetters_any (k : Int) (s : ByteArray) (w : World) (hs : s.size ≤ maxLen) (hk0 : 0 ≤ k) (hk1 : k ≤ 1000) :
    Calls Try.prog 45 #[.int .i64 k, .string s] w fun e w' => e = .returned (.bool (allB (letB k) s)) ∧ w = w' := by
  unfold maxLen at hs
  go_enter Try.func45, Try.ntmps45
  go_wp2
  go_loop [8] (fun i => ∃ j : Nat, j ≤ s.size ∧ i = .int .i64 j ∧ allTo (letB k) s j = true) (fun i => s.size - (intOf i).toNat)
  case atStart => exact ⟨0, Nat.zero_le _, rfl, allTo_zero _ _⟩
  case round =>
    obtain ⟨j, hj, rfl, hall⟩ := hrel
    have H := Lib.hid hall
    clear hall
    by_cases hlt : j < s.size
    · have hb := byte_lt s[j]
      cases hp : letB k s[j]
      · have F := Lib.hid (allB_at s (letB k) j hlt hp)
        unfold letB at hp
        go_wp2_with (go_at_call 23; refine (within_any _ _ _ _).mono ?_; rintro e w' ⟨rfl, rfl⟩)
        go_ret
        exact ⟨ret_bool F.out.symm, rfl⟩
      · have F := Lib.hid (allTo_succ s (letB k) j hlt H.out hp)
        unfold letB at hp
        go_wp2_with (go_at_call 23; refine (within_any _ _ _ _).mono ?_; rintro e w' ⟨rfl, rfl⟩)
        go_round
        case rel => exact ⟨j + 1, by omega, by go_num, F.out⟩
        case measure => simp [intOf]; omega
    · have F := Lib.hid (allTo_full s (letB k) j hlt H.out)
      go_wp2
      go_ret
      exact ⟨ret_bool F.out.symm, rfl⟩
end Go.Proofs.Ytmgdglghjlggnaa
namespace Go.Proofs.Ytmgdglghjlggnaa
set_option linter.unusedVariables false
abbrev Bw := List UInt8
/-- each word has one reading at most -/
def UD (C : List Bw) : Prop := ∀ xs ys : List Bw, (∀ x ∈ xs, x ∈ C) → (∀ y ∈ ys, y ∈ C) → xs.flatten = ys.flatten → xs = ys
/-- the tails -/
inductive Dang (C : List Bw) : Bw → Prop
  | one {u v t : Bw} : u ∈ C → v ∈ C → u ≠ v → v = u ++ t → Dang C t
  | left {t w r : Bw} : Dang C t → w ∈ C → t = w ++ r → Dang C r
  | right {t w r : Bw} : Dang C t → t ≠ [] → w ∈ C → w = t ++ r → Dang C r
theorem Dang.two {C : List Bw} {t : Bw} (h : Dang C t) : ∃ (x y : Bw) (xs ys : List Bw), x ≠ y ∧ x ∈ C ∧ y ∈ C ∧ (∀ z ∈ xs, z ∈ C) ∧ (∀ z ∈ ys, z ∈ C) ∧ (x :: xs).flatten ++ t = (y :: ys).flatten := by
  induction h with
  | @one u v t hu hv hne e => exact ⟨u, v, [], [], hne, hu, hv, (fun z hz => by cases hz), (fun z hz => by cases hz), by simp [e]⟩
  | @left t w r _ hw e ih =>
    obtain ⟨x, y, xs, ys, hne, hx, hy, hxs, hys, he⟩ := ih
    refine ⟨x, y, xs ++ [w], ys, hne, hx, hy, fun z hz => ?_, hys, ?_⟩
    · rcases List.mem_append.1 hz with h | h
      · exact hxs z h
      · rw [List.mem_singleton.1 h]; exact hw
    · rw [← he, e]; simp
  | @right t w r _ _ hw e ih =>
    obtain ⟨x, y, xs, ys, hne, hx, hy, hxs, hys, he⟩ := ih
    refine ⟨y, x, ys, xs ++ [w], hne.symm, hy, hx, hys, fun z hz => ?_, ?_⟩
    · rcases List.mem_append.1 hz with h | h
      · exact hxs z h
      · rw [List.mem_singleton.1 h]; exact hw
    · rw [← he, e]; simp
theorem dang_run {C : List Bw} (hne : ∀ w ∈ C, w ≠ []) : ∀ (n : Nat) (t : Bw) (xs ys : List Bw), xs.length + ys.length ≤ n → Dang C t → (∀ z ∈ xs, z ∈ C) → (∀ z ∈ ys, z ∈ C) → xs.flatten = t ++ ys.flatten → Dang C []
  | n, [], xs, ys, _, h, _, _, _ => h
  | n, c :: t, [], ys, _, _, _, _, e => by simp at e
  | 0, c :: t, x :: xs, ys, hl, _, _, _, _ => by simp at hl
  | n + 1, c :: t, x :: xs, ys, hl, h, hxs, hys, e => by
    have hx := hxs x List.mem_cons_self
    have hxs' := fun z hz => hxs z (List.mem_cons_of_mem _ hz)
    simp only [List.length_cons] at hl
    rw [List.flatten_cons, List.append_eq_append_iff] at e
    rcases e with ⟨r, e1, e2⟩ | ⟨r, e1, e2⟩
    · exact dang_run hne n r xs ys (by omega) (h.left hx e1) hxs' hys e2
    · exact dang_run hne n r ys xs (by omega) (h.right (by simp) hx e1) hys hxs' e2
theorem ud_iff {C : List Bw} (hne : ∀ w ∈ C, w ≠ []) : UD C ↔ ¬ Dang C [] := by
  constructor
  · intro h hd
    obtain ⟨x, y, xs, ys, hxy, hx, hy, hxs, hys, e⟩ := hd.two
    rw [List.append_nil] at e
    have inC : ∀ {u : Bw} {us : List Bw}, u ∈ C → (∀ z ∈ us, z ∈ C) → ∀ z ∈ u :: us, z ∈ C := fun hu hus z hz => (List.mem_cons.1 hz).elim (fun e => e ▸ hu) (hus z)
    have := h (x :: xs) (y :: ys) (inC hx hxs) (inC hy hys) e
    exact hxy (by injection this)
  · intro h xs
    induction xs with
    | nil =>
      intro ys _ hys e
      cases ys with
      | nil => rfl
      | cons y ys =>
        have h1 := hne y (hys y List.mem_cons_self)
        simp at e
        exact absurd e.1 h1
    | cons x xs ih =>
      intro ys hxs hys e
      have hx := hxs x List.mem_cons_self
      have hxs' := fun z hz => hxs z (List.mem_cons_of_mem _ hz)
      cases ys with
      | nil => simp at e; exact absurd e.1 (hne x hx)
      | cons y ys =>
        have hy := hys y List.mem_cons_self
        have hys' := fun z hz => hys z (List.mem_cons_of_mem _ hz)
        by_cases hxy : x = y
        · subst hxy
          rw [List.flatten_cons, List.flatten_cons, List.append_cancel_left_eq] at e
          rw [ih ys hxs' hys' e]
        · exfalso
          rw [List.flatten_cons, List.flatten_cons, List.append_eq_append_iff] at e
          rcases e with ⟨r, e1, e2⟩ | ⟨r, e1, e2⟩
          · exact h (dang_run hne _ r xs ys (Nat.le_refl _) (.one hx hy hxy e1) hxs' hys' e2)
          · exact h (dang_run hne _ r ys xs (Nat.le_refl _) (.one hy hx (fun e => hxy e.symm) e1) hys' hxs' e2)
/-- words mirrored -/
theorem UD.mirror {C : List Bw} (h : UD C) : UD (C.map List.reverse) := by
  intro xs ys hx hy e
  have inC : ∀ zs : List Bw, (∀ z ∈ zs, z ∈ C.map List.reverse) → ∀ z ∈ (zs.map List.reverse).reverse, z ∈ C := fun zs hz z hm => by
    rw [List.mem_reverse, List.mem_map] at hm
    obtain ⟨u, hu, rfl⟩ := hm
    obtain ⟨v, hv, rfl⟩ := List.mem_map.1 (hz u hu)
    rw [List.reverse_reverse]; exact hv
  have fl : ∀ zs : List Bw, (zs.map List.reverse).reverse.flatten = zs.flatten.reverse := fun zs => by
    rw [List.reverse_flatten]
  have h1 := h _ _ (inC xs hx) (inC ys hy) (by rw [fl, fl, e])
  have h2 := congrArg List.reverse h1
  rw [List.reverse_reverse, List.reverse_reverse] at h2
  have h3 := congrArg (List.map List.reverse) h2
  rw [List.map_map, List.map_map] at h3
  have h4 : (List.reverse ∘ List.reverse : Bw → Bw) = id := by funext z; simp
  rw [h4, List.map_id, List.map_id] at h3
  exact h3
theorem ud_prefix {C : List Bw} (hne : ∀ w ∈ C, w ≠ []) (h : ∀ u ∈ C, ∀ v ∈ C, ∀ t, v = u ++ t → u = v) : UD C := by
  rw [ud_iff hne]
  have : ∀ t, ¬ Dang C t := fun t hd => by
    induction hd with
    | one hu hv hne' e => exact hne' (h _ hu _ hv _ e)
    | left _ _ _ ih => exact ih
    | right _ _ _ _ ih => exact ih
  exact this []
/-- all rows of r words -/
def tup (C : List Bw) : Nat → List (List Bw)
  | 0 => [[]]
  | r + 1 => C.flatMap fun x => (tup C r).map (x :: ·)
theorem tup_mem {C : List Bw} : ∀ (r : Nat), ∀ t ∈ tup C r, ∀ x ∈ t, x ∈ C
  | 0, t, ht, x, hx => by rw [List.mem_singleton.1 ht] at hx; cases hx
  | r + 1, t, ht, x, hx => by
    obtain ⟨y, hy, h2⟩ := List.mem_flatMap.1 ht
    obtain ⟨s, hs, rfl⟩ := List.mem_map.1 h2
    rcases List.mem_cons.1 hx with rfl | hx
    · exact hy
    · exact tup_mem r s hs x hx
theorem tup_nodup {C : List Bw} (hC : C.Nodup) : ∀ r, (tup C r).Nodup
  | 0 => List.nodup_cons.2 ⟨by simp, List.nodup_nil⟩
  | r + 1 => by
    unfold tup
    rw [List.Nodup, List.pairwise_flatMap]
    refine ⟨fun x _ => ?_, hC.imp fun {x y} hxy a ha b hb e => ?_⟩
    · rw [List.pairwise_map]
      exact (tup_nodup hC r).imp fun h e => h (by injection e)
    · obtain ⟨s, _, rfl⟩ := List.mem_map.1 ha
      obtain ⟨t, _, rfl⟩ := List.mem_map.1 hb
      exact hxy (by injection e)
theorem tup_len {C : List Bw} {m : Nat} (hl : ∀ w ∈ C, w.length ≤ m) : ∀ (r : Nat), ∀ t ∈ tup C r, t.flatten.length ≤ m * r
  | 0, t, ht => by rw [List.mem_singleton.1 ht]; simp
  | r + 1, t, ht => by
    obtain ⟨y, hy, h2⟩ := List.mem_flatMap.1 ht
    obtain ⟨s, hs, rfl⟩ := List.mem_map.1 h2
    have h3 := tup_len hl r s hs
    have h4 := hl y hy
    rw [List.flatten_cons, List.length_append, Nat.mul_succ]
    omega
/-- the sum of a list -/
def krS (m : Nat) (C : List Bw) : Nat := (C.map fun w => 2 ^ (m - w.length)).sum
theorem sum_mul (c : Nat) : ∀ (l : List Nat), (l.map (c * ·)).sum = c * l.sum
  | [] => by simp
  | a :: l => by simp only [List.map_cons, List.sum_cons, sum_mul c l, Nat.mul_add]
theorem krS_app (m : Nat) (A B : List Bw) : krS m (A ++ B) = krS m A + krS m B := by simp [krS]
theorem tup_sum {C : List Bw} {m : Nat} (hl : ∀ w ∈ C, w.length ≤ m) : ∀ r, krS (m * r) ((tup C r).map List.flatten) = krS m C ^ r
  | 0 => by simp [tup, krS]
  | r + 1 => by
    have key : ∀ D : List Bw, (∀ w ∈ D, w.length ≤ m) → krS (m * (r + 1)) ((D.flatMap fun x => (tup C r).map (x :: ·)).map List.flatten) = krS m D * krS m C ^ r := fun D => by
      induction D with
      | nil => intro _; simp [krS]
      | cons x D ih =>
        intro hD
        rw [List.flatMap_cons, List.map_append, krS_app, ih (fun w hw => hD w (List.mem_cons_of_mem _ hw))]
        have hx := hD x List.mem_cons_self
        have e : krS (m * (r + 1)) (((tup C r).map (x :: ·)).map List.flatten) = 2 ^ (m - x.length) * krS m C ^ r := by
          rw [← tup_sum hl r]
          unfold krS
          rw [← sum_mul, List.map_map, List.map_map, List.map_map, List.map_map]
          congr 1
          apply List.map_congr_left
          intro t ht
          have h3 := tup_len hl r t ht
          simp only [Function.comp_apply, List.flatten_cons, List.length_append]
          rw [← Nat.pow_add]
          congr 1
          rw [Nat.mul_succ]
          omega
        rw [e]
        show _ = krS m (x :: D) * _
        have : krS m (x :: D) = 2 ^ (m - x.length) + krS m D := by simp [krS]
        rw [this, Nat.add_mul]
    show krS (m * (r + 1)) ((C.flatMap fun x => (tup C r).map (x :: ·)).map List.flatten) = _
    rw [key C hl, Nat.pow_succ, Nat.mul_comm]
/-- words without their first letter c -/
def offL (c : UInt8) (S : List Bw) : List Bw := S.filterMap fun w => match w with | [] => none | x :: t => if x = c then some t else none
theorem offL_mem {c : UInt8} {S : List Bw} {t : Bw} : t ∈ offL c S ↔ c :: t ∈ S := by
  unfold offL
  rw [List.mem_filterMap]
  constructor
  · rintro ⟨w, hw, e⟩
    cases w with
    | nil => cases e
    | cons x s =>
      simp only at e
      split at e
      · rename_i h; subst h; cases e; exact hw
      · cases e
  · intro h
    exact ⟨c :: t, h, by simp⟩
theorem offL_nodup {c : UInt8} : ∀ {S : List Bw}, S.Nodup → (offL c S).Nodup
  | [], _ => List.nodup_nil
  | w :: S, h => by
    obtain ⟨h1, h2⟩ := List.nodup_cons.1 h
    have ih := offL_nodup (c := c) h2
    unfold offL at ih ⊢
    rw [List.filterMap_cons]
    split
    · exact ih
    · rename_i t e
      refine List.nodup_cons.2 ⟨fun hm => ?_, ih⟩
      have := offL_mem.1 hm
      cases w with
      | nil => cases e
      | cons x s =>
        simp only at e
        split at e
        · rename_i hx; subst hx; cases e; exact h1 this
        · cases e
theorem krS_split {a b : UInt8} (hab : a ≠ b) {n : Nat} : ∀ {S : List Bw}, (∀ w ∈ S, w.length ≤ n + 1 ∧ ∀ x ∈ w, x = a ∨ x = b) → krS (n + 1) S = S.count [] * 2 ^ (n + 1) + krS n (offL a S) + krS n (offL b S)
  | [], _ => by simp [krS, offL]
  | w :: S, h => by
    have ih := krS_split hab (n := n) (S := S) (fun w hw => h w (List.mem_cons_of_mem _ hw))
    have e : krS (n + 1) (w :: S) = 2 ^ (n + 1 - w.length) + krS (n + 1) S := by simp [krS]
    rw [e, ih]
    cases w with
    | nil =>
      have e1 : ∀ c, offL c ([] :: S) = offL c S := fun c => by simp [offL]
      rw [e1, e1, List.count_cons]
      simp
      rw [Nat.add_mul]
      omega
    | cons x t =>
      have hx := (h (x :: t) List.mem_cons_self).2 x List.mem_cons_self
      have hc : ((x :: t) :: S).count [] = S.count [] := by rw [List.count_cons]; simp
      rw [hc]
      have e3 : n + 1 - (x :: t).length = n - t.length := by simp only [List.length_cons]; omega
      rw [e3]
      rcases hx with rfl | rfl
      · have e1 : offL x ((x :: t) :: S) = t :: offL x S := by simp [offL]
        have e2 : offL b ((x :: t) :: S) = offL b S := by simp [offL, hab]
        rw [e1, e2]
        have : krS n (t :: offL x S) = 2 ^ (n - t.length) + krS n (offL x S) := by simp [krS]
        rw [this]; omega
      · have e1 : offL x ((x :: t) :: S) = t :: offL x S := by simp [offL]
        have e2 : offL a ((x :: t) :: S) = offL a S := by simp [offL, Ne.symm hab]
        rw [e1, e2]
        have : krS n (t :: offL x S) = 2 ^ (n - t.length) + krS n (offL x S) := by simp [krS]
        rw [this]; omega
theorem krS_le {a b : UInt8} (hab : a ≠ b) : ∀ {n : Nat} {S : List Bw}, S.Nodup → (∀ w ∈ S, w.length ≤ n ∧ ∀ x ∈ w, x = a ∨ x = b) → krS n S ≤ (n + 1) * 2 ^ n
  | 0, S, hn, h => by
    have e : krS 0 S = S.count [] := by
      have : ∀ T : List Bw, (∀ w ∈ T, w.length ≤ 0) → krS 0 T = T.count [] := fun T => by
        induction T with
        | nil => intro _; simp [krS]
        | cons w T ih =>
          intro hT
          have hw : w = [] := List.eq_nil_of_length_eq_zero (by have := hT w List.mem_cons_self; omega)
          have e1 : krS 0 (w :: T) = 2 ^ (0 - w.length) + krS 0 T := by simp [krS]
          rw [e1, ih (fun w hw => hT w (List.mem_cons_of_mem _ hw)), hw, List.count_cons]
          simp
          omega
      exact this S fun w hw => (h w hw).1
    rw [e]
    have := List.nodup_iff_count.1 hn []
    omega
  | n + 1, S, hn, h => by
    rw [krS_split hab h]
    have hc := List.nodup_iff_count.1 hn []
    have side : ∀ c, ∀ w ∈ offL c S, w.length ≤ n ∧ ∀ x ∈ w, x = a ∨ x = b := fun c w hw => by
      obtain ⟨h1, h2⟩ := h _ (offL_mem.1 hw)
      simp only [List.length_cons] at h1
      exact ⟨by omega, fun x hx => h2 x (List.mem_cons_of_mem _ hx)⟩
    have h1 := krS_le hab (n := n) (offL_nodup (c := a) hn) (side a)
    have h2 := krS_le hab (n := n) (offL_nodup (c := b) hn) (side b)
    have h3 : S.count [] * 2 ^ (n + 1) ≤ 1 * 2 ^ (n + 1) := Nat.mul_le_mul_right _ hc
    have h4 : 2 ^ (n + 1) = 2 * 2 ^ n := by rw [Nat.pow_succ]; omega
    have h5 : (n + 1 + 1) * 2 ^ (n + 1) = 2 ^ (n + 1) + (2 * ((n + 1) * 2 ^ n)) := by
      rw [Nat.add_mul (n + 1) 1, h4, Nat.one_mul, Nat.add_comm, ← Nat.mul_assoc, ← Nat.mul_assoc, Nat.mul_comm (n + 1) 2]
    rw [h5]
    omega
/-- the sum of a code of two letters is at most 1 -/
theorem mcmillan {a b : UInt8} (hab : a ≠ b) {C : List Bw} (hn : C.Nodup) (hu : UD C) (h : ∀ w ∈ C, w.length ≤ 6 ∧ ∀ x ∈ w, x = a ∨ x = b) : krS 6 C ≤ 64 := by
  refine Nat.le_of_not_lt fun hlt => ?_
  obtain ⟨m, hm⟩ : ∃ m : Nat, m = 10 := ⟨_, rfl⟩
  obtain ⟨q, hq⟩ : ∃ q : Nat, q = 100 := ⟨_, rfl⟩
  obtain ⟨r, hr⟩ : ∃ r : Nat, r = m * q := ⟨_, rfl⟩
  have hl : ∀ w ∈ C, w.length ≤ 6 := fun w hw => (h w hw).1
  have hnd : ((tup C r).map List.flatten).Nodup := by
    rw [List.Nodup, List.pairwise_map]
    exact (tup_nodup hn r).imp_of_mem fun ha hb hne e => hne (hu _ _ (tup_mem _ _ ha) (tup_mem _ _ hb) e)
  have h1 := krS_le hab (n := 6 * r) hnd (fun w hw => by
    obtain ⟨t, ht, rfl⟩ := List.mem_map.1 hw
    refine ⟨tup_len hl _ t ht, fun x hx => ?_⟩
    obtain ⟨u, hu2, hxu⟩ := List.mem_flatten.1 hx
    exact (h u (tup_mem _ _ ht u hu2)).2 x hxu)
  rw [tup_sum hl] at h1
  have h2 : 65 ^ r ≤ krS 6 C ^ r := Nat.pow_le_pow_left hlt r
  have h3 : (6 * r + 1) * 2 ^ (6 * r) < 65 ^ r := by
    rw [Nat.pow_mul 2 6 r, hr, Nat.pow_mul (2 ^ 6) m q, Nat.pow_mul 65 m q, hm, hq]
    decide +kernel
  omega
end Go.Proofs.Ytmgdglghjlggnaa
namespace Go.Proofs.Ytmgdglghjlggnaa
set_option linter.unusedVariables false
/-- a sequence of places of a list that gives a word -/
def SqL (l : List Bw) (w : Bw) (xs : List Nat) : Prop := (∀ i ∈ xs, i < l.length) ∧ (xs.map fun i => l.getD i []).flatten = w
/-- all sequences that give a word, each once -/
def RdL (l : List Bw) (w : Bw) (X : List (List Nat)) : Prop := X.Nodup ∧ ∀ xs, xs ∈ X ↔ SqL l w xs
theorem RdL.len {l : List Bw} {w : Bw} {X Y : List (List Nat)} (h : RdL l w X) (h' : RdL l w Y) : X.length = Y.length :=
  Nat.le_antisymm (h.1.length_le_of_subset fun xs hx => (h'.2 xs).2 ((h.2 xs).1 hx)) (h'.1.length_le_of_subset fun xs hx => (h.2 xs).2 ((h'.2 xs).1 hx))
theorem RdL.most {l : List Bw} {w : Bw} {X Y : List (List Nat)} (h : RdL l w X) (hY : Y.Nodup) (hs : ∀ xs ∈ Y, SqL l w xs) : Y.length ≤ X.length :=
  hY.length_le_of_subset fun xs hx => (h.2 xs).2 (hs xs hx)
theorem SqL.nil {l : List Bw} (hne : ∀ v ∈ l, v ≠ []) {xs : List Nat} : SqL l [] xs ↔ xs = [] := by
  constructor
  · rintro ⟨h1, h2⟩
    cases xs with
    | nil => rfl
    | cons i xs =>
      have hi := h1 i (List.mem_cons_self ..)
      rw [List.map_cons, List.flatten_cons] at h2
      have h3 := List.append_eq_nil_iff.1 h2
      refine absurd h3.1 (hne _ ?_)
      rw [List.getD_eq_getElem?_getD, List.getElem?_eq_getElem hi]
      exact List.getElem_mem hi
  · rintro rfl
    exact ⟨fun i h => (by cases h), rfl⟩
theorem RdL.nil {l : List Bw} (hne : ∀ v ∈ l, v ≠ []) : RdL l [] [[]] := ⟨by simp, fun xs => by rw [SqL.nil hne]; simp⟩
theorem SqL.cons {l : List Bw} {w : Bw} {i : Nat} {xs : List Nat} : SqL l w (i :: xs) ↔ i < l.length ∧ ∃ r, w = l.getD i [] ++ r ∧ SqL l r xs := by
  constructor
  · rintro ⟨h1, h2⟩
    exact ⟨h1 i (List.mem_cons_self ..), _, h2.symm, fun j hj => h1 j (List.mem_cons_of_mem _ hj), rfl⟩
  · rintro ⟨hi, r, rfl, h1, h2⟩
    refine ⟨fun j hj => ?_, by rw [List.map_cons, List.flatten_cons, h2]⟩
    rcases List.mem_cons.1 hj with rfl | hj
    · exact hi
    · exact h1 j hj
theorem SqL.snoc {l : List Bw} {w : Bw} {i : Nat} {xs : List Nat} (h : SqL l w xs) (hi : i < l.length) : SqL l (w ++ l.getD i []) (xs ++ [i]) := by
  refine ⟨fun j hj => ?_, by rw [List.map_append, List.flatten_append, h.2]; simp⟩
  rcases List.mem_append.1 hj with hj | hj
  · exact h.1 j hj
  · rw [List.mem_singleton.1 hj]; exact hi
/-- the readings that begin with one of the first i words -/
def RdTo (l : List Bw) (w : Bw) (i : Nat) (X : List (List Nat)) : Prop := X.Nodup ∧ ∀ xs, xs ∈ X ↔ SqL l w xs ∧ ∃ j t, xs = j :: t ∧ j < i
theorem RdTo.zero (l : List Bw) (w : Bw) : RdTo l w 0 [] := ⟨List.Pairwise.nil, fun xs => ⟨fun h => (by cases h), fun ⟨_, j, t, _, h⟩ => (by omega)⟩⟩
theorem RdTo.skip {l : List Bw} {w : Bw} {i : Nat} {X : List (List Nat)} (h : RdTo l w i X) (hn : ∀ r, w ≠ l.getD i [] ++ r) : RdTo l w (i + 1) X := by
  refine ⟨h.1, fun xs => ?_⟩
  rw [h.2]
  constructor
  · rintro ⟨h1, j, t, h2, h3⟩; exact ⟨h1, j, t, h2, by omega⟩
  · rintro ⟨h1, j, t, rfl, h3⟩
    refine ⟨h1, j, t, rfl, ?_⟩
    refine Nat.lt_of_le_of_ne (by omega) fun e => ?_
    subst e
    obtain ⟨_, r, hr, _⟩ := SqL.cons.1 h1
    exact hn r hr
theorem RdTo.put {l : List Bw} {w r : Bw} {i : Nat} {X Y : List (List Nat)} (h : RdTo l w i X) (hi : i < l.length) (hw : w = l.getD i [] ++ r) (hY : RdL l r Y) : RdTo l w (i + 1) (X ++ Y.map (i :: ·)) := by
  refine ⟨?_, fun xs => ?_⟩
  · rw [List.nodup_append]
    refine ⟨h.1, ?_, fun a ha b hb => ?_⟩
    · unfold List.Nodup
      rw [List.pairwise_map]
      exact hY.1.imp fun hab e => hab (List.cons.inj e).2
    · obtain ⟨t, _, rfl⟩ := List.mem_map.1 hb
      obtain ⟨_, j, t', rfl, hj⟩ := (h.2 a).1 ha
      intro e
      have := (List.cons.inj e).1
      omega
  · rw [List.mem_append, h.2]
    constructor
    · rintro (⟨h1, j, t, h2, h3⟩ | h1)
      · exact ⟨h1, j, t, h2, by omega⟩
      · obtain ⟨t, ht, rfl⟩ := List.mem_map.1 h1
        exact ⟨SqL.cons.2 ⟨hi, r, hw, (hY.2 t).1 ht⟩, i, t, rfl, by omega⟩
    · rintro ⟨h1, j, t, rfl, h3⟩
      by_cases e : j = i
      · subst e
        right
        obtain ⟨_, r', hr, h4⟩ := SqL.cons.1 h1
        have : r' = r := List.append_cancel_left (hr.symm.trans hw)
        subst this
        exact List.mem_map.2 ⟨t, (hY.2 t).2 h4, rfl⟩
      · exact .inl ⟨h1, j, t, rfl, by omega⟩
theorem RdTo.all {l : List Bw} {w : Bw} {X : List (List Nat)} (h : RdTo l w l.length X) (hw : w ≠ []) : RdL l w X := by
  refine ⟨h.1, fun xs => ?_⟩
  rw [h.2]
  refine ⟨fun h => h.1, fun h1 => ⟨h1, ?_⟩⟩
  cases xs with
  | nil => exact absurd h1.2.symm hw
  | cons j t => exact ⟨j, t, rfl, h1.1 j (List.mem_cons_self ..)⟩
theorem rd_ex {l : List Bw} (hne : ∀ v ∈ l, v ≠ []) : ∀ (n : Nat) (w : Bw), w.length ≤ n → ∃ X, RdL l w X ∧ X.length ≤ (l.length + 1) ^ w.length := by
  intro n
  induction n with
  | zero =>
    intro w hw
    obtain rfl : w = [] := List.length_eq_zero_iff.1 (by omega)
    exact ⟨_, RdL.nil hne, by simp⟩
  | succ n ih =>
    intro w hw
    by_cases h0 : w = []
    · subst h0; exact ⟨_, RdL.nil hne, by simp⟩
    have hpos : 0 < w.length := List.length_pos_iff.2 h0
    have key : ∀ i, i ≤ l.length → ∃ X, RdTo l w i X ∧ X.length ≤ i * (l.length + 1) ^ (w.length - 1) := by
      intro i
      induction i with
      | zero => exact fun _ => ⟨_, RdTo.zero l w, by simp⟩
      | succ i ihi =>
        intro hi
        obtain ⟨X, hX, hXl⟩ := ihi (by omega)
        by_cases hp : ∃ r, w = l.getD i [] ++ r
        · obtain ⟨r, hr⟩ := hp
          have hli : l.getD i [] ≠ [] := hne _ (by
            rw [List.getD_eq_getElem?_getD, List.getElem?_eq_getElem (by omega)]
            exact List.getElem_mem _)
          have hrl : r.length + 1 ≤ w.length := by
            have := congrArg List.length hr
            rw [List.length_append] at this
            have := List.length_pos_iff.2 hli
            omega
          obtain ⟨Y, hY, hYl⟩ := ih r (by omega)
          refine ⟨_, hX.put (by omega) hr hY, ?_⟩
          rw [List.length_append, List.length_map, Nat.add_mul, Nat.one_mul]
          have h1 : (l.length + 1) ^ r.length ≤ (l.length + 1) ^ (w.length - 1) := Nat.pow_le_pow_right (by omega) (by omega)
          omega
        · exact ⟨X, hX.skip fun r hr => hp ⟨r, hr⟩, by rw [Nat.add_mul]; omega⟩
    obtain ⟨X, hX, hXl⟩ := key l.length (Nat.le_refl _)
    refine ⟨X, hX.all h0, Nat.le_trans hXl ?_⟩
    have h1 : (l.length + 1) ^ w.length = (l.length + 1) ^ (w.length - 1) * (l.length + 1) := by
      rw [← Nat.pow_succ]; congr 1; omega
    rw [h1, Nat.mul_comm]
    exact Nat.mul_le_mul_left _ (by omega)
/-- readings by their last words, while words are drawn out of a map: the last word is one of the first i, or it is word i and the rest is one of those seen -/
def LvTo (l : List Bw) (S : Bw → Prop) (i : Nat) (u : Bw) (c : Nat) : Prop := ∃ Y : List (List Nat), Y.Nodup ∧ c ≤ Y.length ∧ ∀ xs ∈ Y, SqL l u xs ∧ ∃ t j, xs = t ++ [j] ∧ (j < i ∨ j = i ∧ ∃ w, S w ∧ u = w ++ l.getD i [])
theorem LvTo.zero (l : List Bw) (S : Bw → Prop) (i : Nat) (u : Bw) : LvTo l S i u 0 := ⟨[], List.Pairwise.nil, Nat.le_refl _, fun xs h => (by cases h)⟩
theorem LvTo.grow {l : List Bw} {S S' : Bw → Prop} {i : Nat} {u : Bw} {c : Nat} (h : LvTo l S i u c) (hS : ∀ w, S w → S' w) : LvTo l S' i u c := by
  obtain ⟨Y, h1, h2, h3⟩ := h
  refine ⟨Y, h1, h2, fun xs hx => ?_⟩
  obtain ⟨h4, t, j, h5, h6⟩ := h3 xs hx
  refine ⟨h4, t, j, h5, h6.imp id fun ⟨h7, w, h8, h9⟩ => ⟨h7, w, hS w h8, h9⟩⟩
theorem LvTo.next {l : List Bw} {S : Bw → Prop} {i : Nat} {u : Bw} {c : Nat} (h : LvTo l S i u c) : LvTo l (fun _ => False) (i + 1) u c := by
  obtain ⟨Y, h1, h2, h3⟩ := h
  refine ⟨Y, h1, h2, fun xs hx => ?_⟩
  obtain ⟨h4, t, j, h5, h6⟩ := h3 xs hx
  exact ⟨h4, t, j, h5, .inl (by rcases h6 with h6 | ⟨h6, _⟩ <;> omega)⟩
theorem LvTo.put {l : List Bw} {S S' : Bw → Prop} {i : Nat} {w : Bw} {c d : Nat} (h : LvTo l S i (w ++ l.getD i []) c) (hi : i < l.length) (hn : ¬ S w) (hS : ∀ w, S w → S' w) (hw : S' w) {X : List (List Nat)} (hX : RdL l w X) (hd : d ≤ X.length) : LvTo l S' i (w ++ l.getD i []) (c + d) := by
  obtain ⟨Y, h1, h2, h3⟩ := h
  refine ⟨Y ++ X.map (· ++ [i]), ?_, by rw [List.length_append, List.length_map]; omega, fun xs hx => ?_⟩
  · rw [List.nodup_append]
    refine ⟨h1, ?_, fun a ha b hb e => ?_⟩
    · unfold List.Nodup
      rw [List.pairwise_map]
      exact hX.1.imp fun hab e => hab (List.append_cancel_right e)
    · obtain ⟨t, _, rfl⟩ := List.mem_map.1 hb
      obtain ⟨_, t', j, h5, h6⟩ := h3 a ha
      rw [e] at h5
      have h7 := List.append_inj' h5 rfl
      have h8 : i = j := by simpa using h7.2
      subst h8
      rcases h6 with h6 | ⟨_, w', h6, h9⟩
      · omega
      · exact hn (by rw [List.append_cancel_right h9]; exact h6)
  · rcases List.mem_append.1 hx with hx | hx
    · obtain ⟨h4, t, j, h5, h6⟩ := h3 xs hx
      exact ⟨h4, t, j, h5, h6.imp id fun ⟨h7, w, h8, h9⟩ => ⟨h7, w, hS w h8, h9⟩⟩
    · obtain ⟨t, ht, rfl⟩ := List.mem_map.1 hx
      exact ⟨((hX.2 t).1 ht).snoc hi, t, i, rfl, .inr ⟨rfl, w, hw, rfl⟩⟩
theorem LvTo.le {l : List Bw} {S : Bw → Prop} {i : Nat} {u : Bw} {c : Nat} (h : LvTo l S i u c) {X : List (List Nat)} (hX : RdL l u X) : c ≤ X.length := by
  obtain ⟨Y, h1, h2, h3⟩ := h
  exact Nat.le_trans h2 (hX.most h1 fun xs hx => (h3 xs hx).1)
end Go.Proofs.Ytmgdglghjlggnaa
namespace Go.Proofs.Ytmgdglghjlggnaa
set_option linter.unusedVariables false
section
variable {α : Type} [DecidableEq α]
/-- the number of a set: a bit for each thing -/
def codeN (x : List α) : List α → Nat
  | [] => 0
  | u :: us => (if u ∈ x then 1 else 0) + 2 * codeN x us
theorem codeN_lt (x : List α) : ∀ U : List α, codeN x U < 2 ^ U.length
  | [] => by show 0 < 1; omega
  | u :: us => by
    have ih := codeN_lt x us
    have hp : 2 ^ (u :: us).length = 2 * 2 ^ us.length := by rw [List.length_cons, Nat.pow_succ]; omega
    show (if u ∈ x then 1 else 0) + 2 * codeN x us < _
    rw [hp]
    split <;> omega
theorem codeN_inj {x y : List α} : ∀ {U : List α}, codeN x U = codeN y U → ∀ u ∈ U, (u ∈ x ↔ u ∈ y)
  | [], _, u, hu => by cases hu
  | v :: us, h, u, hu => by
    have h' : (if v ∈ x then 1 else 0) + 2 * codeN x us = (if v ∈ y then 1 else 0) + 2 * codeN y us := h
    have hh : (v ∈ x ↔ v ∈ y) ∧ codeN x us = codeN y us := by
      by_cases a : v ∈ x <;> by_cases b : v ∈ y <;> simp only [a, b, if_true, if_false] at h' ⊢ <;> simp <;> omega
    rcases List.mem_cons.1 hu with rfl | hu
    · exact hh.1
    · exact codeN_inj hh.2 u hu
theorem one_le_filter {n : Nat} : ∀ {L : List Nat}, L.Nodup → L.length ≤ (L.filter (fun x => decide (x ≠ n))).length + 1
  | [], _ => by simp
  | a :: L, h => by
    rw [List.nodup_cons] at h
    rw [List.filter_cons]
    by_cases e : a = n
    · have : L.filter (fun x => decide (x ≠ n)) = L := by
        rw [List.filter_eq_self]
        intro x hx
        have : x ≠ n := fun e2 => h.1 (by rw [e, ← e2]; exact hx)
        simpa using this
      rw [if_neg (by simpa using e), this, List.length_cons]; exact Nat.le_refl _
    · have ih := one_le_filter (n := n) h.2
      rw [if_pos (by simpa using e), List.length_cons, List.length_cons]
      omega
/-- so many different numbers below n are no more than n -/
theorem nodup_bound : ∀ (n : Nat) (L : List Nat), L.Nodup → (∀ x ∈ L, x < n) → L.length ≤ n
  | 0, L, _, h => by
    cases L with
    | nil => exact Nat.le_refl _
    | cons a l => exact absurd (h a List.mem_cons_self) (Nat.not_lt_zero _)
  | n + 1, L, hn, h => by
    have h1 := one_le_filter (n := n) hn
    have h2 := nodup_bound n (L.filter (fun x => decide (x ≠ n))) (hn.filter _) (fun x hx => by
      rw [List.mem_filter] at hx
      have := h x hx.1
      have h3 : x ≠ n := by simpa using hx.2
      omega)
    omega
theorem nodup_map {β : Type} {f : β → Nat} : ∀ {L : List β}, L.Nodup → (∀ x ∈ L, ∀ y ∈ L, f x = f y → x = y) → (L.map f).Nodup
  | [], _, _ => List.nodup_nil
  | a :: L, h, hi => by
    rw [List.nodup_cons] at h
    rw [List.map_cons, List.nodup_cons]
    refine ⟨fun hm => ?_, nodup_map h.2 (fun x hx y hy => hi x (List.mem_cons_of_mem _ hx) y (List.mem_cons_of_mem _ hy))⟩
    obtain ⟨b, hb, he⟩ := List.mem_map.1 hm
    have := hi a List.mem_cons_self b (List.mem_cons_of_mem _ hb) he.symm
    exact h.1 (by rw [this]; exact hb)
/-- so many different sets over U are no more than there are subsets -/
theorem sets_bound {U : List α} {L : List (List α)} (hn : L.Nodup) (hU : ∀ x ∈ L, ∀ u ∈ x, u ∈ U) (hx : ∀ x ∈ L, ∀ y ∈ L, (∀ u, u ∈ x ↔ u ∈ y) → x = y) : L.length ≤ 2 ^ U.length := by
  have h1 : (L.map fun x => codeN x U).Nodup := nodup_map hn (fun x hx1 y hy1 he => hx x hx1 y hy1 (fun u => by
    by_cases hu : u ∈ U
    · exact codeN_inj he u hu
    · exact ⟨fun h => absurd (hU x hx1 u h) hu, fun h => absurd (hU y hy1 u h) hu⟩))
  have h2 := nodup_bound (2 ^ U.length) _ h1 (fun z hz => by
    obtain ⟨x, _, rfl⟩ := List.mem_map.1 hz
    exact codeN_lt x U)
  rwa [List.length_map] at h2
/-- two strictly sorted lists with the same members are one -/
theorem sorted_ext {lt : α → α → Prop} (hirr : ∀ a, ¬ lt a a) (htr : ∀ a b c, lt a b → lt b c → lt a c) : ∀ {x y : List α}, x.Pairwise lt → y.Pairwise lt → (∀ u, u ∈ x ↔ u ∈ y) → x = y
  | [], y, _, _, h => by
    cases y with
    | nil => rfl
    | cons b y => exact absurd ((h b).2 List.mem_cons_self) (by simp)
  | a :: x, [], _, _, h => absurd ((h a).1 List.mem_cons_self) (by simp)
  | a :: x, b :: y, hx, hy, h => by
    rw [List.pairwise_cons] at hx hy
    have hab : a = b := by
      rcases List.mem_cons.1 ((h a).1 List.mem_cons_self) with e | e
      · exact e
      · rcases List.mem_cons.1 ((h b).2 List.mem_cons_self) with e2 | e2
        · exact e2.symm
        · exact absurd (htr _ _ _ (hx.1 b e2) (hy.1 a e)) (hirr a)
    subst hab
    have hxy : x = y := sorted_ext hirr htr hx.2 hy.2 (fun u => by
      have hu := h u
      rw [List.mem_cons, List.mem_cons] at hu
      by_cases e : u = a
      · subst e
        exact ⟨fun m => absurd (hx.1 u m) (hirr u), fun m => absurd (hy.1 u m) (hirr u)⟩
      · constructor
        · intro m; exact (hu.1 (.inr m)).resolve_left e
        · intro m; exact (hu.2 (.inr m)).resolve_left e)
    rw [hxy]
end
theorem sorted_nodup {α : Type} {lt : α → α → Prop} (hirr : ∀ a, ¬ lt a a) : ∀ {x : List α}, x.Pairwise lt → x.Nodup
  | [], _ => List.nodup_nil
  | a :: x, h => by
    rw [List.pairwise_cons] at h
    rw [List.nodup_cons]
    exact ⟨fun m => hirr a (h.1 a m), sorted_nodup hirr h.2⟩
end Go.Proofs.Ytmgdglghjlggnaa
namespace Go.Proofs.Ytmgdglghjlggnaa
open Go.RowKit Go.Sort
set_option linter.unusedVariables false
/-- the order of words, at their bytes -/
def ltW (a b : List UInt8) : Bool := decide (a.length < b.length ∨ (a.length = b.length ∧ a < b))
theorem ltW_irrefl (a : List UInt8) : ltW a a = false := by
  have : ¬ a < a := List.lt_irrefl a
  simp [ltW, this]
theorem ltW_trans {a b c : List UInt8} (h : ltW a b = true) (h' : ltW b c = true) : ltW a c = true := by
  simp only [ltW, decide_eq_true_eq] at *
  rcases h with h | ⟨h, h2⟩ <;> rcases h' with h' | ⟨h', h3⟩
  · left; omega
  · left; omega
  · left; omega
  · right; exact ⟨by omega, List.lt_trans h2 h3⟩
theorem ltW_total {a b : List UInt8} (h : ltW a b = false) (h' : ltW b a = false) : a = b := by
  simp only [ltW, decide_eq_false_iff_not, not_or, not_and] at *
  have h1 : a.length = b.length := by omega
  have h2 : ¬ a < b := h.2 h1
  have h3 : ¬ b < a := h'.2 h1.symm
  exact List.le_antisymm (List.not_lt.1 h3) (List.not_lt.1 h2)
theorem ltW_asym {a b : List UInt8} (h : ltW a b = true) : ltW b a = false := by
  cases e : ltW b a
  · rfl
  · have := ltW_trans h e
    rw [ltW_irrefl] at this; cases this
theorem ltW_swo : SWO ltW where
  irrefl := ltW_irrefl
  trans := fun _ _ _ => ltW_trans
  ntrans := fun x y z h h' => by
    cases e : ltW x z
    · rfl
    · cases e1 : ltW y x
      · have := ltW_total h e1
        subst this
        rw [e] at h'; cases h'
      · have := ltW_trans e1 e
        rw [this] at h'; cases h'
/-- strictly sorted -/
def SortedW (l : List (List UInt8)) : Prop := l.Pairwise (fun a b => ltW a b = true)
theorem SortedW.ext {x y : List (List UInt8)} (hx : SortedW x) (hy : SortedW y) (h : ∀ u, u ∈ x ↔ u ∈ y) : x = y :=
  sorted_ext (lt := fun a b => ltW a b = true) (fun a h => by rw [ltW_irrefl] at h; cases h) (fun a b c => ltW_trans) hx hy h
theorem SortedW.nodup {x : List (List UInt8)} (hx : SortedW x) : x.Nodup := sorted_nodup (lt := fun a b => ltW a b = true) (fun a h => by rw [ltW_irrefl] at h; cases h) hx
theorem bang_at {zs : List (List UInt8)} {j : Nat} (h : j < zs.length) : zs.toArray[j]! = zs[j] := by
  rw [getElem!_pos _ _ (by simpa using h)]; simp
/-- weakly sorted: a later one is not less -/
def WeakW (l : List (List UInt8)) : Prop := l.Pairwise (fun a b => ltW b a = false)
theorem WeakW.at {zs : List (List UInt8)} (h : WeakW zs) {i j : Nat} (hij : i ≤ j) (hj : j < zs.length) : ltW zs[j] (zs[i]'(by omega)) = false := by
  rcases Nat.lt_or_ge i j with hlt | hge
  · exact (List.pairwise_iff_getElem.1 h) i j (by omega) hj hlt
  · have : i = j := by omega
    subst this; exact ltW_irrefl _
theorem compact_sorted {zs : List (List UInt8)} (h : WeakW zs) : SortedW (Go.Lib.compact zs) := by
  unfold SortedW Go.Lib.compact Go.Lib.compactUpTo
  rw [List.pairwise_map]
  have h0 : ((List.range zs.length).filter (Go.Lib.keeps zs.toArray)).Pairwise (· < ·) := List.Pairwise.filter _ List.pairwise_lt_range
  refine List.Pairwise.imp_of_mem (fun {i j} hi hj hij => ?_) h0
  have hi' := List.mem_filter.1 hi
  have hj' := List.mem_filter.1 hj
  have hjl := List.mem_range.1 hj'.1
  have hk : zs.toArray[j]! ≠ zs.toArray[j - 1]! := by
    have := hj'.2
    simp only [Go.Lib.keeps, decide_eq_true_eq] at this
    rcases this with e | e
    · omega
    · exact e
  rw [bang_at (by omega), bang_at (by omega)] at hk ⊢
  have h1 := h.at (i := i) (j := j - 1) (by omega) (by omega)
  have h2 := h.at (i := j - 1) (j := j) (by omega) (by omega)
  cases e : ltW zs[i] zs[j]
  · have h3 := ltW_swo.ntrans _ _ _ e (ltW_swo.ntrans _ _ _ h2 h1)
    have e1 := ltW_total e (ltW_swo.ntrans _ _ _ h2 h1)
    have e2 : ltW zs[j - 1] zs[j] = false := by
      cases e3 : ltW zs[j - 1] zs[j]
      · rfl
      · rw [← e1] at e3
        rw [e3] at h1; cases h1
    exact absurd (ltW_total h2 e2) hk
  · rfl
theorem compact_memW (zs : List (List UInt8)) (x : List UInt8) : x ∈ Go.Lib.compact zs ↔ x ∈ zs := by
  unfold Go.Lib.compact Go.Lib.compactUpTo
  constructor
  · intro h
    obtain ⟨i, hi, rfl⟩ := List.mem_map.1 h
    have := List.mem_range.1 (List.mem_filter.1 hi).1
    rw [bang_at this]
    exact List.getElem_mem this
  · intro h
    have key : ∀ i, i < zs.length → zs.toArray[i]! ∈ List.map (zs.toArray[·]!) ((List.range zs.length).filter (Go.Lib.keeps zs.toArray)) := by
      intro i
      induction i with
      | zero => exact fun h => List.mem_map.2 ⟨0, List.mem_filter.2 ⟨List.mem_range.2 h, by simp [Go.Lib.keeps]⟩, rfl⟩
      | succ i ih =>
        intro hi
        by_cases he : zs.toArray[i + 1]! = zs.toArray[i]!
        · rw [he]; exact ih (by omega)
        · exact List.mem_map.2 ⟨i + 1, List.mem_filter.2 ⟨List.mem_range.2 hi, by simp only [Go.Lib.keeps, decide_eq_true_eq]; exact .inr he⟩, rfl⟩
    obtain ⟨i, hi, rfl⟩ := List.getElem_of_mem h
    rw [← bang_at hi]
    exact key i hi
/-- the sorted list of the members of a list -/
def ordW (l : List (List UInt8)) : List (List UInt8) := Go.Lib.compact (l.mergeSort fun x y => !ltW y x)
theorem sort_weak (l : List (List UInt8)) : WeakW (l.mergeSort fun x y => !ltW y x) := by
  have h := List.pairwise_mergeSort (le := fun x y => !ltW y x) (fun a b c h1 h2 => by
    simp only [Bool.not_eq_true'] at *
    exact ltW_swo.ntrans _ _ _ h2 h1) (fun a b => by
    cases e : ltW b a
    · simp
    · simp [ltW_asym e]) l
  exact h.imp (fun h => by simpa using h)
theorem ordW_sorted (l : List (List UInt8)) : SortedW (ordW l) := compact_sorted (sort_weak l)
theorem ordW_mem (l : List (List UInt8)) (x : List UInt8) : x ∈ ordW l ↔ x ∈ l := by
  unfold ordW
  rw [compact_memW, List.mem_mergeSort]
end Go.Proofs.Ytmgdglghjlggnaa
