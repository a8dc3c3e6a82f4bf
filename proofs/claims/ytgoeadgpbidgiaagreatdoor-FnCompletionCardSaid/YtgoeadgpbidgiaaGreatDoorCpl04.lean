/-
  The laws' own helpers over slices of strings.
-/
import Derived.Test.YtgoeadgpbidgiaaGreatDoorCpl03
import Derived.Lib.SlicesCompact
import Derived.Sort.Statements
import Derived.Sort.Walk0
import Derived.Maps.AppendAt
import Derived.Laws.OwnMore
import Derived.Test.YtgoeadgpbidgiaaGreatDoorCpl01
import Derived.ProofKit
import Derived.OpenShut
import Derived.Lib.SmallJoins
import Derived.SliceStrings
namespace Go.Proofs.YtgoeadgpbidgiaaGreatDoor
open Go.RowKit Go.Sort
set_option linter.unusedVariables false
/-- the order of words, at their bytes -/
def ltW (a b : List UInt8) : Bool := decide (a.length < b.length ∨ (a.length = b.length ∧ a < b))
theorem ltW_irrefl (a : List UInt8) : ltW a a = false := by
  have : ¬ a < a := List.lt_irrefl a
  simp [ltW, this]
theorem ltW_trans {a b c : List UInt8} (h : ltW a b = true) (h' : ltW b c = true) : ltW a c = true := by
  simp only [ltW, decide_eq_true_eq] at *
  rcases h with h | ⟨h, h2⟩ <;> rcases h' with h' | ⟨h', h3⟩
  · left; omega
  · left; omega
  · left; omega
  · right; exact ⟨by omega, List.lt_trans h2 h3⟩
theorem ltW_total {a b : List UInt8} (h : ltW a b = false) (h' : ltW b a = false) : a = b := by
  simp only [ltW, decide_eq_false_iff_not, not_or, not_and] at *
  have h1 : a.length = b.length := by omega
  have h2 : ¬ a < b := h.2 h1
  have h3 : ¬ b < a := h'.2 h1.symm
  exact List.le_antisymm (List.not_lt.1 h3) (List.not_lt.1 h2)
theorem ltW_asym {a b : List UInt8} (h : ltW a b = true) : ltW b a = false := by
  cases e : ltW b a
  · rfl
  · have := ltW_trans h e
    rw [ltW_irrefl] at this; cases this
theorem ltW_swo : SWO ltW where
  irrefl := ltW_irrefl
  trans := fun _ _ _ => ltW_trans
  ntrans := fun x y z h h' => by
    cases e : ltW x z
    · rfl
    · cases e1 : ltW y x
      · have := ltW_total h e1
        subst this
        rw [e] at h'; cases h'
      · have := ltW_trans e1 e
        rw [this] at h'; cases h'
/-- strictly sorted -/
def SortedW (l : List (List UInt8)) : Prop := l.Pairwise (fun a b => ltW a b = true)
theorem SortedW.ext {x y : List (List UInt8)} (hx : SortedW x) (hy : SortedW y) (h : ∀ u, u ∈ x ↔ u ∈ y) : x = y :=
  sorted_ext (lt := fun a b => ltW a b = true) (fun a h => by rw [ltW_irrefl] at h; cases h) (fun a b c => ltW_trans) hx hy h
theorem SortedW.nodup {x : List (List UInt8)} (hx : SortedW x) : x.Nodup := sorted_nodup (lt := fun a b => ltW a b = true) (fun a h => by rw [ltW_irrefl] at h; cases h) hx
theorem bang_at {zs : List (List UInt8)} {j : Nat} (h : j < zs.length) : zs.toArray[j]! = zs[j] := by
  rw [getElem!_pos _ _ (by simpa using h)]; simp
/-- weakly sorted: a later one is not less -/
def WeakW (l : List (List UInt8)) : Prop := l.Pairwise (fun a b => ltW b a = false)
theorem WeakW.at {zs : List (List UInt8)} (h : WeakW zs) {i j : Nat} (hij : i ≤ j) (hj : j < zs.length) : ltW zs[j] (zs[i]'(by omega)) = false := by
  rcases Nat.lt_or_ge i j with hlt | hge
  · exact (List.pairwise_iff_getElem.1 h) i j (by omega) hj hlt
  · have : i = j := by omega
    subst this; exact ltW_irrefl _
theorem compact_sorted {zs : List (List UInt8)} (h : WeakW zs) : SortedW (Go.Lib.compact zs) := by
  unfold SortedW Go.Lib.compact Go.Lib.compactUpTo
  rw [List.pairwise_map]
  have h0 : ((List.range zs.length).filter (Go.Lib.keeps zs.toArray)).Pairwise (· < ·) := List.Pairwise.filter _ List.pairwise_lt_range
  refine List.Pairwise.imp_of_mem (fun {i j} hi hj hij => ?_) h0
  have hi' := List.mem_filter.1 hi
  have hj' := List.mem_filter.1 hj
  have hjl := List.mem_range.1 hj'.1
  have hk : zs.toArray[j]! ≠ zs.toArray[j - 1]! := by
    have := hj'.2
    simp only [Go.Lib.keeps, decide_eq_true_eq] at this
    rcases this with e | e
    · omega
    · exact e
  rw [bang_at (by omega), bang_at (by omega)] at hk ⊢
  have h1 := h.at (i := i) (j := j - 1) (by omega) (by omega)
  have h2 := h.at (i := j - 1) (j := j) (by omega) (by omega)
  cases e : ltW zs[i] zs[j]
  · have h3 := ltW_swo.ntrans _ _ _ e (ltW_swo.ntrans _ _ _ h2 h1)
    have e1 := ltW_total e (ltW_swo.ntrans _ _ _ h2 h1)
    have e2 : ltW zs[j - 1] zs[j] = false := by
      cases e3 : ltW zs[j - 1] zs[j]
      · rfl
      · rw [← e1] at e3
        rw [e3] at h1; cases h1
    exact absurd (ltW_total h2 e2) hk
  · rfl
theorem compact_memW (zs : List (List UInt8)) (x : List UInt8) : x ∈ Go.Lib.compact zs ↔ x ∈ zs := by
  unfold Go.Lib.compact Go.Lib.compactUpTo
  constructor
  · intro h
    obtain ⟨i, hi, rfl⟩ := List.mem_map.1 h
    have := List.mem_range.1 (List.mem_filter.1 hi).1
    rw [bang_at this]
    exact List.getElem_mem this
  · intro h
    have key : ∀ i, i < zs.length → zs.toArray[i]! ∈ List.map (zs.toArray[·]!) ((List.range zs.length).filter (Go.Lib.keeps zs.toArray)) := by
      intro i
      induction i with
      | zero => exact fun h => List.mem_map.2 ⟨0, List.mem_filter.2 ⟨List.mem_range.2 h, by simp [Go.Lib.keeps]⟩, rfl⟩
      | succ i ih =>
        intro hi
        by_cases he : zs.toArray[i + 1]! = zs.toArray[i]!
        · rw [he]; exact ih (by omega)
        · exact List.mem_map.2 ⟨i + 1, List.mem_filter.2 ⟨List.mem_range.2 hi, by simp only [Go.Lib.keeps, decide_eq_true_eq]; exact .inr he⟩, rfl⟩
    obtain ⟨i, hi, rfl⟩ := List.getElem_of_mem h
    rw [← bang_at hi]
    exact key i hi
/-- the sorted list of the members of a list -/
def ordW (l : List (List UInt8)) : List (List UInt8) := Go.Lib.compact (l.mergeSort fun x y => !ltW y x)
theorem sort_weak (l : List (List UInt8)) : WeakW (l.mergeSort fun x y => !ltW y x) := by
  have h := List.pairwise_mergeSort (le := fun x y => !ltW y x) (fun a b c h1 h2 => by
    simp only [Bool.not_eq_true'] at *
    exact ltW_swo.ntrans _ _ _ h2 h1) (fun a b => by
    cases e : ltW b a
    · simp
    · simp [ltW_asym e]) l
  exact h.imp (fun h => by simpa using h)
theorem ordW_sorted (l : List (List UInt8)) : SortedW (ordW l) := compact_sorted (sort_weak l)
theorem ordW_mem (l : List (List UInt8)) (x : List UInt8) : x ∈ ordW l ↔ x ∈ l := by
  unfold ordW
  rw [compact_memW, List.mem_mergeSort]
/-- a word comes to its place in a sorted list -/
def insK (w : List UInt8) (l : List (List UInt8)) (k : Nat) : List (List UInt8) := l.take k ++ [w] ++ l.drop k
theorem insK_mem {w : List UInt8} {l : List (List UInt8)} {k : Nat} (x : List UInt8) : x ∈ insK w l k ↔ x ∈ l ∨ x = w := by
  unfold insK
  rw [List.mem_append, List.mem_append, List.mem_singleton]
  conv => rhs; rw [← List.take_append_drop k l, List.mem_append]
  constructor
  · rintro ((h | h) | h)
    · exact .inl (.inl h)
    · exact .inr h
    · exact .inl (.inr h)
  · rintro ((h | h) | h)
    · exact .inl (.inl h)
    · exact .inr h
    · exact .inl (.inr h)
theorem insK_sorted {w : List UInt8} {l : List (List UInt8)} {k : Nat} (hl : SortedW l) (hw : ¬ w ∈ l) (hk : k ≤ l.length) (hlo : ∀ i (h : i < l.length), i < k → ltW l[i] w = true) (hhi : ∀ h : k < l.length, ltW l[k] w = false) : SortedW (insK w l k) := by
  have hlt : ∀ x ∈ l.take k, ltW x w = true := fun x hx => by
    obtain ⟨i, hi, rfl⟩ := List.getElem_of_mem hx
    rw [List.length_take] at hi
    rw [List.getElem_take]
    exact hlo i (by omega) (by omega)
  have hgt : ∀ x ∈ l.drop k, ltW w x = true := fun x hx => by
    obtain ⟨i, hi, rfl⟩ := List.getElem_of_mem hx
    rw [List.length_drop] at hi
    rw [List.getElem_drop]
    have hkl : k < l.length := by omega
    have hne : ∀ y ∈ l, ltW y w = false → ltW w y = true := fun y hy h => by
      cases e : ltW w y
      · have := ltW_total h e
        subst this
        exact absurd hy hw
      · rfl
    have h1 := hne _ (List.getElem_mem hkl) (hhi hkl)
    rcases Nat.eq_zero_or_pos i with h0 | h0
    · subst h0; simpa using h1
    · exact ltW_trans h1 ((List.pairwise_iff_getElem.1 hl) k (k + i) hkl (by omega) (by omega))
  unfold SortedW insK
  rw [List.pairwise_append, List.pairwise_append]
  refine ⟨⟨hl.sublist (List.take_sublist _ _), List.pairwise_singleton _ _, fun a ha b hb => ?_⟩, hl.sublist (List.drop_sublist _ _), fun a ha b hb => ?_⟩
  · rw [List.mem_singleton.1 hb]; exact hlt a ha
  · rcases List.mem_append.1 ha with ha | ha
    · exact ltW_trans (hlt a ha) (hgt b hb)
    · rw [List.mem_singleton.1 ha]; exact hgt b hb
theorem insK_len {w : List UInt8} {l : List (List UInt8)} {k : Nat} (hk : k ≤ l.length) : (insK w l k).length = l.length + 1 := by
  unfold insK
  simp only [List.length_append, List.length_take, List.length_drop, List.length_singleton]
  omega
end Go.Proofs.YtgoeadgpbidgiaaGreatDoor
namespace Go.Proofs.YtgoeadgpbidgiaaGreatDoor
open Go.RowKit
set_option linter.unusedVariables false
/-- a slice from which elements are taken -/
def Src (w : World) (x : Value) (m : Nat) (news : List Value) : Prop :=
  (x = .slice none 0 0 ∧ m = 0 ∧ news = []) ∨ ∃ ad c, x = .slice (some ad) m c ∧ ∀ j u, news[j]? = some u → w.cell? (ad.add j) = some u
theorem add_off (b o j : Nat) : (⟨b, o, none⟩ : Addr).add j = ⟨b, o + j, none⟩ := by unfold Addr.add; split <;> simp_all
theorem Src.of_cells {w : World} {ad : Addr} {m c : Nat} {news : List Value} (h : CellsIn w (some ad) news) : Src w (.slice (some ad) m c) m news := by
  refine .inr ⟨ad, c, rfl, fun j u hu => ?_⟩
  rcases h with h | ⟨b, off, ha, hc⟩
  · subst h; simp at hu
  · obtain rfl := Option.some.inj ha
    obtain ⟨hj, rfl⟩ := List.getElem?_eq_some_iff.1 hu
    rw [add_off]
    exact hc j hj
theorem Src.of_owns {w : World} {base : Nat} {T : TypeId} {size : Nat} {x : Value} {m : Nat} {news : List Value} (h : w.ownsRow base T size x m news) : Src w x m news := by
  rcases h.2 with ⟨hv, h0⟩ | ⟨g, cap, cur, hv, hb, hg, hn, hc, hs, ht⟩
  · refine .inl ⟨hv, h0, List.eq_nil_of_length_eq_zero (by rw [h.1, h0, Nat.zero_mul])⟩
  · subst hv
    refine .inr ⟨_, _, rfl, fun j u hu => ?_⟩
    obtain ⟨hj, rfl⟩ := List.getElem?_eq_some_iff.1 hu
    rw [add_off, Nat.zero_add, h.cellAt j (by have := h.1; omega)]
    exact hu
theorem Src.lit {w : World} {T : TypeId} {c m : Nat} (news : List Value) : Src (w.alloc (.cells news.toArray T)) (.slice (some ⟨w.heap.size, 0, none⟩) m c) m news := by
  refine .inr ⟨_, _, rfl, fun j u hu => ?_⟩
  rw [add_off, Nat.zero_add, World.cell?_alloc_new]
  simpa using hu
theorem Src.later {w w' : World} {x : Value} {m : Nat} {news : List Value} (h : Src w x m news) (hb : Below w.heap.size w w') : Src w' x m news := by
  rcases h with h | ⟨ad, c, hx, hc⟩
  · exact .inl h
  · refine .inr ⟨ad, c, hx, fun j u hu => ?_⟩
    have h1 := hc j u hu
    rw [hb.cell (World.block_lt_of_cell? w _ h1)]
    exact h1
section
variable {P : Program}
theorem run_appM {tsl ty T : TypeId} {z : Value} {size bytes : Nat} (ht : P.underlying tsl = some (.slice T)) (hinfo : (P.info? T).map (fun i => (i.zero, i.size, i.bytes)) = some (some z, size, bytes))
    (hzs : z.cells.size = size) (hpos : 0 < size) {w wr : World} {v x : Value} {n m : Nat} {xs news : List Value} (hb : Bld T size w wr v n xs) (hx : Src wr x m news)
    (hn : news.length = m * size) (h1 : ∀ u ∈ news, u.oneCell' = true) (h63 : n + m ≤ maxLen) (hbytes : (n + m) * bytes ≤ 140737488355328) :
    ∃ v' w', (Builtin.append_ #[tsl, tsl] ty #[v, x]).run P wr = .ok v' w' ∧ Bld T size w w' v' (n + m) (xs ++ news) ∧ wr.grownBy w' v.ownBlock ∧ (v'.ownBlock = v.ownBlock ∨ v'.ownBlock = some wr.heap.size) := by
  obtain ⟨i0, hi, hz0, hz1, hz2⟩ := info_parts hinfo
  rcases hx with ⟨rfl, rfl, rfl⟩ | ⟨ad, c, rfl, hc⟩
  · refine ⟨v, wr, run_append_owned_none wr w.heap.size tsl ty T i0 size ht hi v n xs hb.1, by simpa using hb, ⟨rfl, rfl, rfl, Nat.le_refl _, fun _ _ _ => rfl⟩, .inl rfl⟩
  · obtain ⟨v', w', hr, h2, h3, h4, h5⟩ := run_append_own_at (P := P) wr w.heap.size tsl ty T i0 z size bytes ht hi hz0 hz1 hz2 hzs hpos v n xs hb.1 ad m c news hn hc h1 h63 hbytes hb.2.size
    exact ⟨v', w', hr, ⟨h2, hb.2.grown h3 hb.2.size (owns_block hb.1)⟩, h3, h5⟩
/-- append of m elements, at a step of a region that draws its order -/
theorem step_appM {ops : Array Oper} {o : Oper} {a : Act} {K : Act → World → Prop} {Q : Exit → Act → World → Prop} {E : Prop} {T tsl : TypeId} {z : Value} {size bytes : Nat} (hg : o.guard = none) (s x : Operand)
    (ho : o.op = .call { callee := .builtin .append, args := #[s, x], argTypes := #[tsl, tsl] }) (ht : P.underlying tsl = some (.slice T)) (hinfo : (P.info? T).map (fun i => (i.zero, i.size, i.bytes)) = some (some z, size, bytes))
    (hzs : z.cells.size = size) (hpos : 0 < size) {w wr : World} {v u : Value} {n m : Nat} {xs news : List Value} (hs : a.eval s = v) (hb : Bld T size w wr v n xs) (hx : a.eval x = u) (hsrc : Src wr u m news)
    (hn : news.length = m * size) (h1 : ∀ u ∈ news, u.oneCell' = true) (h63 : n + m ≤ maxLen) (hbytes : (n + m) * bytes ≤ 140737488355328)
    (hK : ∀ v' w', Bld T size w w' v' (n + m) (xs ++ news) → wr.grownBy w' v.ownBlock → (v'.ownBlock = v.ownBlock ∨ v'.ownBlock = some wr.heap.size) → K (a.put o.dst v') w') : if Region.wanted o (yielded ops a.tmps) = true then Oper.wp P o a wr K Q else E := by
  have hw : Region.wanted o (yielded ops a.tmps) = true := by simp [Region.wanted, hg]
  rw [if_pos hw]
  obtain ⟨v', w', hr, h2, h3, h4⟩ := run_appM (ty := o.type) ht hinfo hzs hpos hb hsrc hn h1 h63 hbytes
  unfold Oper.wp execOp
  simp only [ho, resolve, invoke, builtin, Sem.run_bind, Sem.run_pure, Result.andThen_ok, List.map_toArray, List.map_cons, List.map_nil, hs, hx, hr]
  exact hK _ _ h2 h3 h4
/-- the same at a plain region's list -/
theorem wpList_appM {ops : Array Oper} {rest : List Oper} {o : Oper} {a : Act} {Q : Exit → Act → World → Prop} {T tsl : TypeId} {z : Value} {size bytes : Nat} (hg : o.guard = none) (s x : Operand)
    (ho : o.op = .call { callee := .builtin .append, args := #[s, x], argTypes := #[tsl, tsl] }) (ht : P.underlying tsl = some (.slice T)) (hinfo : (P.info? T).map (fun i => (i.zero, i.size, i.bytes)) = some (some z, size, bytes))
    (hzs : z.cells.size = size) (hpos : 0 < size) {w wr : World} {v u : Value} {n m : Nat} {xs news : List Value} (hs : a.eval s = v) (hb : Bld T size w wr v n xs) (hx : a.eval x = u) (hsrc : Src wr u m news)
    (hn : news.length = m * size) (h1 : ∀ u ∈ news, u.oneCell' = true) (h63 : n + m ≤ maxLen) (hbytes : (n + m) * bytes ≤ 140737488355328)
    (hK : ∀ v' w', Bld T size w w' v' (n + m) (xs ++ news) → wr.grownBy w' v.ownBlock → (v'.ownBlock = v.ownBlock ∨ v'.ownBlock = some wr.heap.size) → wpList P ops Q rest (a.put o.dst v') w') : wpList P ops Q (o :: rest) a wr := by
  refine wpList_plain hg fun K hK' => ?_
  obtain ⟨v', w', hr, h2, h3, h4⟩ := run_appM (ty := o.type) ht hinfo hzs hpos hb hsrc hn h1 h63 hbytes
  unfold Oper.wp execOp
  simp only [ho, resolve, invoke, builtin, Sem.run_bind, Sem.run_pure, Result.andThen_ok, List.map_toArray, List.map_cons, List.map_nil, hs, hx, hr]
  exact hK' _ _ (hK _ _ h2 h3 h4)
end
end Go.Proofs.YtgoeadgpbidgiaaGreatDoor
namespace Go.Proofs.YtgoeadgpbidgiaaGreatDoor
set_option linter.unusedVariables false
section
variable {α : Type} (F : List α → Prop) (N : List α → List α → Prop)
/-- behind the sets out (the last one first) the set S comes up -/
def comesB : List (List α) → List α → Prop
  | [], S => F S
  | X :: out, S => comesB out X ∧ N X S
/-- the run is over: the set that would come is empty or was there -/
def endsB (out : List (List α)) (S : List α) : Prop := comesB F N out S ∧ (S = [] ∨ S ∈ out)
/-- every set of the run came up where it was neither empty nor there before -/
def freshB : List (List α) → Prop
  | [] => True
  | X :: out => freshB out ∧ comesB F N out X ∧ X ≠ [] ∧ ¬ X ∈ out
variable {F N}
theorem comes_uniq (hF : ∀ S S', F S → F S' → S = S') (hN : ∀ X S S', N X S → N X S' → S = S') : ∀ {out : List (List α)} {S S' : List α}, comesB F N out S → comesB F N out S' → S = S'
  | [], S, S', h, h' => hF S S' h h'
  | X :: out, S, S', h, h' => hN X S S' h.2 h'.2
/-- of two runs one is the beginning of the other -/
theorem fresh_pre (hF : ∀ S S', F S → F S' → S = S') (hN : ∀ X S S', N X S → N X S' → S = S') : ∀ {out out' : List (List α)}, freshB F N out → freshB F N out' → out.length ≤ out'.length → ∃ t, out' = t ++ out
  | out, [], h, h', hl => by
    have : out = [] := List.eq_nil_of_length_eq_zero (by simpa using hl)
    exact ⟨[], by rw [this]; rfl⟩
  | out, X :: out', h, h', hl => by
    rcases Nat.lt_or_ge out'.length out.length with hlt | hge
    · cases out with
      | nil => simp at hlt
      | cons Y out =>
        have hlen : out.length = out'.length := by simp at hl hlt; omega
        obtain ⟨t, ht⟩ := fresh_pre hF hN h.1 h'.1 (Nat.le_of_eq hlen)
        have ht0 : t = [] := by
          have := congrArg List.length ht
          rw [List.length_append] at this
          exact List.eq_nil_of_length_eq_zero (by omega)
        subst ht0
        rw [List.nil_append] at ht
        subst ht
        have := comes_uniq hF hN h.2.1 h'.2.1
        exact ⟨[], by rw [this]; rfl⟩
    · obtain ⟨t, ht⟩ := fresh_pre hF hN h h'.1 hge
      exact ⟨X :: t, by rw [ht]; rfl⟩
/-- a run that is over is one -/
theorem ends_uniq (hF : ∀ S S', F S → F S' → S = S') (hN : ∀ X S S', N X S → N X S' → S = S') {out out' : List (List α)} {S S' : List α} (h : freshB F N out) (h' : freshB F N out') (he : endsB F N out S) (he' : endsB F N out' S') : out = out' := by
  have key : ∀ {o o' : List (List α)} {R R' : List α}, freshB F N o → freshB F N o' → endsB F N o R → o.length < o'.length → False := by
    intro o o' R R' h1 h2 h3 hl
    obtain ⟨t, ht⟩ := fresh_pre hF hN h1 h2 (Nat.le_of_lt hl)
    have htl : 0 < t.length := by
      have := congrArg List.length ht
      rw [List.length_append] at this; omega
    -- the set that comes behind o stands in o'
    have hsub : ∀ {t : List (List α)}, 0 < t.length → freshB F N (t ++ o) → ∃ X, comesB F N o X ∧ X ≠ [] ∧ ¬ X ∈ o := by
      intro t
      induction t with
      | nil => intro h; simp at h
      | cons Y t ih =>
        intro _ hf
        rcases Nat.eq_zero_or_pos t.length with h0 | h0
        · have : t = [] := List.eq_nil_of_length_eq_zero h0
          subst this
          exact ⟨Y, hf.2.1, hf.2.2.1, hf.2.2.2⟩
        · exact ih h0 hf.1
    obtain ⟨X, hx, hx1, hx2⟩ := hsub htl (by rw [← ht]; exact h2)
    have := comes_uniq hF hN hx h3.1
    subst this
    rcases h3.2 with e | e
    · exact hx1 e
    · exact hx2 e
  rcases Nat.lt_trichotomy out.length out'.length with hl | hl | hl
  · exact (key (R' := S') h h' he hl).elim
  · obtain ⟨t, ht⟩ := fresh_pre hF hN h h' (Nat.le_of_eq hl)
    have : t = [] := by
      have := congrArg List.length ht
      rw [List.length_append] at this
      exact List.eq_nil_of_length_eq_zero (by omega)
    subst this
    exact ht.symm
  · exact (key (R' := S) h' h he' hl).elim
end
end Go.Proofs.YtgoeadgpbidgiaaGreatDoor
namespace Go.Proofs.YtgoeadgpbidgiaaGreatDoor
open Go.RowKit
set_option linter.unusedVariables false
/-- an answer that tells whether P -/
def RetP (P : Prop) (w : World) (e : Ending) (w' : World) : Prop := ∃ b : Bool, (b = true ↔ P) ∧ e = .returned (.bool b) ∧ Below w.heap.size w w'
theorem RetP.yes {P : Prop} {w w' : World} (h : P) (hb : Below w.heap.size w w') : RetP P w (.returned (.bool true)) w' := ⟨true, ⟨fun _ => h, fun _ => rfl⟩, rfl, hb⟩
theorem RetP.no {P : Prop} {w w' : World} (h : ¬ P) (hb : Below w.heap.size w w') : RetP P w (.returned (.bool false)) w' := ⟨false, ⟨fun h => (by cases h), fun h2 => absurd h2 h⟩, rfl, hb⟩
theorem bytes_eq {a b : ByteArray} : (a.toList == b.toList) = true ↔ a = b := by
  rw [beq_iff_eq, ByteArray.toList_eq, ByteArray.toList_eq]
  constructor
  · intro h
    obtain ⟨⟨x⟩⟩ := a
    obtain ⟨⟨y⟩⟩ := b
    have : x = y := h
    rw [this]
  · intro h; rw [h]
end Go.Proofs.YtgoeadgpbidgiaaGreatDoor
namespace Go.Proofs.YtgoeadgpbidgiaaGreatDoor
open Go.RowKit
set_option linter.unusedVariables false
theorem Tryz.infoStr : (Tryz.prog.info? 9).map (fun i => (i.zero, i.size, i.bytes)) = some (some (.string ⟨#[]⟩), 1, 16) := by kernel_rfl
theorem nil_app (x : ByteArray) : (⟨#[]⟩ : ByteArray) ++ x = x := by ext1; simp
def strVals (l : List ByteArray) : List Value := l.map Value.string
theorem strVals_len (l : List ByteArray) : (strVals l).length = l.length := by simp [strVals]
theorem owns_strs {w : World} {base : Nat} {T : TypeId} {size : Nat} {a : Option Addr} {n m cap : Nat} {l : List ByteArray} (h : w.ownsRow base T size (.slice a m cap) n (strVals l)) : StrsIn w a l := owns_cells h
theorem owns_capS {w : World} {base : Nat} {T : TypeId} {size : Nat} {a : Option Addr} {n m cap : Nat} {xs : List Value} (h : w.ownsRow base T size (.slice a n cap) m xs) : n ≤ cap ∧ cap ≤ maxLen := by
  rcases h.2 with ⟨hv, h0⟩ | ⟨g, cap', cur, hv, hb, hg, hn, hc, r⟩
  · simp only [Value.slice.injEq] at hv
    obtain ⟨_, rfl, rfl⟩ := hv
    exact ⟨Nat.le_refl _, Nat.zero_le _⟩
  · simp only [Value.slice.injEq] at hv
    obtain ⟨_, rfl, rfl⟩ := hv
    exact ⟨hn, hc⟩
set_option maxHeartbeats 400000 in
theorem implJoin_any (l : List ByteArray) (sep : ByteArray) (a : Option Addr) (cap : Nat) (w : World) (hl : StrsIn w a l) (hs0 : 0 < sep.size) (hs1 : sep.size ≤ 1000) (hlen : l.length ≤ 2 ^ 40) (hcap : l.length ≤ cap ∧ cap ≤ maxLen)
    (hsz : (joinF l sep).size ≤ 2 ^ 46) :
    Calls Tryz.prog 49 #[.slice a l.length cap, .string sep] w fun e w' => e = .returned (.string (joinF l sep)) ∧ Below w.heap.size w w' := by
  have HJ := Lib.hid (join_any l sep a cap w hl hs0 hs1 hlen hcap hsz)
  clear hl hsz
  go_enter Tryz.func49, Tryz.ntmps49
  go_wp2_with fail
  refine HJ.out.mono ?_
  rintro e w2 ⟨rfl, hb2⟩
  go_wp2_with fail
  go_ret
  exact ⟨rfl, hb2⟩
/-- a full stop for the empty word -/
def dotB (s : ByteArray) : ByteArray := if s.toList.isEmpty = true then ⟨#[46]⟩ else s
theorem dotB_size (s : ByteArray) : (dotB s).size ≤ s.size + 1 := by
  unfold dotB
  split
  · show 1 ≤ _; omega
  · omega
set_option maxHeartbeats 400000 in
theorem l03Side_any (s : ByteArray) (w : World) :
    Calls Tryz.prog 121 #[.string s] w fun e w' => e = .returned (.string (dotB s)) ∧ w = w' := by
  cases h : s.toList.isEmpty
  · have F : Hid (dotB s = s) := Lib.hid (by simp [dotB, h])
    go_enter Tryz.func121, Tryz.ntmps121
    go_wp2_with fail
    go_ret
    exact ⟨ret_str F.out.symm, rfl⟩
  · have F : Hid (dotB s = ⟨#[46]⟩) := Lib.hid (by simp [dotB, h])
    go_enter Tryz.func121, Tryz.ntmps121
    go_wp2_with fail
    go_ret
    exact ⟨ret_str F.out.symm, rfl⟩
set_option maxHeartbeats 400000 in
theorem dotted_any (s : ByteArray) (w : World) :
    Calls Tryz.prog 95 #[.string s] w fun e w' => e = .returned (.string (dotB s)) ∧ w = w' := by
  cases h : s.toList.isEmpty
  · have F : Hid (dotB s = s) := Lib.hid (by simp [dotB, h])
    go_enter Tryz.func95, Tryz.ntmps95
    go_wp2_with fail
    go_ret
    exact ⟨ret_str F.out.symm, rfl⟩
  · have F : Hid (dotB s = ⟨#[46]⟩) := Lib.hid (by simp [dotB, h])
    go_enter Tryz.func95, Tryz.ntmps95
    go_wp2_with fail
    go_ret
    exact ⟨ret_str F.out.symm, rfl⟩
end Go.Proofs.YtgoeadgpbidgiaaGreatDoor
namespace Go.Proofs.YtgoeadgpbidgiaaGreatDoor
open Go.RowKit
set_option linter.unusedVariables false
/-- the sizes of all -/
theorem sumTo_eq (l : List ByteArray) : ∀ j, j ≤ l.length → sumTo l j = ((l.take j).map ByteArray.size).sum
  | 0, _ => by simp [sumTo]
  | j + 1, h => by
    rw [sumTo, sumTo_eq l j (by omega), List.take_succ_eq_append_getElem (by omega), nthS_lt (by omega), List.map_append, List.sum_append]
    simp only [List.map_cons, List.map_nil, List.sum_cons, List.sum_nil, Nat.add_zero]
def strSum (l : List ByteArray) : Nat := (l.map ByteArray.size).sum
theorem joinF_size (l : List ByteArray) (sep : ByteArray) : (joinF l sep).size ≤ strSum l + sep.size * l.length := by
  unfold joinF
  cases h : l.length with
  | zero => exact Nat.zero_le _
  | succ n =>
    rw [joinTo_size, sumTo_eq l _ (by omega), List.take_of_length_le (by omega), Nat.mul_succ]
    unfold strSum
    omega
theorem strSum_dot (l : List ByteArray) : strSum (l.map dotB) ≤ strSum l + l.length := by
  unfold strSum
  induction l with
  | nil => simp
  | cons a l ih =>
    have := dotB_size a
    simp only [List.map_cons, List.sum_cons, List.length_cons] at *
    omega
/-- the first j of them with full stops -/
def dotTo (l : List ByteArray) (j : Nat) : List ByteArray := (l.take j).map dotB
theorem dotTo_len {l : List ByteArray} {j : Nat} (h : j ≤ l.length) : (dotTo l j).length = j := by simp [dotTo]; omega
theorem dotTo_succ {l : List ByteArray} {j : Nat} (h : j < l.length) : dotTo l (j + 1) = dotTo l j ++ [dotB (nthS l j)] := by
  unfold dotTo; rw [List.take_succ_eq_append_getElem h, nthS_lt h, List.map_append]; rfl
theorem dotTo_all (l : List ByteArray) : dotTo l l.length = l.map dotB := by unfold dotTo; rw [List.take_of_length_le (Nat.le_refl _)]
/-- FormatWords as a function of plain data -/
def fmtWords (l : List ByteArray) : ByteArray := if l.length = 0 then ⟨#[45]⟩ else joinF (l.map dotB) ⟨#[44]⟩
theorem fmtWords_zero {l : List ByteArray} (h : l.length = 0) : fmtWords l = ⟨#[45]⟩ := by simp [fmtWords, h]
theorem fmtWords_pos {l : List ByteArray} (h : 0 < l.length) : fmtWords l = joinF (dotTo l l.length) ⟨#[44]⟩ := by rw [dotTo_all]; simp [fmtWords, show ¬ l.length = 0 by omega]
theorem fmtWords_size {l : List ByteArray} (h : l.length ≤ 2 ^ 40) (h2 : strSum l ≤ 2 ^ 40) : (joinF (dotTo l l.length) ⟨#[44]⟩).size ≤ 2 ^ 46 := by
  have h1 := joinF_size (dotTo l l.length) ⟨#[44]⟩
  have h3 := strSum_dot l
  rw [dotTo_len (Nat.le_refl _)] at h1
  rw [dotTo_all] at h1 ⊢
  have : (ByteArray.mk #[44]).size = 1 := rfl
  rw [this] at h1
  omega
end Go.Proofs.YtgoeadgpbidgiaaGreatDoor
namespace Go.Proofs.YtgoeadgpbidgiaaGreatDoor
open Go.ChangeShapes Go.WideShapes Go.ChangeAt Go.RowKit Go.Joins Go.Deep
set_option linter.unusedVariables false
/-- all arguments read as they did, if below the old heap's size nothing has turned -/
theorem trodAll_below {H : Type} {enc : TypeId × Value → H} {P : Program} (hl : laidOutB P = true) {W W' : World} (hb : Below W.heap.size W W') :
    ∀ (ts : List TypeId) (vs : List Value) (ds : List (DataW H)) (ps : List MemPlace), (∀ t ∈ ts, P.readableRec t = true ∧ t < P.types.size) → (∀ x ∈ ps, x.block < W.heap.size) →
      DataW.TrodAll enc P W 0 (fun _ => true) true ts vs ds ps → DataW.TrodAll enc P W' 0 (fun b => decide (b < W.heap.size)) true ts vs ds ps
  | [], vs, ds, ps, _, _, h => by
    cases vs <;> cases ds <;> simp_all [DataW.TrodAll]
  | t :: ts, vs, ds, ps, hr, hp, h => by
    cases vs with
    | nil => cases ds <;> simp [DataW.TrodAll] at h
    | cons v vs =>
      cases ds with
      | nil => simp [DataW.TrodAll] at h
      | cons d ds =>
        obtain ⟨p, p', h1, h2, rfl⟩ := h
        exact ⟨p, p', Below.trod hl (hr t (by simp)).1 (hr t (by simp)).2 h1 hb (fun x hx => hp x (by simp [hx])),
          trodAll_below hl hb ts vs ds p' (fun t' ht' => hr t' (by simp [ht'])) (fun x hx => hp x (by simp [hx])) h2, rfl⟩
/-- what a law's row asks behind the walk -/
theorem law_post {H : Type} {enc : TypeId × Value → H} {P : Program} {f : Func} {s : ChangeSpec} {W W' : World} {args : Array Value} {ds : List (DataW H)} {before : List MemPlace} {tb : TypeId}
    (hl : laidOutB P = true) (hr : ∀ t ∈ f.params.toList, P.readableRec t = true ∧ t < P.types.size) (hv : s.vars = [])
    (hW : DataW.Whole enc P f.params.toList s.vars false W args.toList ds [] before) (hft : f.resultTypes = #[tb]) (htb : P.underlying tb = some .bool)
    (hfn : s.fn H (ds ++ []) = { results := [.lit (.bool true)], args := ds }) (hb : Below W.heap.size W W') :
    s.post enc P f false true false false W args (.bool true) W' := by
  have hW' := hW
  obtain ⟨p, q, hA0, hV, hpq, hfz, hnd⟩ := hW'
  rw [hv] at hV
  obtain ⟨_, rfl⟩ := trodVars_none hV
  simp only [List.append_nil] at hpq
  subst hpq
  have hlt : ∀ x ∈ before, x.block < W.heap.size := fun x hx => hW.lt x hx
  refine ⟨ds, [], before, [], before, [], hW, ?_, ?_, ?_, ?_, fun h => by cases h⟩
  · rw [hfn, hft]
    exact trodAll_cons_mk (shut_bool htb _) trodAll_mk0
  · rw [hfn]
    exact trodAll_below hl hb _ _ _ _ hr hlt hA0
  · rw [hfn, hv]
    rfl
  · exact hb.frame _
/-- a slice of integers that came in -/
theorem open_intsIn {H : Type} {enc : TypeId × Value → H} {P : Program} {w : World} {t e : TypeId} {fuel : Nat} {cs : List Value} {x : DataW H × List MemPlace} (ht : P.underlying t = some (.slice e)) (he : P.underlying e = some (.int .i64)) (hc : P.cellsOf e = 1)
    (h : DataW.trod enc P w 0 (fun _ => true) true fuel t cs = some x) : ∃ a l cap, cs = [.slice a l.length cap] ∧ IntsIn w a l ∧ l.length ≤ 9223372036854775807 := by
  rcases open_ints ht he hc h with ⟨rfl, _⟩ | ⟨a, len, cap, zs, rfl, _, hl, hm, hz, _, hcell, _⟩
  · exact ⟨none, [], 0, rfl, .inl rfl, by simp⟩
  · simp only [if_true] at hz
    have hlen : (zs.take len).length = len := by rw [List.length_take]; omega
    refine ⟨some a, zs.take len, cap, by rw [hlen], ?_, by rw [hlen]; unfold maxLen at hm; omega⟩
    by_cases h0 : len = 0
    · left; subst h0; simp
    · obtain ⟨b, off, rfl, hc'⟩ := ints_at hcell (by omega)
      right
      refine ⟨b, off, rfl, fun i hi => ?_⟩
      rw [List.length_map, hlen] at hi
      rw [hc' i (by omega)]
      simp [List.getElem_take, List.getD_eq_getElem?_getD, show i < zs.length by omega]
/-- a table that came in -/
theorem open_tableIn {H : Type} {enc : TypeId × Value → H} {P : Program} {w : World} {r : Reach} {b0 : Nat} {t ti : TypeId} {f0 f1 : Field} {v : Value} {d : DataW H} {p : List MemPlace} (hs : P.underlying t = some (.struct #[f0, f1])) (hone : oneCellFields P #[f0, f1] = true) (hC : P.cellsOf t = 2)
    (h0 : P.underlying f0.type = some (.int .i64)) (h1 : P.underlying f1.type = some (.slice ti)) (hi : P.underlying ti = some (.int .i64)) (hci : P.cellsOf ti = 1)
    (hv : Value.okWide P w r b0 t v) (h : DataW.Trod enc P w 0 (fun _ => true) true t v d p) : ∃ n a l cap, v = .agg #[.int .i64 n, .slice a l.length cap] ∧ IntsIn w a l ∧ l.length ≤ 9223372036854775807 := by
  obtain ⟨c0, c1, y0, y1, m, rfl, _, _, hy0, hy1⟩ := open_agg2 hs hone hC hv h
  obtain ⟨n, e0, _, _⟩ := DataW.trod_int h0 hy0
  obtain ⟨a, l, cap, e1, hl, hn⟩ := open_intsIn h1 hi hci hy1
  simp only [List.cons.injEq, and_true] at e0 e1
  subst e0 e1
  exact ⟨n, a, l, cap, rfl, hl, hn⟩
end Go.Proofs.YtgoeadgpbidgiaaGreatDoor
namespace Go.Proofs.YtgoeadgpbidgiaaGreatDoor
open Go.RowKit Go.ChangeShapes Go.WideShapes Go.ChangeAt
set_option linter.unusedVariables false
theorem strSum_take (l : List ByteArray) {j : Nat} (h : j ≤ l.length) : sumTo l j ≤ strSum l := by
  have := sumTo_mono l h
  rw [sumTo_eq l l.length (Nat.le_refl _), List.take_of_length_le (Nat.le_refl _)] at this
  exact this
theorem strSum_all (l : List ByteArray) : sumTo l l.length = strSum l := by
  rw [sumTo_eq l l.length (Nat.le_refl _), List.take_of_length_le (Nat.le_refl _)]; rfl
/-- what szStringS hands back -/
def szF (left : Int) (l : List ByteArray) : Int := if left < (l.length : Int) + strSum l then -1 else left - l.length - strSum l
theorem szF_big {left : Int} {l : List ByteArray} (h : left < (l.length : Int) + strSum l) : szF left l = -1 := by simp [szF, h]
theorem szF_ok {left : Int} {l : List ByteArray} (h : ¬ left < (l.length : Int) + strSum l) : szF left l = left - l.length - strSum l := by simp only [szF, if_neg h]
/-- a slice of strings that came in -/
theorem open_strsIn {H : Type} {enc : TypeId × Value → H} {P : Program} {w : World} {r : Reach} {b0 : Nat} {t e : TypeId} {v : Value} {d : DataW H} {p : List MemPlace} (ht : P.underlying t = some (.slice e)) (he : P.underlying e = some .string) (hc : P.cellsOf e = 1)
    (hv : Value.okWide P w r b0 t v) (h : DataW.Trod enc P w 0 (fun _ => true) true t v d p) : ∃ a l cap, v = .slice a l.length cap ∧ StrsIn w a l ∧ l.length ≤ 9223372036854775807 ∧ ∀ j, j < l.length → (nthS l j).size ≤ maxLen := by
  obtain ⟨a0, len0, cap0, rfl⟩ := okWide_slice ht hv
  obtain ⟨fuel, hf⟩ := h
  rcases open_strings ht he hc hf with ⟨hcs, _⟩ | ⟨a, len, cap, ss, hcs, _, hl, hm, hz, _, hcell, hsz⟩
  · have e : (Value.slice a0 len0 cap0) = .slice none 0 0 := by simpa [Value.cells] using hcs
    rw [e]
    exact ⟨none, [], 0, rfl, .inl rfl, by simp, fun j hj => absurd hj (by simp)⟩
  · have e : (Value.slice a0 len0 cap0) = .slice (some a) len cap := by simpa [Value.cells] using hcs
    rw [e]
    simp only [if_true] at hz
    have hlen : (ss.take len).length = len := by rw [List.length_take]; omega
    have hat : ∀ j, j < len → nthS (ss.take len) j = ss.getD j ByteArray.empty := fun j hj => by
      rw [nthS_lt (by omega), List.getD_eq_getElem?_getD, List.getElem?_eq_getElem (by omega)]
      simp
    refine ⟨some a, ss.take len, cap, by rw [hlen], ?_, by rw [hlen]; unfold maxLen at hm; omega, fun j hj => ?_⟩
    · by_cases h0 : len = 0
      · left; subst h0; simp
      · obtain ⟨b, off, spot⟩ := a
        have hspot : spot = none := by simpa [Addr.add] using World.cell?_spot (hcell 0 (by omega))
        subst hspot
        right
        refine ⟨b, off, rfl, fun i hi => ?_⟩
        rw [List.length_map, hlen] at hi
        have := hcell i (by omega)
        rw [add_plain] at this
        rw [this, List.getElem_map, ← nthS_lt (by omega), hat i hi]
    · rw [hlen] at hj
      rw [hat j hj, List.getD_eq_getElem?_getD, List.getElem?_eq_getElem (by omega)]
      exact hsz _ (List.getElem_mem _)
end Go.Proofs.YtgoeadgpbidgiaaGreatDoor
