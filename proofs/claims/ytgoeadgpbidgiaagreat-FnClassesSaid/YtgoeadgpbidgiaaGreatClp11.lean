/-
  The pairs of the reference: one rule inside of another one, and across.
-/
import Derived.Test.YtgoeadgpbidgiaaGreatClp04
import Derived.Test.YtgoeadgpbidgiaaGreatClp10
import Derived.Test.YtgoeadgpbidgiaaGreatClp09
import Derived.Deep.RegionHeld3
import Derived.Test.YtgoeadgpbidgiaaGreatClp08
import Derived.Sort.Walk0
import Derived.Test.YtgoeadgpbidgiaaGreatClp06
import Derived.Test.YtgoeadgpbidgiaaGreatClp07
import Derived.Deep.DeepCutAuto
namespace Go.Proofs.YtgoeadgpbidgiaaGreat
open Go.RowKit
set_option linter.unusedVariables false
theorem alloc_new (w : World) (o : Obj) : (w.alloc o).heap[w.heap.size]? = some o := by
  unfold World.alloc; simp
theorem alloc_old (w : World) (o : Obj) {k : Nat} (h : k < w.heap.size) : (w.alloc o).heap[k]? = w.heap[k]? := by
  unfold World.alloc; rw [Array.getElem?_push_lt h, Array.getElem?_eq_getElem h]
theorem alloc_size (w : World) (o : Obj) : (w.alloc o).heap.size = w.heap.size + 1 := by simp
theorem two_lo (w : World) (o o' : Obj) : ((w.alloc o).alloc o').heap[w.heap.size]? = some o := by
  rw [alloc_old _ _ (by rw [alloc_size]; omega)]; exact alloc_new _ _
theorem Src.grown {w w' : World} {H m c : Nat} {own : Option Nat} {news : List Value} (h : Src w (.slice (some ⟨H, 0, none⟩) m c) m news) (hg : w.grownBy w' own) (hH : H < w.heap.size) (hne : own ≠ some H) : Src w' (.slice (some ⟨H, 0, none⟩) m c) m news := by
  rcases h with ⟨h, _⟩ | ⟨ad, c', hx, hc⟩
  · cases h
  · simp only [Value.slice.injEq, Option.some.injEq, true_and] at hx
    obtain ⟨rfl, rfl⟩ := hx
    refine .inr ⟨_, _, rfl, fun j u hu => ?_⟩
    rw [add_off]
    have h1 := hc j u hu
    rw [add_off] at h1
    rw [World.cell?_of_block (w := w) (hg.block H hH (fun e => hne e.symm))]
    exact h1
section
variable {P : Program}
end
theorem owns_strsIn2 {w : World} {base : Nat} {T : TypeId} {a : Option Addr} {n cap : Nat} {l : List ByteArray} (h : w.ownsRow base T 1 (.slice a n cap) n (strVals l)) : StrsIn w a l := owns_cells h
end Go.Proofs.YtgoeadgpbidgiaaGreat
namespace Go.Proofs.YtgoeadgpbidgiaaGreat
open Go.RowKit
set_option linter.unusedVariables false
end Go.Proofs.YtgoeadgpbidgiaaGreat
namespace Go.Proofs.YtgoeadgpbidgiaaGreat
open Go.RowKit
set_option linter.unusedVariables false
theorem ApartW.add {V : WayD} (hap : ApartW V) (a c : Nat) : ApartW (addW V a c) := by
  unfold ApartW addW
  rw [List.pairwise_iff_getElem]
  intro i j hi hj hij
  have h1 := (List.pairwise_iff_getElem.1 hap) i j (by simpa using hi) (by simpa using hj) hij
  rw [List.getElem_modify, List.getElem_modify]
  split <;> split <;> exact h1
theorem ApartW.push {V : WayD} (hap : ApartW V) {v : ByteArray} {c : Nat} (hv : ∀ p ∈ V, p.1 ≠ v) : ApartW (V ++ [(v, c)]) := by
  unfold ApartW
  rw [List.pairwise_append]
  exact ⟨hap, List.pairwise_singleton _ _, fun p hp q hq => by rw [List.mem_singleton.1 hq]; exact hv p hp⟩
def EndsW (k : Nat) (V : WayD) : Prop := ∀ p ∈ V, EndP k p.1
theorem EndsW.add {k : Nat} {V : WayD} (h : EndsW k V) (a c : Nat) : EndsW k (addW V a c) := fun p hp => by
  unfold addW at hp
  obtain ⟨j, hj, he⟩ := List.getElem_of_mem hp
  rw [List.getElem_modify] at he
  have h1 := h _ (List.getElem_mem (show j < V.length by simpa using hj))
  split at he
  · rw [← he]; exact h1
  · rw [← he]; exact h1
theorem EndsW.push {k : Nat} {V : WayD} (h : EndsW k V) {v : ByteArray} {c : Nat} (hv : EndP k v) : EndsW k (V ++ [(v, c)]) := fun p hp => by
  rcases List.mem_append.1 hp with hp | hp
  · exact h p hp
  · rw [List.mem_singleton.1 hp]; exact hv
theorem apart_few {k : Nat} (hk : k ≤ 4) {V : WayD} (h : ApartW V) (he : EndsW k V) : V.length ≤ 21845 := by
  have h1 := ends_few hk (l := V.map (·.1)) (by
    unfold List.Nodup
    rw [List.pairwise_map]
    exact h) (fun e hm => by
    obtain ⟨p, hp, rfl⟩ := List.mem_map.1 hm
    exact he p hp)
  simpa using h1
/-- the ways of a length, the ends apart -/
structure WayAtA (R : List RulD) (k i : Nat) (W : WayD) : Prop where
  way : WayAt R k i W
  apart : ApartW W
  ends : EndsW k W
theorem WayAtA.start (R : List RulD) (k : Nat) : WayAtA R k 0 [(⟨#[]⟩, 1)] := ⟨WayAt.start R k, List.pairwise_singleton _ _, fun p hp => by rw [List.mem_singleton.1 hp]; exact EndP.nil k⟩
theorem WayAtA.few {R : List RulD} {k i : Nat} {W : WayD} (hk : k ≤ 4) (h : WayAtA R k i W) : W.length ≤ 21845 := apart_few hk h.apart h.ends
structure WayTA (R : List RulD) (k : Nat) (W : WayD) (i j : Nat) (e : ByteArray) (c : Nat) (V : WayD) : Prop where
  way : WayTo R k W i j e c V
  apart : ApartW V
  ends : EndsW k V
theorem WayTA.start (R : List RulD) (k : Nat) (W : WayD) (e : ByteArray) (c : Nat) : WayTA R k W 0 0 e c [] := ⟨WayTo.start R k W e c, List.Pairwise.nil, fun p hp => by cases hp⟩
theorem WayTA.few {R : List RulD} {k : Nat} {W V : WayD} {i j c : Nat} {e : ByteArray} (hk : k ≤ 4) (h : WayTA R k W i j e c V) : V.length ≤ 21845 := apart_few hk h.apart h.ends
theorem WayTA.no {R : List RulD} {k : Nat} {W V : WayD} {i j c : Nat} {e : ByteArray} (h : WayTA R k W i j e c V) (hx : okX R e j = false) : WayTA R k W i (j + 1) e c V := ⟨h.way.no hx, h.apart, h.ends⟩
theorem WayTA.old {R : List RulD} {k : Nat} {W V : WayD} {i j c a : Nat} {e : ByteArray} (h : WayTA R k W i j e c V) (hx : okX R e j = true) (ha : a < V.length) (he : V[a].1 = nxtX R e j) : WayTA R k W i (j + 1) e c (addW V a c) :=
  ⟨h.way.old hx ha he, h.apart.add _ _, h.ends.add _ _⟩
theorem WayTA.new {R : List RulD} {k : Nat} {W V : WayD} {i j c : Nat} {e : ByteArray} (h : WayTA R k W i j e c V) (hx : okX R e j = true) (hc : 1 ≤ c) (hn : ∀ p ∈ V, p.1 ≠ nxtX R e j) (hE : EndP k (nxtX R e j)) : WayTA R k W i (j + 1) e c (V ++ [(nxtX R e j, c)]) :=
  ⟨h.way.new hx hc, h.apart.push hn, h.ends.push hE⟩
theorem WayTA.row {R : List RulD} {k : Nat} {W V : WayD} {i : Nat} (hi : i < W.length) (h : WayTA R k W i k W[i].1 W[i].2 V) (e : ByteArray) (c : Nat) : WayTA R k W (i + 1) 0 e c V := ⟨h.way.row hi e c, h.apart, h.ends⟩
theorem WayTA.other {R : List RulD} {k : Nat} {W V : WayD} {i : Nat} {e e' : ByteArray} {c c' : Nat} (h : WayTA R k W i 0 e c V) : WayTA R k W i 0 e' c' V := ⟨h.way.other, h.apart, h.ends⟩
theorem WayTA.done {R : List RulD} {k n : Nat} {W V : WayD} {e : ByteArray} {c : Nat} (hW : WayAtA R k n W) (h : WayTA R k W W.length 0 e c V) : WayAtA R k (n + 1) V := ⟨h.way.done hW.way, h.apart, h.ends⟩
theorem WayTA.le {R : List RulD} {k n : Nat} {W V : WayD} {i j : Nat} (hW : WayAtA R k n W) (hi : i < W.length) (hj : j ≤ k) (h : WayTA R k W i j W[i].1 W[i].2 V) : wsum R k 0 V ≤ paths R k (n + 1) ⟨#[]⟩ := by
  rw [h.way.eq 0]
  have h1 := wsum_take_le R k (0 + 1) W (i + 1)
  rw [wsum_take _ _ _ _ hi, paths_succ] at h1
  have h2 := pTo_mono R k 0 W[i].1 hj
  have h3 : W[i].2 * pTo R k 0 W[i].1 j ≤ W[i].2 * pTo R k 0 W[i].1 k := Nat.mul_le_mul_left _ h2
  have h4 := hW.way.eq (0 + 1)
  have h6 : n + (0 + 1) = n + 1 := by omega
  rw [h6] at h4
  omega
end Go.Proofs.YtgoeadgpbidgiaaGreat
namespace Go.Proofs.YtgoeadgpbidgiaaGreat
open Go.RowKit
set_option linter.unusedVariables false
end Go.Proofs.YtgoeadgpbidgiaaGreat
namespace Go.Proofs.YtgoeadgpbidgiaaGreat
open Go.RowKit
set_option linter.unusedVariables false
end Go.Proofs.YtgoeadgpbidgiaaGreat
namespace Go.Proofs.YtgoeadgpbidgiaaGreat
open Go.RowKit
set_option linter.unusedVariables false
/-- one letter more -/
def stepW (R : List RulD) (k : Nat) (w : ByteArray) : List ByteArray := (List.range k).flatMap fun x => if okX R w x = true then [w ++ letterN x] else []
/-- all reduced words from w by m letters -/
def wordsF (R : List RulD) (k : Nat) : Nat → ByteArray → List ByteArray
  | 0, w => [w]
  | m + 1, w => (List.range k).flatMap fun x => if okX R w x = true then wordsF R k m (w ++ letterN x) else []
theorem flat_if {α β : Type} (l : List Nat) (p : Nat → Bool) (f : Nat → List α) (g : α → List β) : (l.flatMap fun x => if p x = true then f x else []).flatMap g = l.flatMap fun x => if p x = true then (f x).flatMap g else [] := by
  rw [List.flatMap_assoc]
  congr 1
  funext x
  split <;> rfl
theorem wordsF_step (R : List RulD) (k : Nat) : ∀ (m : Nat) (w : ByteArray), wordsF R k (m + 1) w = (wordsF R k m w).flatMap (stepW R k)
  | 0, w => by
    show _ = ([w] : List ByteArray).flatMap (stepW R k)
    rw [List.flatMap_singleton]
    rfl
  | m + 1, w => by
    have e : wordsF R k (m + 1) w = (List.range k).flatMap fun x => if okX R w x = true then wordsF R k m (w ++ letterN x) else [] := rfl
    rw [e, flat_if]
    show (List.range k).flatMap _ = _
    congr 1
    funext x
    split
    · exact wordsF_step R k m (w ++ letterN x)
    · rfl
theorem len_flat (l : List Nat) (p : Nat → Bool) (f : Nat → List ByteArray) : (l.flatMap fun x => if p x = true then f x else []).length = (l.map fun x => if p x = true then (f x).length else 0).sum := by
  rw [List.length_flatMap]
  congr 1
  apply List.map_congr_left
  intro x _
  split <;> rfl
theorem wordsF_len {R : List RulD} (hne : LeftsP R) (k : Nat) : ∀ (m : Nat) (w : ByteArray), (wordsF R k m w).length = paths R k m w
  | 0, w => rfl
  | m + 1, w => by
    show ((List.range k).flatMap _).length = _
    rw [len_flat, paths_succ]
    unfold pTo
    congr 1
    apply List.map_congr_left
    intro x _
    rw [wordsF_len hne k m (w ++ letterN x), paths_nxt hne]
theorem wordsF_size (R : List RulD) (k : Nat) : ∀ (m : Nat) (w : ByteArray), ∀ u ∈ wordsF R k m w, u.size = w.size + m
  | 0, w, u, hu => by rw [List.mem_singleton.1 hu]; rfl
  | m + 1, w, u, hu => by
    obtain ⟨x, _, h2⟩ := List.mem_flatMap.1 hu
    split at h2
    · have h3 := wordsF_size R k m _ u h2
      rw [ByteArray.size_append, letterN_size] at h3
      omega
    · cases h2
theorem wordsF_pre (R : List RulD) (k : Nat) : ∀ (m : Nat) (w : ByteArray), ∀ u ∈ wordsF R k m w, ∃ t, u.data.toList = w.data.toList ++ t
  | 0, w, u, hu => ⟨[], by rw [List.mem_singleton.1 hu]; simp⟩
  | m + 1, w, u, hu => by
    obtain ⟨x, _, h2⟩ := List.mem_flatMap.1 hu
    split at h2
    · obtain ⟨t, ht⟩ := wordsF_pre R k m _ u h2
      rw [app_lt] at ht
      exact ⟨lt97 x :: t, by rw [ht]; simp⟩
    · cases h2
/-- Go's order of strings -/
def ltB (a b : ByteArray) : Bool := Op.bytesLess a.data.toList b.data.toList
theorem less_app (p s t : Wd) : Op.bytesLess (p ++ s) (p ++ t) = Op.bytesLess s t := by
  induction p with
  | nil => rfl
  | cons a p ih =>
    have h1 : ¬ a < a := UInt8.lt_irrefl a
    simp only [List.cons_append, Op.bytesLess, ih, beq_self_eq_true, Bool.true_and, decide_eq_false h1, Bool.false_or]
theorem less_head {a b : UInt8} (h : a < b) (s t : Wd) : Op.bytesLess (a :: s) (b :: t) = true := by
  simp [Op.bytesLess, h]
theorem lt97_lt {x y : Nat} (h : x < y) (hy : y < 4) : lt97 x < lt97 y := by
  rw [UInt8.lt_iff_toNat_lt]
  unfold lt97
  simp
  omega
/-- the words rise -/
theorem wordsF_rise {R : List RulD} {k : Nat} (hk : k ≤ 4) : ∀ (m : Nat) (w : ByteArray), (wordsF R k m w).Pairwise (fun a b => ltB a b = true)
  | 0, w => List.pairwise_singleton _ _
  | m + 1, w => by
    show ((List.range k).flatMap _).Pairwise _
    rw [List.pairwise_flatMap]
    refine ⟨fun x hx => ?_, ?_⟩
    · split
      · exact wordsF_rise hk m _
      · exact List.Pairwise.nil
    · refine List.pairwise_lt_range.imp_of_mem ?_
      intro x y hx hy hxy a ha b hb
      split at ha
      · split at hb
        · obtain ⟨s, hs⟩ := wordsF_pre R k m _ a ha
          obtain ⟨t, ht⟩ := wordsF_pre R k m _ b hb
          have := List.mem_range.1 hy
          unfold ltB
          rw [hs, ht, app_lt, app_lt, List.append_assoc, List.append_assoc, less_app]
          exact less_head (lt97_lt hxy (by omega)) _ _
        · cases hb
      · cases ha
end Go.Proofs.YtgoeadgpbidgiaaGreat
namespace Go.Proofs.YtgoeadgpbidgiaaGreat
open Go.RowKit
set_option linter.unusedVariables false
/-- the words of less than i letters -/
def outTo (R : List RulD) (k i : Nat) : List ByteArray := (List.range i).flatMap fun m => wordsF R k m ⟨#[]⟩
theorem outTo_len {R : List RulD} (hne : LeftsP R) (k i : Nat) : (outTo R k i).length = pSum R k i := by
  unfold outTo pSum
  rw [List.length_flatMap]
  congr 1
  apply List.map_congr_left
  intro m _
  exact wordsF_len hne k m _
/-- what AllReduced hands back -/
def RetAll (k : Int) (R : List RulD) (w : World) (e : Ending) (w' : World) : Prop :=
  (¬ (∃ c, CntIs k R c ∧ 0 ≤ c ∧ c ≤ 256) ∧ e = .returned (.tuple #[.slice none 0 0, .bool false]) ∧ Below w.heap.size w w') ∨
  ∃ (kn h : Nat), k = (kn : Int) ∧ SysG R kn ∧ HtIs R kn ⟨#[]⟩ (h : Int) ∧ pSum R kn (h + 1) ≤ 256 ∧ (∃ c, CntIs k R c ∧ 0 ≤ c ∧ c ≤ 256) ∧ ∃ a cap, e = .returned (.tuple #[.slice a (outTo R kn (h + 1)).length cap, .bool true]) ∧
    w'.ownsRow w.heap.size 9 1 (.slice a (outTo R kn (h + 1)).length cap) (outTo R kn (h + 1)).length (strVals (outTo R kn (h + 1))) ∧ Below w.heap.size w w'
end Go.Proofs.YtgoeadgpbidgiaaGreat
namespace Go.Proofs.YtgoeadgpbidgiaaGreat
open Go.RowKit
set_option linter.unusedVariables false
open Classical in
/-- the normal form of a word, if there is one -/
noncomputable def nfC (R : List RulD) (u : ByteArray) : ByteArray := if h : ∃ x, NormIs R u x then Classical.choose h else ⟨#[]⟩
theorem nfC_eq {R : List RulD} {u x : ByteArray} (h : NormIs R u x) : nfC R u = x := by
  have h1 : ∃ x, NormIs R u x := ⟨x, h⟩
  unfold nfC
  rw [dif_pos h1]
  exact (Classical.choose_spec h1).uniq h
/-- the place of a word among words -/
def idxTo (L : List ByteArray) (v : ByteArray) (j : Nat) : Option Nat := (List.range j).find? fun i => (nthS L i).toList == v.toList
def idxB (L : List ByteArray) (v : ByteArray) : Int := match idxTo L v L.length with | some i => (i : Int) | none => -1
/-- the entries of a row of the table, up to a column -/
noncomputable def rowTo (R : List RulD) (L : List ByteArray) (i j : Nat) : List Int := (List.range j).map fun b => idxB L (nfC R (nthS L i ++ nthS L b))
/-- the entries of the rows before i, and of the row i up to a column -/
noncomputable def prodTo (R : List RulD) (L : List ByteArray) (i j : Nat) : List Int := ((List.range i).flatMap fun a => rowTo R L a L.length) ++ rowTo R L i j
noncomputable def prodF (R : List RulD) (L : List ByteArray) : List Int := (List.range L.length).flatMap fun a => rowTo R L a L.length
theorem prodTo_done (R : List RulD) (L : List ByteArray) : prodTo R L L.length 0 = prodF R L := by
  unfold prodTo prodF
  simp [rowTo]
theorem prodTo_len (R : List RulD) (L : List ByteArray) (i j : Nat) : (prodTo R L i j).length = i * L.length + j := by
  unfold prodTo
  rw [List.length_append]
  have h : ∀ n, ((List.range n).flatMap fun a => rowTo R L a L.length).length = n * L.length := fun n => by
    induction n with
    | zero => simp
    | succ n ih =>
      rw [List.range_succ, List.flatMap_append, List.length_append, ih, Nat.succ_mul]
      simp [rowTo]
  rw [h]
  simp [rowTo]
theorem prodTo_few {R : List RulD} {L : List ByteArray} (h : L.length ≤ 40) {i j : Nat} (hi : i ≤ L.length) (hj : j ≤ L.length) : (prodTo R L i j).length ≤ 1640 := by
  rw [prodTo_len]
  have : i * L.length ≤ 40 * 40 := Nat.mul_le_mul (by omega) h
  omega
end Go.Proofs.YtgoeadgpbidgiaaGreat
namespace Go.Proofs.YtgoeadgpbidgiaaGreat
open Go.RowKit
set_option linter.unusedVariables false
theorem Tryz.infoPair : (Tryz.prog.info? 114).map (fun i => (i.zero, i.size, i.bytes)) = some (some (.agg #[.string ⟨#[]⟩, .int .i64 0, .int .i64 0, .int .i64 0, .int .i64 0]), 5, 48) := by kernel_rfl
/-- pairs of the first q places -/
def inTo (R : List RulD) (i j : Nat) (S : List Nat) (q : Nat) : List PairD := (S.take q).map (inP R i j)
def acTo (R : List RulD) (i j : Nat) (S : List Nat) (q : Nat) : List PairD := (S.take q).map (acP R i j)
theorem inTo_len (R : List RulD) (i j : Nat) (S : List Nat) (q : Nat) : (inTo R i j S q).length ≤ S.length := by unfold inTo; rw [List.length_map, List.length_take]; omega
theorem acTo_len (R : List RulD) (i j : Nat) (S : List Nat) (q : Nat) : (acTo R i j S q).length ≤ S.length := by unfold acTo; rw [List.length_map, List.length_take]; omega
theorem inTo_succ (R : List RulD) (i j : Nat) {S : List Nat} {q : Nat} (h : q < S.length) : inTo R i j S (q + 1) = inTo R i j S q ++ [inP R i j S[q]] := by
  unfold inTo; rw [List.take_succ_eq_append_getElem h, List.map_append]; rfl
theorem acTo_succ (R : List RulD) (i j : Nat) {S : List Nat} {q : Nat} (h : q < S.length) : acTo R i j S (q + 1) = acTo R i j S q ++ [acP R i j S[q]] := by
  unfold acTo; rw [List.take_succ_eq_append_getElem h, List.map_append]; rfl
theorem cells_prV (l : List PairD) (p : PairD) : cellsL prV (l ++ [p]) = cellsL prV l ++ [.string p.1, .int .i64 (p.2.1 : Nat), .int .i64 0, .int .i64 (p.2.2.1 : Nat), .int .i64 (p.2.2.2 : Nat)] := by rw [cellsL_app, cellsL_one]; rfl
/-- the Left of a rule in memory -/
theorem left_at {w : World} {a : Option Addr} {R : List RulD} (h : RulesIn w a R) {r : Nat} (hr : r < R.length) : ∃ b off, a = some ⟨b, off, none⟩ ∧ ∀ W, Below w.heap.size w W → ∀ i, i < R.length → W.cell? ⟨b, off + i * 2, none⟩ = some (.string (nthR R i).1) := by
  obtain ⟨b, off, e, hlt, hc⟩ := h.cell hr
  exact ⟨b, off, e, fun W hW i hi => by rw [hW.cell (World.block_lt_of_cell? w _ (hc i hi).1)]; exact (hc i hi).1⟩
set_option maxRecDepth 100000 in
set_option maxHeartbeats 2000000 in
theorem l05Inside_any (k : Int) (R : List RulD) (a : Option Addr) (cap : Nat) (i j : Nat) (w : World) (hl : RulesIn w a R) (hi : i < R.length) (hj : j < R.length) (h8 : ∀ r, (nthR R r).1.size ≤ 8) (hp : ∀ r, r < R.length → 0 < (nthR R r).1.size) (h12 : R.length ≤ 12) :
    Calls Tryz.prog 95 #[.agg #[.int .i64 k, .slice a R.length cap], .int .i64 (i : Nat), .int .i64 (j : Nat)] w (RetSl 114 5 (inF R i j).length (cellsL prV (inF R i j)) w) := by
  obtain ⟨b, off, rfl, hc⟩ := left_at hl hi
  have HC := Lib.hid hc
  have hb1 := alloc_belowS w (.cells #[.int .i64 k, .slice (some ⟨b, off, none⟩) R.length cap] 25)
  have HBX := Lib.hid (fun W2 (h : Below (w.alloc (.cells #[.int .i64 k, .slice (some ⟨b, off, none⟩) R.length cap] 25)).heap.size (w.alloc (.cells #[.int .i64 k, .slice (some ⟨b, off, none⟩) R.length cap] 25)) W2) => box_two h)
  clear hl hc
  by_cases hij : i = j
  · have HF : Hid (inF R i j = []) := Lib.hid (by unfold inF; rw [if_pos hij])
    have hb2 : ((i : Int) == (j : Int)) = true := by rw [hij, beq_self_eq_true]
    have HB1 := Lib.hid hb1
    clear hij
    go_enter Tryz.func95, Tryz.ntmps95
    go_wp2_with fail
    go_ret
    rw [HF.out]
    have F := ((Bld.empty 114 5 _).since HB1.out).ret
    have e1 : (w.alloc (.cells #[.int .i64 k, .slice (some ⟨b, off, none⟩) R.length cap] 25)).heap.size = w.heap.size + 1 := by simp
    rw [e1] at F
    exact F
  · have HF : Hid (inF R i j = inTo R i j (placesF (nthR R i).1 (nthR R j).1) (placesF (nthR R i).1 (nthR R j).1).length) := Lib.hid (by unfold inF inTo; rw [if_neg hij, List.take_length])
    have hb2 : ((i : Int) == (j : Int)) = false := by rw [beq_eq_false_iff_ne]; omega
    have HPL := Lib.hid (fun W => specPlacesOf_any (nthR R i).1 (nthR R j).1 W (hp j hj) (by have := h8 i; omega) (by have := h8 j; omega))
    have hSl : (placesF (nthR R i).1 (nthR R j).1).length ≤ 8 := Nat.le_trans (placeTo_len _ _ _) (h8 i)
    have HW1 := Lib.hid hb1
    clear hij h8 hp
    go_enter Tryz.func95, Tryz.ntmps95
    go_wp2_with fail
    have HB0 : Hid (Bld 114 5 (w.alloc (.cells #[.int .i64 k, .slice (some ⟨b, off, none⟩) R.length cap] 25)) ((w.alloc (.cells #[.int .i64 k, .slice (some ⟨b, off, none⟩) R.length cap] 25)).alloc (.cells #[] 114)) (.slice (some ⟨(w.alloc (.cells #[.int .i64 k, .slice (some ⟨b, off, none⟩) R.length cap] 25)).heap.size, 0, none⟩) 0 0) 0 (cellsL prV [])) := Lib.hid (Bld.empty 114 5 _)
    have e1 : (w.alloc (.cells #[.int .i64 k, .slice (some ⟨b, off, none⟩) R.length cap] 25)).heap.size = w.heap.size + 1 := by simp
    rw [e1] at HB0
    generalize hW1 : w.alloc (.cells #[.int .i64 k, .slice (some ⟨b, off, none⟩) R.length cap] 25) = w1 at *
    have hb3 := alloc_belowS w1 (.cells #[] 114)
    obtain ⟨w2, hw2⟩ : ∃ w2, w2 = w1.alloc (.cells #[] 114) := ⟨_, rfl⟩
    rw [← hw2] at hb3 HB0 ⊢
    have HW2 := Lib.hid hb3
    have HS2 : Hid (∀ W, Below w2.heap.size w2 W → W.cell? ⟨w.heap.size, 1, none⟩ = some (.slice (some ⟨b, off, none⟩) R.length cap) ∧ W.cell? ⟨b, off + i * 2, none⟩ = some (.string (nthR R i).1) ∧ W.cell? ⟨b, off + j * 2, none⟩ = some (.string (nthR R j).1)) := Lib.hid (fun W hW => ⟨(HBX.out W (Below.now hb3 hW)).2, HC.out W (Below.now HW1.out (Below.now hb3 hW)) i hi, HC.out W (Below.now HW1.out (Below.now hb3 hW)) j hj⟩)
    have HSC : Hid (∀ W, Below w1.heap.size w1 W → W.cell? ⟨w.heap.size, 1, none⟩ = some (.slice (some ⟨b, off, none⟩) R.length cap) ∧ W.cell? ⟨b, off + i * 2, none⟩ = some (.string (nthR R i).1)) := Lib.hid (fun W hW => ⟨(HBX.out W hW).2, HC.out W (Below.now HW1.out hW) i hi⟩)
    have hs12 : w1.heap.size = w.heap.size + 1 := by rw [← hW1]; simp
    have hs22 : w2.heap.size = w1.heap.size + 1 := by rw [hw2]; simp
    obtain ⟨r0, r1, r2⟩ := HS2.out w2 (Below.refl _ _)
    clear hb1 hb3 hw2 e1 hW1 HBX
    generalize hLi : (nthR R i).1 = Li at *
    generalize hLj : (nthR R j).1 = Lj at *
    generalize hS : placesF Li Lj = S at *
    go_cut [27, 28, 29] (fun v u z wx => ∃ a2 c2, v = .slice a2 S.length c2 ∧ u = .int .i64 (S.length : Nat) ∧ z = .int .i64 0 ∧ RowsIn nV wx a2 S ∧ Below w2.heap.size w2 wx ∧ ∀ x, a2 = some x → w2.heap.size ≤ x.block ∧ x.block < wx.heap.size)
    case first =>
      go_region_held3 (fun w' => w'.cell? ⟨w.heap.size, 1, none⟩ = some (.slice (some ⟨b, off, none⟩) R.length cap) ∧ w'.cell? ⟨b, off + i * 2, none⟩ = some (.string Li) ∧ w'.cell? ⟨b, off + j * 2, none⟩ = some (.string Lj)) (go_keep) (first
        | (go_at_call 113; refine (HPL.out _).mono ?_; rintro e w6 ⟨a6, c6, rfl, ho6, hb6⟩; have K6 : Hid (Below w2.heap.size w2 w6) := Lib.hid (Below.now (by repeat (first | exact Below.refl _ _ | refine Below.drew ?_ | refine below_drewN ?_ _)) hb6); have I6 := Lib.hid (owns_rows ho6); have R6 : Hid (∀ x, a6 = some x → w2.heap.size ≤ x.block ∧ x.block < w6.heap.size) := Lib.hid (fun x hx => by have h := ho6.lt x.block (by rw [hx]; rfl); simp at h; omega); have t0 := (HS2.out w6 K6.out).1; have t1 := (HS2.out w6 K6.out).2.1; have t2 := (HS2.out w6 K6.out).2.2; clear hb6 ho6))
      all_goals
        go_wp2_with fail
        go_meet
        exact ⟨_, _, rfl, rfl, rfl, I6.out, K6.out, R6.out⟩
    case rest =>
      obtain ⟨a2, c2, rfl, rfl, rfl, hin, hbc, hba⟩ := hcut
      have HB1 : Hid (Bld 114 5 w1 wc (.slice (some ⟨w.heap.size + 1, 0, none⟩) 0 0) (inTo R i j S 0).length (cellsL prV (inTo R i j S 0))) := Lib.hid (HB0.out.later hbc)
      have HI : Hid (RowsIn nV wc a2 S) := Lib.hid hin
      have HA1 : Hid (Away wc a2 (.slice (some ⟨w.heap.size + 1, 0, none⟩) 0 0)) := Lib.hid (fun x hx => by
        obtain ⟨h1, h2⟩ := hba x hx
        exact ⟨h2, fun e => by have e2 : x.block = w.heap.size + 1 := Option.some.inj e; omega⟩)
      clear hin hbc r0 r1 r2 HS2 HB0 HPL hba
      go_wp2_with fail
      go_loopw [7, 29] (fun vo vq wr => ∃ q : Nat, q ≤ S.length ∧ vq = .int .i64 (q : Nat) ∧ Bld 114 5 w1 wr vo (inTo R i j S q).length (cellsL prV (inTo R i j S q)) ∧ Hid (RowsIn nV wr a2 S) ∧ Hid (Away wr a2 vo)) (fun _ vq _ => S.length - (intOf vq).toNat)
      case atStart => exact ⟨0, Nat.zero_le _, rfl, HB1.out, HI, HA1⟩
      case round =>
        clear HB1 HI HA1
        obtain ⟨q, hq, rfl, hbd, HI, HAW⟩ := hrel
        obtain ⟨ao, co, rfl⟩ := owns_form hbd.1
        have HB := Lib.hid hbd
        have hil := inTo_len R i j S q
        by_cases hlt : q < S.length
        · obtain ⟨b2, off2, rfl, hb2, hcs⟩ := RowsIn.cell nV_len (by omega) HI.out hlt
          have c0 : wr.cell? ⟨b2, off2 + q, none⟩ = some (.int .i64 (S[q] : Nat)) := by have h := hcs q hlt 0 _ rfl; rw [Nat.mul_one] at h; exact h
          obtain ⟨s0, s1⟩ := HSC.out wr hbd.2
          have HNX := Lib.hid (inTo_succ R i j hlt)
          have HPI : Hid (inP R i j S[q] = (Li, i, j, S[q])) := Lib.hid (by unfold inP; rw [hLi])
          rw [HPI.out] at HNX
          clear hcs hbd
          generalize S[q] = z at *
          have HB2 := Lib.hid (HB.out.later (alloc_belowS wr (.cells #[.string Li, .int .i64 (i : Nat), .int .i64 0, .int .i64 (j : Nat), .int .i64 (z : Nat)] 114)))
          have HN1 : Hid ([Value.string Li, .int .i64 (i : Nat), .int .i64 0, .int .i64 (j : Nat), .int .i64 (z : Nat)].length = 1 * 5) := Lib.hid rfl
          have HN2 : Hid (∀ u ∈ [Value.string Li, .int .i64 (i : Nat), .int .i64 0, .int .i64 (j : Nat), .int .i64 (z : Nat)], u.oneCell' = true) := Lib.hid (fun u hu => by simp at hu; rcases hu with rfl | rfl | rfl | rfl | rfl <;> rfl)
          generalize hX : inTo R i j S q = X at *
          clear hX
          go_wp2_with (at_builtin; refine wpList_appM rfl (.tmp 33) (.tmp 46) rfl Tryz.underlying71 Tryz.infoPair rfl (by decide) rfl HB2.out rfl (Src.lit _) HN1.out HN2.out ?a1 ?a2 ?a3)
          case a1 => unfold maxLen; omega
          case a2 => omega
          intro v4 w4 hb4 hg4 ho4
          have HB4 : Hid (Bld 114 5 w1 w4 v4 (inTo R i j S (q + 1)).length (cellsL prV (inTo R i j S (q + 1)))) := Lib.hid (by
            rw [HNX.out, List.length_append, cells_prV]; exact hb4)
          have HG4 := Lib.hid ((World.grownBy_alloc wr _ (Value.slice ao X.length co).ownBlock).trans hg4)
          have HI4 : Hid (RowsIn nV w4 (some ⟨b2, off2, none⟩) S) := Lib.hid (CellsIn.grownC HI.out HG4.out (fun x hx => (HAW.out x hx).2))
          have HA4 : Hid (Away w4 (some ⟨b2, off2, none⟩) v4) := Lib.hid (fun x hx => by
            obtain ⟨h1, h2⟩ := HAW.out x hx
            refine ⟨Nat.lt_of_lt_of_le h1 HG4.out.size, fun e => ?_⟩
            rcases ho4 with h | h
            · exact h2 (e.trans h)
            · have e3 := e.trans h
              have e4 := Option.some.inj e3
              have e5 := (alloc_belowS wr (.cells #[.string Li, .int .i64 (i : Nat), .int .i64 0, .int .i64 (j : Nat), .int .i64 (z : Nat)] 114)).size
              first | omega | (simp at e4; omega))
          obtain ⟨a4, c4, hv4⟩ := owns_form HB4.out.1
          subst hv4
          clear hb4 hg4 ho4
          go_wp2_with fail
          go_roundw
          case rel => exact ⟨q + 1, by omega, by go_num, HB4.out, HI4, HA4⟩
          case measure => simp [intOf]; omega
        · obtain rfl : q = S.length := by omega
          have F : Hid (RetSl 114 5 (inF R i j).length (cellsL prV (inF R i j)) w (.returned (.slice ao (inTo R i j S S.length).length co)) wr) := Lib.hid (by
            rw [HF.out]
            exact (HB.out.since HW1.out).ret)
          clear hbd
          go_wp2_with fail
          go_ret
          exact F.out
/-- what across adds -/
theorem acP_eq {R : List RulD} {i j n : Nat} {Li Lj : ByteArray} (h1 : (nthR R i).1 = Li) (h2 : (nthR R j).1 = Lj) : acP R i j n = (Li ++ Lj.extract n Lj.size, i, j, Li.size - n) := by unfold acP; rw [h1, h2]
set_option maxRecDepth 100000 in
set_option maxHeartbeats 2000000 in
theorem l05Across_any (k : Int) (R : List RulD) (a : Option Addr) (cap : Nat) (i j : Nat) (w : World) (hl : RulesIn w a R) (hi : i < R.length) (hj : j < R.length) (h8 : ∀ r, (nthR R r).1.size ≤ 8) (h12 : R.length ≤ 12) :
    Calls Tryz.prog 96 #[.agg #[.int .i64 k, .slice a R.length cap], .int .i64 (i : Nat), .int .i64 (j : Nat)] w (RetSl 114 5 (acF R i j).length (cellsL prV (acF R i j)) w) := by
  obtain ⟨b, off, rfl, hc⟩ := left_at hl hi
  have HC := Lib.hid hc
  have hb1 := alloc_belowS w (.cells #[.int .i64 k, .slice (some ⟨b, off, none⟩) R.length cap] 25)
  have HBX := Lib.hid (fun W2 (h : Below (w.alloc (.cells #[.int .i64 k, .slice (some ⟨b, off, none⟩) R.length cap] 25)).heap.size (w.alloc (.cells #[.int .i64 k, .slice (some ⟨b, off, none⟩) R.length cap] 25)) W2) => box_two h)
  have HF : Hid (acF R i j = acTo R i j (overF (nthR R i).1 (nthR R j).1) (overF (nthR R i).1 (nthR R j).1).length) := Lib.hid (by unfold acF acTo; rw [List.take_length])
  have h8i := h8 i
  have h8j := h8 j
  have HPL := Lib.hid (fun W => specOverlapsOf_any (nthR R i).1 (nthR R j).1 W (by omega) (by omega))
  have hSl : (overF (nthR R i).1 (nthR R j).1).length ≤ 8 := Nat.le_trans (overTo_len _ _ _) (by omega)
  have HMEM : Hid (∀ n ∈ overF (nthR R i).1 (nthR R j).1, n < (nthR R i).1.size ∧ n < (nthR R j).1.size) := Lib.hid (fun n h => (mem_over.1 h).1)
  have HW1 := Lib.hid hb1
  clear hl hc h8
  go_enter Tryz.func96, Tryz.ntmps96
  have s0 := fun o => HC.out _ (Below.now HW1.out (alloc_belowS _ o)) i hi
  have s1 := fun o => HC.out _ (Below.now HW1.out (alloc_belowS _ o)) j hj
  go_wp2_with fail
  have HB0 : Hid (Bld 114 5 (w.alloc (.cells #[.int .i64 k, .slice (some ⟨b, off, none⟩) R.length cap] 25)) ((w.alloc (.cells #[.int .i64 k, .slice (some ⟨b, off, none⟩) R.length cap] 25)).alloc (.cells #[] 114)) (.slice (some ⟨(w.alloc (.cells #[.int .i64 k, .slice (some ⟨b, off, none⟩) R.length cap] 25)).heap.size, 0, none⟩) 0 0) 0 (cellsL prV [])) := Lib.hid (Bld.empty 114 5 _)
  have e1 : (w.alloc (.cells #[.int .i64 k, .slice (some ⟨b, off, none⟩) R.length cap] 25)).heap.size = w.heap.size + 1 := by simp
  rw [e1] at HB0
  clear s0 s1
  generalize hW1 : w.alloc (.cells #[.int .i64 k, .slice (some ⟨b, off, none⟩) R.length cap] 25) = w1 at *
  have hb3 := alloc_belowS w1 (.cells #[] 114)
  obtain ⟨w2, hw2⟩ : ∃ w2, w2 = w1.alloc (.cells #[] 114) := ⟨_, rfl⟩
  rw [← hw2] at hb3 HB0 ⊢
  have hs12 : w1.heap.size = w.heap.size + 1 := by rw [← hW1]; simp
  have hs22 : w2.heap.size = w1.heap.size + 1 := by rw [hw2]; simp
  clear hb1 hb3 hw2 e1 hW1 HBX
  generalize hLi : (nthR R i).1 = Li at *
  generalize hLj : (nthR R j).1 = Lj at *
  generalize hS : overF Li Lj = S at *
  refine (HPL.out _).mono ?_
  rintro e wc ⟨a2, c2, rfl, ho6, hbc⟩
  have hba : ∀ x, a2 = some x → w2.heap.size ≤ x.block ∧ x.block < wc.heap.size := fun x hx => ho6.lt x.block (by rw [hx]; rfl)
  have hin := owns_rows ho6
  have HB1 : Hid (Bld 114 5 w1 wc (.slice (some ⟨w.heap.size + 1, 0, none⟩) 0 0) (acTo R i j S 0).length (cellsL prV (acTo R i j S 0))) := Lib.hid (HB0.out.later hbc)
  have HI : Hid (RowsIn nV wc a2 S) := Lib.hid hin
  have HA1 : Hid (Away wc a2 (.slice (some ⟨w.heap.size + 1, 0, none⟩) 0 0)) := Lib.hid (fun x hx => by
    obtain ⟨h1, h2⟩ := hba x hx
    exact ⟨h2, fun e => by have e2 : x.block = w.heap.size + 1 := Option.some.inj e; omega⟩)
  clear hin hbc ho6 HB0 HPL hba
  go_wp2_with fail
  go_loopw [7, 29] (fun vo vq wr => ∃ q : Nat, q ≤ S.length ∧ vq = .int .i64 (q : Nat) ∧ Bld 114 5 w1 wr vo (acTo R i j S q).length (cellsL prV (acTo R i j S q)) ∧ Hid (RowsIn nV wr a2 S) ∧ Hid (Away wr a2 vo)) (fun _ vq _ => S.length - (intOf vq).toNat)
  case atStart => exact ⟨0, Nat.zero_le _, rfl, HB1.out, HI, HA1⟩
  case round =>
    clear HB1 HI HA1
    obtain ⟨q, hq, rfl, hbd, HI, HAW⟩ := hrel
    obtain ⟨ao, co, rfl⟩ := owns_form hbd.1
    have HB := Lib.hid hbd
    have hil := acTo_len R i j S q
    by_cases hlt : q < S.length
    · obtain ⟨b2, off2, rfl, hb2, hcs⟩ := RowsIn.cell nV_len (by omega) HI.out hlt
      have c0 : wr.cell? ⟨b2, off2 + q, none⟩ = some (.int .i64 (S[q] : Nat)) := by have h := hcs q hlt 0 _ rfl; rw [Nat.mul_one] at h; exact h
      have HNX := Lib.hid (acTo_succ R i j hlt)
      have hz := HMEM.out S[q] (List.getElem_mem hlt)
      rw [acP_eq hLi hLj] at HNX
      clear hcs hbd
      generalize S[q] = z at *
      have x1 : (Lj.extract z Lj.size).size = Lj.size - z := by rw [ByteArray.size_extract]; omega
      have x2 : ¬ 9223372036854775807 < Li.size + (Lj.extract z Lj.size).size := by omega
      have x3 : (z : Int) ≤ (Lj.size : Int) := by omega
      have x4 : z ≤ Lj.size := by omega
      have x5 : (Li.size : Int) - (z : Int) = ((Li.size - z : Nat) : Int) := by omega
      have x6 : IntKind.i64.wrap ((Li.size : Int) - (z : Int)) = ((Li.size - z : Nat) : Int) := by rw [IntWalk.i64_in _ (by omega)]; omega
      have HB2 := Lib.hid (HB.out.later (alloc_belowS wr (.cells #[.string (Li ++ Lj.extract z Lj.size), .int .i64 (i : Nat), .int .i64 0, .int .i64 (j : Nat), .int .i64 (Li.size - z : Nat)] 114)))
      have HN1 : Hid ([Value.string (Li ++ Lj.extract z Lj.size), .int .i64 (i : Nat), .int .i64 0, .int .i64 (j : Nat), .int .i64 (Li.size - z : Nat)].length = 1 * 5) := Lib.hid rfl
      have HN2 : Hid (∀ u ∈ [Value.string (Li ++ Lj.extract z Lj.size), .int .i64 (i : Nat), .int .i64 0, .int .i64 (j : Nat), .int .i64 (Li.size - z : Nat)], u.oneCell' = true) := Lib.hid (fun u hu => by simp at hu; rcases hu with rfl | rfl | rfl | rfl | rfl <;> rfl)
      generalize hX : acTo R i j S q = X at *
      clear hX
      go_wp2_with (at_builtin; refine wpList_appM rfl (.tmp 33) (.tmp 48) rfl Tryz.underlying71 Tryz.infoPair rfl (by decide) rfl HB2.out rfl (Src.lit _) HN1.out HN2.out ?a1 ?a2 ?a3)
      case a1 => unfold maxLen; omega
      case a2 => omega
      intro v4 w4 hb4 hg4 ho4
      have HB4 : Hid (Bld 114 5 w1 w4 v4 (acTo R i j S (q + 1)).length (cellsL prV (acTo R i j S (q + 1)))) := Lib.hid (by
        rw [HNX.out, List.length_append, cells_prV]; exact hb4)
      have HG4 := Lib.hid ((World.grownBy_alloc wr _ (Value.slice ao X.length co).ownBlock).trans hg4)
      have HI4 : Hid (RowsIn nV w4 (some ⟨b2, off2, none⟩) S) := Lib.hid (CellsIn.grownC HI.out HG4.out (fun x hx => (HAW.out x hx).2))
      have HA4 : Hid (Away w4 (some ⟨b2, off2, none⟩) v4) := Lib.hid (fun x hx => by
        obtain ⟨h1, h2⟩ := HAW.out x hx
        refine ⟨Nat.lt_of_lt_of_le h1 HG4.out.size, fun e => ?_⟩
        rcases ho4 with h | h
        · exact h2 (e.trans h)
        · have e3 := e.trans h
          have e4 := Option.some.inj e3
          have e5 := (alloc_belowS wr (.cells #[.string (Li ++ Lj.extract z Lj.size), .int .i64 (i : Nat), .int .i64 0, .int .i64 (j : Nat), .int .i64 (Li.size - z : Nat)] 114)).size
          first | omega | (simp at e4; omega))
      obtain ⟨a4, c4, hv4⟩ := owns_form HB4.out.1
      subst hv4
      clear hb4 hg4 ho4
      go_wp2_with fail
      go_roundw
      case rel => exact ⟨q + 1, by omega, by go_num, HB4.out, HI4, HA4⟩
      case measure => simp [intOf]; omega
    · obtain rfl : q = S.length := by omega
      have F : Hid (RetSl 114 5 (acF R i j).length (cellsL prV (acF R i j)) w (.returned (.slice ao (acTo R i j S S.length).length co)) wr) := Lib.hid (by
        rw [HF.out]
        exact (HB.out.since HW1.out).ret)
      clear hbd
      go_wp2_with fail
      go_ret
      exact F.out
end Go.Proofs.YtgoeadgpbidgiaaGreat
