/-
  The program's reader: newReader, next.
-/
import Derived.Test.YtoddpmdjjgnpgaaGreatDoorGra07
import Derived.Maps.Own
import Derived.Maps.OwnOps
import Derived.Maps.RangeWalk
import Derived.Maps.Views
import Derived.Deep.RegionHeld3
import Derived.IntWalk
namespace Go.Proofs.YtoddpmdjjgnpgaaGreatDoor
open Go.RowKit Go.Maps Go.WideShapes
set_option linter.unusedVariables false
def keyL (e : ByteArray) : Lit := .string e.data.toList
theorem keyL_inj {a b : ByteArray} (h : keyL a = keyL b) : a = b := by
  unfold keyL at h
  exact ba_ext0 (by simpa using h)
theorem keyL_same {a b : ByteArray} : (keyL a).sameKey (keyL b) = true ↔ a = b := by
  unfold keyL Lit.sameKey
  constructor
  · intro h; exact ba_ext0 (by simpa using h)
  · intro h; subst h; simp
def encW (p : ByteArray × Nat) : Lit × DataW Unit := (keyL p.1, .lit (.int .i64 (p.2 : Int)))
/-- the ends are different ones -/
def ApartW (V : WayD) : Prop := V.Pairwise (fun p q => p.1 ≠ q.1)
/-- a map holds these ways -/
def RepM (D : DataW Unit) (V : WayD) : Prop := ApartW V ∧ ∃ es, D = .map es ∧ es.Perm (V.map encW)
theorem RepM.nil : RepM (.map []) [] := ⟨List.Pairwise.nil, [], rfl, .refl _⟩
theorem ApartW.eq {V : WayD} (h : ApartW V) {i j : Nat} (hi : i < V.length) (hj : j < V.length) (he : V[i].1 = V[j].1) : i = j := by
  rcases Nat.lt_trichotomy i j with e | e | e
  · exact absurd he ((List.pairwise_iff_getElem.1 h) i j hi hj e)
  · exact e
  · exact absurd he.symm ((List.pairwise_iff_getElem.1 h) j i hj hi e)
theorem RepM.look {D : DataW Unit} {V : WayD} (h : RepM D V) (v : ByteArray) : (∃ i, ∃ hi : i < V.length, V[i].1 = v ∧ ∀ zd, D.atKey (keyL v) zd = .lit (.int .i64 (V[i].2 : Int))) ∨ ((∀ p ∈ V, p.1 ≠ v) ∧ ∀ zd, D.atKey (keyL v) zd = zd) := by
  obtain ⟨hap, es, rfl, hp⟩ := h
  by_cases hex : ∃ p ∈ V, p.1 = v
  · left
    obtain ⟨p, hpV, rfl⟩ := hex
    obtain ⟨i, hi, rfl⟩ := List.getElem_of_mem hpV
    refine ⟨i, hi, rfl, fun zd => ?_⟩
    have hm : encW V[i] ∈ es := hp.mem_iff.2 (List.mem_map_of_mem (List.getElem_mem hi))
    unfold DataW.atKey
    simp only []
    cases hf : es.find? (fun p => p.1.sameKey (keyL V[i].1)) with
    | none =>
      have := (List.find?_eq_none.1 hf) _ hm
      exact absurd (keyL_same.2 rfl) this
    | some q =>
      have h1 := List.find?_some hf
      have h2 := List.mem_of_find?_eq_some hf
      obtain ⟨r, hr, rfl⟩ := List.mem_map.1 (hp.mem_iff.1 h2)
      obtain ⟨j, hj, rfl⟩ := List.getElem_of_mem hr
      have h3 := keyL_same.1 h1
      have := hap.eq hj hi h3
      subst this
      rfl
  · right
    have hne : ∀ p ∈ V, p.1 ≠ v := fun p hp e => hex ⟨p, hp, e⟩
    refine ⟨hne, fun zd => ?_⟩
    unfold DataW.atKey
    simp only []
    cases hf : es.find? (fun p => p.1.sameKey (keyL v)) with
    | none => rfl
    | some q =>
      have h1 := List.find?_some hf
      have h2 := List.mem_of_find?_eq_some hf
      obtain ⟨r, hr, rfl⟩ := List.mem_map.1 (hp.mem_iff.1 h2)
      exact absurd (keyL_same.1 h1) (hne r hr)
theorem filter_enc (V : WayD) (v : ByteArray) : (V.map encW).filter (fun p => !p.1.sameKey (keyL v)) = (V.filter fun p => !decide (p.1 = v)).map encW := by
  rw [List.filter_map]
  congr 1
  apply List.filter_congr
  intro p _
  show (!(keyL p.1).sameKey (keyL v)) = _
  congr 1
  rw [Bool.eq_iff_iff, keyL_same, decide_eq_true_iff]
theorem RepM.new {D : DataW Unit} {V : WayD} (h : RepM D V) {v : ByteArray} (c : Nat) (hv : ∀ p ∈ V, p.1 ≠ v) : RepM (D.put (keyL v) (.lit (.int .i64 (c : Int)))) (V ++ [(v, c)]) := by
  obtain ⟨hap, es, rfl, hp⟩ := h
  refine ⟨?_, _, rfl, ?_⟩
  · unfold ApartW
    rw [List.pairwise_append]
    exact ⟨hap, List.pairwise_singleton _ _, fun p hp q hq => by rw [List.mem_singleton.1 hq]; exact hv p hp⟩
  · refine (insert_perm _ _).trans ?_
    have h1 := hp.filter (fun p => !p.1.sameKey (keyL v))
    have h2 : V.filter (fun p => !decide (p.1 = v)) = V := List.filter_eq_self.2 (fun p hp => by simpa using hv p hp)
    rw [filter_enc, h2] at h1
    refine (h1.cons _).trans ?_
    rw [List.map_append]
    exact (List.perm_append_singleton _ _).symm
theorem apart_split {V : WayD} (hap : ApartW V) {a : Nat} (ha : a < V.length) : V.filter (fun p => !decide (p.1 = V[a].1)) = V.take a ++ V.drop (a + 1) := by
  have e : V = V.take a ++ V[a] :: V.drop (a + 1) := by
    conv => lhs; rw [← List.take_append_drop a V, List.drop_eq_getElem_cons ha]
  have h1 : (V.take a).filter (fun p => !decide (p.1 = V[a].1)) = V.take a := List.filter_eq_self.2 (fun p hp => by
    obtain ⟨i, hi, rfl⟩ := List.getElem_of_mem hp
    rw [List.length_take] at hi
    rw [List.getElem_take]
    have : V[i].1 ≠ V[a].1 := fun e => by have := hap.eq (show i < V.length by omega) ha e; omega
    simpa using this)
  have h2 : (V.drop (a + 1)).filter (fun p => !decide (p.1 = V[a].1)) = V.drop (a + 1) := List.filter_eq_self.2 (fun p hp => by
    obtain ⟨i, hi, rfl⟩ := List.getElem_of_mem hp
    rw [List.length_drop] at hi
    rw [List.getElem_drop]
    have : V[a + 1 + i].1 ≠ V[a].1 := fun e => by have := hap.eq (show a + 1 + i < V.length by omega) ha e; omega
    simpa using this)
  have h3 : V.filter (fun p => !decide (p.1 = V[a].1)) = (V.take a ++ V[a] :: V.drop (a + 1)).filter (fun p => !decide (p.1 = V[a].1)) := by rw [← e]
  rw [h3, List.filter_append, List.filter_cons, h1, h2]
  simp
theorem RepM.old {D : DataW Unit} {V : WayD} (h : RepM D V) {a : Nat} (ha : a < V.length) (c : Nat) : RepM (D.put (keyL V[a].1) (.lit (.int .i64 ((V[a].2 + c : Nat) : Int)))) (addW V a c) := by
  obtain ⟨hap, es, rfl, hp⟩ := h
  refine ⟨?_, _, rfl, ?_⟩
  · unfold ApartW addW
    rw [List.pairwise_iff_getElem]
    intro i j hi hj hij
    have h1 := (List.pairwise_iff_getElem.1 hap) i j (by simpa using hi) (by simpa using hj) hij
    rw [List.getElem_modify, List.getElem_modify]
    split <;> split <;> exact h1
  · refine (insert_perm _ _).trans ?_
    have h1 := hp.filter (fun p => !p.1.sameKey (keyL V[a].1))
    rw [filter_enc, apart_split hap ha] at h1
    refine (h1.cons _).trans ?_
    rw [addW_split ha]
    simp only [List.map_append, List.map_cons, List.append_assoc, List.cons_append, List.nil_append]
    exact (List.perm_middle).symm
theorem RepM.has {D : DataW Unit} {V : WayD} (h : RepM D V) {p : ByteArray × Nat} (hp : p ∈ V) : Maps.has D (keyL p.1) = true := by
  obtain ⟨hap, es, rfl, hpm⟩ := h
  rw [has_eq, List.any_eq_true]
  exact ⟨encW p, hpm.mem_iff.2 (List.mem_map_of_mem hp), keyL_same.2 rfl⟩
/-- the ways that have come up -/
def doneW (left : Lit → Bool) (W : WayD) : WayD := W.filter fun p => !left (keyL p.1)
theorem doneW_start {D : DataW Unit} {W : WayD} (h : RepM D W) : doneW (Maps.has D) W = [] := by
  unfold doneW
  rw [List.filter_eq_nil_iff]
  intro p hp
  simp [h.has hp]
theorem doneW_end {left : Lit → Bool} {W : WayD} (h : ∀ kl, left kl = false) : doneW left W = W := by
  unfold doneW
  rw [List.filter_eq_self]
  intro p _
  simp [h]
theorem doneW_le (R : List RulD) (k m : Nat) (left : Lit → Bool) : ∀ W : WayD, wsum R k m (doneW left W) ≤ wsum R k m W
  | [] => Nat.le_refl _
  | p :: W => by
    have ih := doneW_le R k m left W
    unfold doneW at *
    rw [List.filter_cons]
    have e : ∀ V : WayD, wsum R k m (p :: V) = p.2 * paths R k m p.1 + wsum R k m V := fun V => by simp [wsum]
    split
    · rw [e, e]; omega
    · rw [e]; omega
theorem doneW_stepX (R : List RulD) (k m : Nat) {A B : WayD} {x : ByteArray × Nat} (hA : ∀ p ∈ A, p.1 ≠ x.1) (hB : ∀ p ∈ B, p.1 ≠ x.1) {left : Lit → Bool} (hl : left (keyL x.1) = true) :
    wsum R k m (doneW (fun z => left z && !z.sameKey (keyL x.1)) (A ++ x :: B)) = wsum R k m (doneW left (A ++ x :: B)) + x.2 * paths R k m x.1 := by
  have key : ∀ p : ByteArray × Nat, p.1 ≠ x.1 → (!(left (keyL p.1) && !(keyL p.1).sameKey (keyL x.1))) = !left (keyL p.1) := fun p hp => by
    have h1 : (keyL p.1).sameKey (keyL x.1) = false := by
      cases h : (keyL p.1).sameKey (keyL x.1)
      · rfl
      · exact absurd (keyL_same.1 h) hp
    rw [h1]; simp
  have h1 : A.filter (fun p => !(left (keyL p.1) && !(keyL p.1).sameKey (keyL x.1))) = A.filter (fun p => !left (keyL p.1)) := List.filter_congr (fun p hp => key _ (hA p hp))
  have h2 : B.filter (fun p => !(left (keyL p.1) && !(keyL p.1).sameKey (keyL x.1))) = B.filter (fun p => !left (keyL p.1)) := List.filter_congr (fun p hp => key _ (hB p hp))
  have hs : (keyL x.1).sameKey (keyL x.1) = true := keyL_same.2 rfl
  have e1 : doneW (fun z => left z && !z.sameKey (keyL x.1)) (A ++ x :: B) = A.filter (fun p => !left (keyL p.1)) ++ x :: B.filter (fun p => !left (keyL p.1)) := by
    unfold doneW
    rw [List.filter_append, List.filter_cons, h1, h2]
    simp [hs]
  have e2 : doneW left (A ++ x :: B) = A.filter (fun p => !left (keyL p.1)) ++ B.filter (fun p => !left (keyL p.1)) := by
    unfold doneW
    rw [List.filter_append, List.filter_cons]
    simp [hl]
  have e3 : ∀ (p : ByteArray × Nat) (V : WayD), wsum R k m (p :: V) = p.2 * paths R k m p.1 + wsum R k m V := fun p V => by simp [wsum]
  rw [e1, e2, wsum_app, wsum_app, e3]
  omega
theorem doneW_step (R : List RulD) (k m : Nat) {W : WayD} (hap : ApartW W) {i : Nat} (hi : i < W.length) {left : Lit → Bool} (hl : left (keyL W[i].1) = true) :
    wsum R k m (doneW (fun z => left z && !z.sameKey (keyL W[i].1)) W) = wsum R k m (doneW left W) + W[i].2 * paths R k m W[i].1 := by
  have hA : ∀ p ∈ W.take i, p.1 ≠ W[i].1 := fun p hp e => by
    obtain ⟨j, hj, rfl⟩ := List.getElem_of_mem hp
    rw [List.length_take] at hj
    rw [List.getElem_take] at e
    have := hap.eq (show j < W.length by omega) hi e; omega
  have hB : ∀ p ∈ W.drop (i + 1), p.1 ≠ W[i].1 := fun p hp e => by
    obtain ⟨j, hj, rfl⟩ := List.getElem_of_mem hp
    rw [List.length_drop] at hj
    rw [List.getElem_drop] at e
    have := hap.eq (show i + 1 + j < W.length by omega) hi e; omega
  have h := doneW_stepX R k m hA hB hl
  have e : W.take i ++ W[i] :: W.drop (i + 1) = W := by rw [← List.drop_eq_getElem_cons hi, List.take_append_drop]
  rwa [e] at h
/-- behind the ways that have come up, and j letters of the next one -/
structure WayG (R : List RulD) (k : Nat) (T : WayD) (j : Nat) (e : ByteArray) (c : Nat) (V : WayD) : Prop where
  eq : ∀ m, wsum R k m V = wsum R k (m + 1) T + c * pTo R k m e j
  pos : PosW V
  short : ShortW (keepR R) V
theorem WayG.start (R : List RulD) (k : Nat) (e : ByteArray) (c : Nat) : WayG R k [] 0 e c [] :=
  ⟨fun m => by rw [pTo_zero]; simp [wsum], fun p hp => (by cases hp), fun p hp => (by cases hp)⟩
theorem WayG.no {R : List RulD} {k : Nat} {T V : WayD} {j c : Nat} {e : ByteArray} (h : WayG R k T j e c V) (hx : okX R e j = false) : WayG R k T (j + 1) e c V :=
  ⟨fun m => by rw [pTo_no hx]; exact h.eq m, h.pos, h.short⟩
theorem WayG.old {R : List RulD} {k : Nat} {T V : WayD} {j c a : Nat} {e : ByteArray} (h : WayG R k T j e c V) (hx : okX R e j = true) (ha : a < V.length) (he : V[a].1 = nxtX R e j) : WayG R k T (j + 1) e c (addW V a c) :=
  ⟨fun m => by rw [wsum_add ha, he, h.eq m, pTo_yes hx, Nat.mul_add]; omega, h.pos.add _ _, h.short.add _ _⟩
theorem WayG.new {R : List RulD} {k : Nat} {T V : WayD} {j c : Nat} {e : ByteArray} (h : WayG R k T j e c V) (hx : okX R e j = true) (hc : 1 ≤ c) : WayG R k T (j + 1) e c (V ++ [(nxtX R e j, c)]) :=
  ⟨fun m => by rw [wsum_app, wsum_one, h.eq m, pTo_yes hx, Nat.mul_add]; omega, h.pos.push hc, h.short.push (cutR_size _ _)⟩
theorem WayG.other {R : List RulD} {k : Nat} {T V : WayD} {e e' : ByteArray} {c c' : Nat} (h : WayG R k T 0 e c V) : WayG R k T 0 e' c' V := ⟨fun m => by rw [h.eq m, pTo_zero, pTo_zero]; omega, h.pos, h.short⟩
theorem WayG.row {R : List RulD} {k : Nat} {W V : WayD} (hap : ApartW W) {i : Nat} (hi : i < W.length) {left : Lit → Bool} (hl : left (keyL W[i].1) = true) (h : WayG R k (doneW left W) k W[i].1 W[i].2 V) (e : ByteArray) (c : Nat) :
    WayG R k (doneW (fun z => left z && !z.sameKey (keyL W[i].1)) W) 0 e c V :=
  ⟨fun m => by rw [h.eq m, doneW_step R k (m + 1) hap hi hl, paths_succ, pTo_zero]; omega, h.pos, h.short⟩
theorem WayG.done {R : List RulD} {k n : Nat} {W V : WayD} {e : ByteArray} {c : Nat} (hW : WayAt R k n W) {left : Lit → Bool} (hl : ∀ kl, left kl = false) (h : WayG R k (doneW left W) 0 e c V) : WayAt R k (n + 1) V :=
  ⟨fun m => by rw [h.eq m, doneW_end hl, hW.eq, pTo_zero, show n + (m + 1) = n + 1 + m by omega]; omega, h.pos, h.short⟩
theorem WayG.le {R : List RulD} {k n : Nat} (hk : k ≤ 4) {W V : WayD} (hap : ApartW W) {i j : Nat} (hW : WayAt R k n W) (hi : i < W.length) {left : Lit → Bool} (hl : left (keyL W[i].1) = true) (hj : j ≤ k) (h : WayG R k (doneW left W) j W[i].1 W[i].2 V) : wsum R k 0 V ≤ 4 ^ (n + 1) := by
  rw [h.eq 0]
  have h1 := doneW_step R k (0 + 1) hap hi hl
  have h0 := doneW_le R k (0 + 1) (fun z => left z && !z.sameKey (keyL W[i].1)) W
  rw [h1, paths_succ] at h0
  have h2 := pTo_mono R k 0 W[i].1 hj
  have h3 : W[i].2 * pTo R k 0 W[i].1 j ≤ W[i].2 * pTo R k 0 W[i].1 k := Nat.mul_le_mul_left _ h2
  have h4 := hW.eq (0 + 1)
  have h5 := paths_le (R := R) hk (n + (0 + 1)) ⟨#[]⟩
  rw [← h4] at h5
  have h6 : n + (0 + 1) = n + 1 := by omega
  rw [h6] at h5
  omega
theorem WayG.le0 {R : List RulD} {k n : Nat} (hk : k ≤ 4) {W V : WayD} (hW : WayAt R k n W) {left : Lit → Bool} {e : ByteArray} {c : Nat} (h : WayG R k (doneW left W) 0 e c V) : wsum R k 0 V ≤ 4 ^ (n + 1) := by
  rw [h.eq 0, pTo_zero]
  have h0 := doneW_le R k (0 + 1) left W
  have h4 := hW.eq (0 + 1)
  have h5 := paths_le (R := R) hk (n + (0 + 1)) ⟨#[]⟩
  rw [← h4] at h5
  have h6 : n + (0 + 1) = n + 1 := by omega
  rw [h6] at h5
  omega
theorem paths0 (R : List RulD) (k : Nat) (e : ByteArray) : paths R k 0 e = 1 := rfl
end Go.Proofs.YtoddpmdjjgnpgaaGreatDoor
namespace Go.Proofs.YtoddpmdjjgnpgaaGreatDoor
open Go.RowKit
set_option linter.unusedVariables false
/-- a block that holds a reader -/
def RdAt (W : World) (p : Nat) (k : Int) (a : Option Addr) (n cap : Nat) (q : Nat) : Prop := W.cell? ⟨p, 0, none⟩ = some (.int .i64 k) ∧ W.cell? ⟨p, 1, none⟩ = some (.slice a n cap) ∧ W.cell? ⟨p, 2, none⟩ = some (.int .i64 (q : Nat))
theorem RdAt.later {W W' : World} {p : Nat} {k : Int} {a : Option Addr} {n cap q : Nat} (h : RdAt W p k a n cap q) (hb : Below W.heap.size W W') : RdAt W' p k a n cap q := by
  obtain ⟨h1, h2, h3⟩ := h
  exact ⟨by rw [hb.cell (World.block_lt_of_cell? W _ h1)]; exact h1, by rw [hb.cell (World.block_lt_of_cell? W _ h2)]; exact h2, by rw [hb.cell (World.block_lt_of_cell? W _ h3)]; exact h3⟩
/-- what newReader hands back -/
def RetRd (k : Int) (a : Option Addr) (n cap q : Nat) (w : World) (e : Ending) (w' : World) : Prop := ∃ p, e = .returned (.pointer (some ⟨p, 0, none⟩)) ∧ RdAt w' p k a n cap q ∧ w.heap.size ≤ p ∧ Below w.heap.size w w'
set_option maxRecDepth 20000 in
set_option maxHeartbeats 2000000 in
theorem newReader_any (k : Int) (l : List RulD) (a : Option Addr) (cap : Nat) (w : World) (hl : RulesIn w a l) (hlen : l.length ≤ 2 ^ 40) (hz : SzR l) :
    Calls Tryz.prog 40 #[.agg #[.int .i64 k, .slice a l.length cap]] w (RetRd k a l.length cap (keepR l) w) := by
  have HL := Lib.hid hl
  have HS := Lib.hid (fun W h => implLongestSide_any k l a cap W h hlen hz)
  have hm := lsTo_le hz l.length (Nat.le_refl _)
  have hm2 : lsL l ≤ 9223372036854775807 := by unfold maxLen at hm; exact hm
  have hmm := @run_makeMap Tryz.prog
  have HC : Hid (keepR l = lsL l - 1) := Lib.hid rfl
  generalize keepR l = q at *
  generalize lsL l = m at *
  have e1 : max (0 : Int) ((m : Int) - 1) = (q : Int) := by have := HC.out; omega
  have hw1 : IntKind.i64.wrap ((m : Int) - 1) = (m : Int) - 1 := IntWalk.i64_in _ (by omega)
  have hb0 := alloc_belowS w (.cells #[.int .i64 k, .slice a l.length cap] 25)
  clear hl hz hm
  go_enter Tryz.func40, Tryz.ntmps40
  go_wp2_with fail
  obtain ⟨w0, hw0⟩ : ∃ w0, w0 = w.alloc (.cells #[.int .i64 k, .slice a l.length cap] 25) := ⟨_, rfl⟩
  have hbx := sys_cells (alloc_at w (.cells #[.int .i64 k, .slice a l.length cap] 25))
  rw [← hw0] at hb0 hbx
  have HBX : Hid (∀ W, Below w0.heap.size w0 W → W.cell? ⟨w.heap.size, 0, none⟩ = some (.int .i64 k) ∧ W.cell? ⟨w.heap.size, 1, none⟩ = some (.slice a l.length cap)) := Lib.hid (fun W hW => ⟨by rw [hW.cell (World.block_lt_of_cell? w0 _ hbx.1)]; exact hbx.1, by rw [hW.cell (World.block_lt_of_cell? w0 _ hbx.2)]; exact hbx.2⟩)
  have HB0 := Lib.hid hb0
  rw [← hw0]
  obtain ⟨r0, r1⟩ := hbx
  clear hw0 hb0
  go_region_held3 (fun w' => w'.cell? ⟨w.heap.size, 0, none⟩ = some (.int .i64 k) ∧ w'.cell? ⟨w.heap.size, 1, none⟩ = some (.slice a l.length cap)) (go_keep) (first
    | (go_at_call 92; refine (HS.out _ (HL.out.later (Below.now HB0.out (by repeat (first | exact Below.refl _ _ | refine Below.drew ?_ | refine below_drewN ?_ _ | refine Below.alloc ?_ (by simp; try omega) _))))).mono ?_; rintro e w6 ⟨rfl, hb6⟩; have K6 : Hid (Below w0.heap.size w0 w6) := Lib.hid (Below.now (by repeat (first | exact Below.refl _ _ | refine Below.drew ?_ | refine below_drewN ?_ _ | refine Below.alloc ?_ (by simp; try omega) _)) hb6); have t0 := (HBX.out w6 K6.out).1; have t1 := (HBX.out w6 K6.out).2; clear hb6))
  all_goals
    first
      | (have F : Hid (RetRd k a l.length cap q w (.returned (.pointer (some ⟨w6.heap.size + 1, 0, none⟩))) ((w6.alloc (.map #[] 0)).alloc (.cells #[.int .i64 k, .slice a l.length cap, .int .i64 (q : Nat), .map (some w6.heap.size)] 143))) := Lib.hid (by
           have e2 : (w6.alloc (.map #[] 0)).heap.size = w6.heap.size + 1 := by simp
           refine ⟨_, rfl, ⟨?_, ?_, ?_⟩, ?_, ?_⟩
           · rw [← e2]; simp
           · rw [← e2]; simp
           · rw [← e2]; simp
           · have h1 := HB0.out.size; have h2 := K6.out.size; omega
           · exact (((Below.now HB0.out K6.out).alloc (Below.now HB0.out K6.out).size _).alloc (by have h1 := (Below.now HB0.out K6.out).size; simp; omega) _))
         clear t0 t1 r0 r1 hmm
         go_wp2_with fail
         go_ret
         exact F.out)
      | (have F : Hid (RetRd k a l.length cap q w (.returned (.pointer (some ⟨w6.heap.size, 0, none⟩))) (w6.alloc (.cells #[.int .i64 k, .slice a l.length cap, .int .i64 (q : Nat), .map (some w0.heap.size)] 143))) := Lib.hid (by
           refine ⟨_, rfl, ⟨?_, ?_, ?_⟩, ?_, ?_⟩
           · simp
           · simp
           · simp
           · have h1 := HB0.out.size; have h2 := K6.out.size; omega
           · exact ((Below.now HB0.out K6.out).alloc (Below.now HB0.out K6.out).size _))
         clear t0 t1 r0 r1 hmm
         go_wp2_with fail
         go_ret
         exact F.out)
/-- what next hands back -/
def RetNx (R : List RulD) (e0 : ByteArray) (x : Nat) (w : World) (e : Ending) (w' : World) : Prop :=
  (okX R e0 x = true ∧ e = .returned (.tuple #[.string (nxtX R e0 x), .bool true]) ∧ Below w.heap.size w w') ∨ (okX R e0 x = false ∧ e = .returned (.tuple #[.string ⟨#[]⟩, .bool false]) ∧ Below w.heap.size w w')
set_option maxHeartbeats 400000 in
theorem next1_any (v x y : ByteArray) (box : Nat) (w : World) (hv : v.size ≤ 1000) (hb : w.cell? ⟨box, 0, none⟩ = some (.string v)) :
    Calls Tryz.prog 93 #[.agg #[.string x, .string y], .pointer (some ⟨box, 0, none⟩)] w (RetP (sufBB v x = true) w) := by
  have hb2 : ∀ o, (w.alloc o).cell? ⟨box, 0, none⟩ = some (.string v) := fun o => by rw [(alloc_belowS w o).cell (World.block_lt_of_cell? w _ hb)]; exact hb
  have HS := Lib.hid (fun W => Tryz.strings_HasSuffix v x W (by omega))
  have HB : Hid (Lib.hasSuffix v.data.toList x.data.toList = sufBB v x) := Lib.hid rfl
  have HA := Lib.hid (fun o => alloc_belowS w o)
  rw [HB.out] at HS
  generalize sufBB v x = bb at *
  go_enter Tryz.func93, Tryz.ntmps93
  go_wp2_with fail
  refine (HS.out _).mono ?_
  rintro e w2 ⟨rfl, rfl⟩
  have F : Hid (RetP (bb = true) w (.returned (.bool bb)) (w.alloc (.cells #[.string x, .string y] 120))) := Lib.hid ⟨bb, Iff.rfl, rfl, HA.out _⟩
  go_wp2_with fail
  go_ret
  exact F.out
set_option maxRecDepth 20000 in
set_option maxHeartbeats 2000000 in
theorem readerNext_any (k : Int) (R : List RulD) (p : Nat) (e0 : ByteArray) (x : Nat) (a : Option Addr) (cap : Nat) (w : World) (hl : RulesIn w a R) (hlen : R.length ≤ 2 ^ 40) (hr : RdAt w p k a R.length cap (keepR R)) (hx : x < 26) (he : e0.size ≤ 900) (hq : keepR R ≤ 1000) :
    Calls Tryz.prog 41 #[.pointer (some ⟨p, 0, none⟩), .string e0, .int .i64 (x : Nat)] w (RetNx R e0 x w) := by
  have HL := Lib.hid hl
  have HR := Lib.hid hr
  have HLT := Lib.hid (fun W => letterOf_any x W hx)
  have HSZ : Hid ((e0 ++ letterN x).size = e0.size + 1) := Lib.hid (by rw [ByteArray.size_append, letterN_size])
  have hos := letterN_size x
  have hs2 : ¬ 9223372036854775807 < e0.size + 1 := by omega
  have hb0 := alloc_belowS w (.cells #[.string e0] 9)
  obtain ⟨w0, hw0⟩ : ∃ w0, w0 = w.alloc (.cells #[.string e0] 9) := ⟨_, rfl⟩
  have hbh : w0.heap[w.heap.size]? = some (.cells #[.string e0] 9 (0, 0)) := by rw [hw0]; exact alloc_at _ _
  clear hl hr
  go_enter Tryz.func41, Tryz.ntmps41
  go_wp2_with fail
  rw [← hw0] at hb0 ⊢
  have HB0 := Lib.hid hb0
  have HBH : Hid (∀ W, Below w0.heap.size w0 W → W.cell? ⟨w.heap.size, 0, none⟩ = some (.string e0) ∧ W.frozen? ⟨w.heap.size, 0, none⟩ = false) := Lib.hid (fun W hW => by
    have h1 := (hW.block w.heap.size (by rw [hw0]; simp)).trans hbh
    exact ⟨by simp [World.cell?, h1], by simp [World.frozen?, h1]⟩)
  obtain ⟨r0, r1⟩ := HBH.out w0 (Below.refl _ _)
  clear hw0 hb0 hbh
  have kr := Below.refl w0.heap.size w0
  go_region_law (first
    | (go_simp; go_at_call 57; refine (HLT.out _).mono ?_; rintro e w2 ⟨rfl, hb2⟩; dsimp only; have K2 : Hid (Below w0.heap.size w0 w2) := Lib.hid (Below.now (by repeat (first | exact Below.refl _ _ | refine Below.drew ?_ | refine below_drewN ?_ _)) hb2); have t0 := (HBH.out w2 K2.out).1; have t1 := (HBH.out w2 K2.out).2; clear hb2))
  all_goals
    have hcb : (w2.setCell ⟨w.heap.size, 0, none⟩ (.string (e0 ++ letterN x))).cell? ⟨w.heap.size, 0, none⟩ = some (.string (e0 ++ letterN x)) := by go_simp
    have hbw : Below w.heap.size w (w2.setCell ⟨w.heap.size, 0, none⟩ (.string (e0 ++ letterN x))) := (Below.now HB0.out K2.out).setCell (Nat.le_refl _) _
    have HOK : Hid (okX R e0 x = !endsR R (e0 ++ letterN x)) := Lib.hid rfl
    have HNX : Hid (nxtX R e0 x = (e0 ++ letterN x).extract ((e0 ++ letterN x).size - keepR R) (e0 ++ letterN x).size) := Lib.hid rfl
    clear t0 t1 r0 r1 HLT HBH K2 hos hs2
    generalize (w2.setCell ⟨w.heap.size, 0, none⟩ (.string (e0 ++ letterN x))) = w3 at *
    generalize e0 ++ letterN x = v at *
    have hvs : v.size ≤ 901 := by have := HSZ.out; omega
    have HBW := Lib.hid hbw
    have HEI : Hid (endsR R v = true ↔ ∃ r ∈ R, sufBB v r.1 = true) := Lib.hid endsR_iff
    have HCF := Lib.hid (containsFuncR_any 93 #[.pointer (some ⟨w.heap.size, 0, none⟩)] (fun r => sufBB v r.1 = true) R a cap w3 (HL.out.later hbw) hlen w3.heap.size (Nat.le_refl _) (fun j hj W hW => next1_any v _ _ w.heap.size W (by omega) (by rw [hW.cell (World.block_lt_of_cell? w3 _ hcb)]; exact hcb)) (enters_of Tryz.func93 (by kernel_rfl) rfl))
    obtain ⟨q0, q1, q2⟩ := HR.out.later hbw
    clear hbw
    go_wp2_with fail
    refine HCF.out.mono ?_
    rintro e w4 ⟨bb, hbb, rfl, hb4⟩
    have hcb4 : w4.cell? ⟨w.heap.size, 0, none⟩ = some (.string v) := by rw [hb4.cell (World.block_lt_of_cell? w3 _ hcb)]; exact hcb
    have p0 : w4.cell? ⟨p, 2, none⟩ = some (.int .i64 (keepR R : Nat)) := by rw [hb4.cell (World.block_lt_of_cell? w3 _ q2)]; exact q2
    have HB4 := Lib.hid (Below.now HBW.out hb4)
    have HBB := Lib.hid hbb
    clear hbb hb4 HCF hcb q0 q1 q2
    cases bb
    · have hen : endsR R v = false := by
        cases h : endsR R v
        · rfl
        · have := HBB.out.2 (HEI.out.1 h); cases this
      have hok : okX R e0 x = true := by rw [HOK.out, hen]; rfl
      have HOKT := Lib.hid hok
      clear hen hok HOK HBB HEI
      generalize keepR R = q at *
      have HF : Hid (∀ W, Below w.heap.size w W → RetNx R e0 x w (.returned (.tuple #[.string (v.extract (v.size - q) v.size), .bool true])) W) := Lib.hid (fun W hW => .inl ⟨HOKT.out, by rw [HNX.out], hW⟩)
      have hw9 : IntKind.i64.wrap ((v.size : Int) - (q : Int)) = (v.size : Int) - (q : Int) := IntWalk.i64_in _ (by omega)
      have hmx : max (0 : Int) ((v.size : Int) - (q : Int)) = ((v.size - q : Nat) : Int) := by omega
      have hl1 : ((v.size - q : Nat) : Int) ≤ (v.size : Int) := by omega
      have hl2 : v.size - q ≤ v.size := by omega
      go_wp2_with fail
      go_quiet (fail)
      clear hw9 hmx hl1 hl2 hcb4 p0
      go_wp2_with fail
      go_ret2
      exact HF.out _ (by have h := HB4.out; exact ⟨h.os, h.tape, h.output, h.size, h.block⟩)
    · have hen : endsR R v = true := HEI.out.2 (HBB.out.1 rfl)
      have F : Hid (RetNx R e0 x w (.returned (.tuple #[.string ⟨#[]⟩, .bool false])) w4) := Lib.hid (.inr ⟨by rw [HOK.out, hen]; rfl, rfl, HB4.out⟩)
      clear hen HOK HBB HEI hcb4 p0
      go_wp2_with fail
      go_ret2
      exact F.out
end Go.Proofs.YtoddpmdjjgnpgaaGreatDoor
