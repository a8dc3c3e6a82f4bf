/-
  Which states are live; keys as texts; plain data.
-/
import Derived.Test.YtoddpmdjjgnpgaaGreatDoorGra13
import Derived.Test.YtoddpmdjjgnpgaaGreatDoorGra08
import Derived.Test.YtoddpmdjjgnpgaaGreatDoorGra14
namespace Go.Proofs.YtoddpmdjjgnpgaaGreatDoor
open Go.RowKit
set_option linter.unusedVariables false
theorem Tryz.infoBool : (Tryz.prog.info? 4).map (fun i => (i.zero, i.size, i.bytes)) = some (some (.bool false), 1, 1) := by kernel_rfl
theorem set_hitA {W : World} {g i : Nat} {xs : Array Value} {T : TypeId} (h : W.heap[g]? = some (.cells xs T (0, 0))) (v : Value) : (W.setCell ⟨g, i, none⟩ v).heap[g]? = some (.cells (xs.setIfInBounds i v) T (0, 0)) := by
  unfold World.setCell
  simp [Array.getElem?_modify, h]
theorem set_missA {W : World} {g b i : Nat} (h : g ≠ b) (v : Value) : (W.setCell ⟨g, i, none⟩ v).heap[b]? = W.heap[b]? := by
  unfold World.setCell
  rw [Array.getElem?_modify, if_neg (show ¬ g = b from h)]
theorem set_grownA (w : World) (B o : Nat) (v : Value) : w.grownBy (w.setCell ⟨B, o, none⟩ v) (some B) :=
  ⟨rfl, rfl, rfl, by simp [World.setCell], fun k _ hk => Below.heap_setCell _ _ _ k (fun e => hk (by rw [e]))⟩
structure AutB (w W : World) (g : Nat) (k : Int) (v u : Value) (N : List Int) (F : List Bool) : Prop where
  blk : W.heap[g]? = some (.cells #[.int .i64 k, v, u] 30 (0, 0))
  nx : W.ownsRow (g + 1) 3 1 v N.length (intVals N)
  fn : W.ownsRow (g + 1) 4 1 u F.length (boolsV F)
  bel : Below w.heap.size w W
  le : w.heap.size ≤ g
section
variable {w W : World} {g : Nat} {k : Int} {v u : Value} {N : List Int} {F : List Bool}
theorem AutB.lt (h : AutB w W g k v u N F) : g < W.heap.size := (Array.getElem?_eq_some_iff.1 h.blk).1
theorem AutB.cells (h : AutB w W g k v u N F) : W.cell? ⟨g, 0, none⟩ = some (.int .i64 k) ∧ W.cell? ⟨g, 1, none⟩ = some v ∧ W.cell? ⟨g, 2, none⟩ = some u := aut_cells h.blk
theorem AutB.frz (h : AutB w W g k v u N F) (o : Nat) : W.frozen? ⟨g, o, none⟩ = false := by simp [World.frozen?, h.blk]
theorem AutB.later {W' : World} (h : AutB w W g k v u N F) (hb : Below W.heap.size W W') : AutB w W' g k v u N F :=
  ⟨blk_later h.blk hb, owns_later h.nx hb, owns_later h.fn hb, Below.now h.bel hb, h.le⟩
theorem AutB.farN (h : AutB w W g k v u N F) : v.ownBlock ≠ some g := fun e => by have := (h.nx.lt g e).1; omega
theorem AutB.farF (h : AutB w W g k v u N F) : u.ownBlock ≠ some g := fun e => by have := (h.fn.lt g e).1; omega
theorem AutB.two (h : AutB w W g k v u N F) : u.ownBlock = none ∨ u.ownBlock ≠ v.ownBlock := by
  cases e : u.ownBlock with
  | none => exact .inl rfl
  | some b => exact .inr fun e2 => rows_neL h.fn h.nx (by decide) b e e2.symm
/-- something else has turned -/
theorem AutB.kept {W' : World} {own : Option Nat} (h : AutB w W g k v u N F) (hg : W.grownBy W' own) (h1 : own ≠ some g) (h2 : v.ownBlock = none ∨ v.ownBlock ≠ own) (h3 : u.ownBlock = none ∨ u.ownBlock ≠ own) (h4 : ∀ b, own = some b → w.heap.size ≤ b) : AutB w W' g k v u N F :=
  ⟨(hg.block g h.lt (fun e => h1 e.symm)).trans h.blk, h.nx.kept hg h2, h.fn.kept hg h3, h.bel.grown hg h.bel.size h4, h.le⟩
theorem AutB.grownN {w4 : World} (h : AutB w W g k v u N F) (hg : W.grownBy w4 v.ownBlock) : w4.heap[g]? = some (.cells #[.int .i64 k, v, u] 30 (0, 0)) := (hg.block g h.lt (fun e => h.farN e.symm)).trans h.blk
theorem AutB.grownF {w4 : World} (h : AutB w W g k v u N F) (hg : W.grownBy w4 u.ownBlock) : w4.heap[g]? = some (.cells #[.int .i64 k, v, u] 30 (0, 0)) := (hg.block g h.lt (fun e => h.farF e.symm)).trans h.blk
theorem aut_facts {W : World} {B : Nat} {x y z : Value} {T : TypeId} (h : W.heap[B]? = some (.cells #[x, y, z] T (0, 0))) : W.cell? ⟨B, 0, none⟩ = some x ∧ W.cell? ⟨B, 1, none⟩ = some y ∧ W.cell? ⟨B, 2, none⟩ = some z ∧ W.frozen? ⟨B, 0, none⟩ = false ∧ W.frozen? ⟨B, 1, none⟩ = false ∧ W.frozen? ⟨B, 2, none⟩ = false := by
  refine ⟨by simp [World.cell?, h], by simp [World.cell?, h], by simp [World.cell?, h], by simp [World.frozen?, h], by simp [World.frozen?, h], by simp [World.frozen?, h]⟩
theorem row_far {W : World} {H : Nat} {T : TypeId} {v : Value} {n : Nat} {xs : List Value} {g : Nat} (h : W.ownsRow H T 1 v n xs) (hg : g < H) : v.ownBlock = none ∨ v.ownBlock ≠ some g := .inr fun e => by have := (h.lt g e).1; omega
theorem AutB.putN {w4 : World} {v' : Value} {x : Int} (h : AutB w W g k v u N F) (hg : W.grownBy w4 v.ownBlock) (ho : w4.ownsRow (g + 1) 3 1 v' (N.length + 1) (intVals N ++ [.int .i64 x])) : AutB w (w4.setCell ⟨g, 1, none⟩ v') g k v' u (N ++ [x]) F := by
  have h4 := h.grownN hg
  have e : intVals N ++ [Value.int .i64 x] = intVals (N ++ [x]) := by simp [intVals]
  have b4 : Below w.heap.size w w4 := h.bel.grown hg h.bel.size (fun b e => by have := (h.nx.lt b e).1; have := h.le; omega)
  refine ⟨(set_hitA h4 _).trans rfl, ?_, (h.fn.kept hg h.two).kept (set_grownA w4 g 1 v') (row_far h.fn (by omega)), b4.setCell (p := ⟨g, 1, none⟩) h.le _, h.le⟩
  rw [List.length_append, ← e]
  exact ho.kept (set_grownA w4 g 1 v') (row_far ho (by omega))
theorem AutB.putF {w4 : World} {u' : Value} {x : Bool} (h : AutB w W g k v u N F) (hg : W.grownBy w4 u.ownBlock) (ho : w4.ownsRow (g + 1) 4 1 u' (F.length + 1) (boolsV F ++ [.bool x])) : AutB w (w4.setCell ⟨g, 2, none⟩ u') g k v u' N (F ++ [x]) := by
  have h4 := h.grownF hg
  have e : boolsV F ++ [Value.bool x] = boolsV (F ++ [x]) := by simp [boolsV]
  have b4 : Below w.heap.size w w4 := h.bel.grown hg h.bel.size (fun b e => by have := (h.fn.lt b e).1; have := h.le; omega)
  have h2 : v.ownBlock = none ∨ v.ownBlock ≠ u.ownBlock := by
    rcases h.two with h2 | h2
    · cases e : v.ownBlock with
      | none => exact .inl rfl
      | some b => exact .inr fun e2 => by rw [h2] at e2; cases e2
    · exact .inr fun e => h2 e.symm
  refine ⟨(set_hitA h4 _).trans rfl, (h.nx.kept hg h2).kept (set_grownA w4 g 2 u') (row_far h.nx (by omega)), ?_, b4.setCell (p := ⟨g, 2, none⟩) h.le _, h.le⟩
  rw [List.length_append, ← e]
  exact ho.kept (set_grownA w4 g 2 u') (row_far ho (by omega))
theorem AutB.start {w W : World} (hb : Below w.heap.size w W) (k : Int) : AutB w (W.alloc (.cells #[.int .i64 k, .slice none 0 0, .slice none 0 0] 30)) W.heap.size k (.slice none 0 0) (.slice none 0 0) [] [] :=
  ⟨alloc_at _ _, World.ownsRow_nil _ _ _ _, World.ownsRow_nil _ _ _ _, hb.alloc hb.size _, hb.size⟩
end
/-- an automaton is handed back -/
def AutAt (W : World) (aN : Option Addr) (N : List Int) (aF : Option Addr) (F : List Bool) : Prop := IntsIn W aN N ∧ BoolsIn W aF F
theorem AutAt.later {W W' : World} {aN : Option Addr} {N : List Int} {aF : Option Addr} {F : List Bool} (h : AutAt W aN N aF F) (hb : Below W.heap.size W W') : AutAt W' aN N aF F := ⟨h.1.later hb, h.2.later hb⟩
/-- an automaton's rows, of the call's own -/
def OwnA (W : World) (H : Nat) (aN : Option Addr) (N : List Int) (cN : Nat) (aF : Option Addr) (F : List Bool) (cF : Nat) : Prop := W.ownsRow H 3 1 (.slice aN N.length cN) N.length (intVals N) ∧ W.ownsRow H 4 1 (.slice aF F.length cF) F.length (boolsV F)
section
variable {W : World} {H : Nat} {aN : Option Addr} {N : List Int} {cN : Nat} {aF : Option Addr} {F : List Bool} {cF : Nat}
theorem OwnA.ints (h : OwnA W H aN N cN aF F cF) : IntsIn W aN N := owns_ints h.1
theorem OwnA.bools (h : OwnA W H aN N cN aF F cF) : BoolsIn W aF F := owns_bools h.2
theorem OwnA.later {W' : World} (h : OwnA W H aN N cN aF F cF) (hb : Below W.heap.size W W') : OwnA W' H aN N cN aF F cF := ⟨owns_later h.1 hb, owns_later h.2 hb⟩
theorem OwnA.set (h : OwnA W H aN N cN aF F cF) {z : Nat} (hz : z < H) (o : Nat) (x : Value) : OwnA (W.setCell ⟨z, o, none⟩ x) H aN N cN aF F cF := ⟨h.1.kept (set_grownA W z o x) (row_far h.1 hz), h.2.kept (set_grownA W z o x) (row_far h.2 hz)⟩
theorem OwnA.mono {H' : Nat} (h : OwnA W H aN N cN aF F cF) (hh : H' ≤ H) : OwnA W H' aN N cN aF F cF := ⟨owns_mono h.1 hh, owns_mono h.2 hh⟩
theorem OwnA.set3 (h : OwnA W H aN N cN aF F cF) {z : Nat} (hz : z < H) (x y t : Value) : OwnA (((W.setCell ⟨z, 0, none⟩ x).setCell ⟨z, 1, none⟩ y).setCell ⟨z, 2, none⟩ t) H aN N cN aF F cF := ((h.set hz 0 x).set hz 1 y).set hz 2 t
end
/-- the result's box, of three cells, is stored to -/
theorem AutB.fin {w0 w W : World} {g z : Nat} {k : Int} {aN : Option Addr} {N : List Int} {cN : Nat} {aF : Option Addr} {F : List Bool} {cF : Nat} (h : AutB w W g k (.slice aN N.length cN) (.slice aF F.length cF) N F) (hb0 : Below w0.heap.size w0 w) (hz : z < g) (hw : w0.heap.size ≤ z) (x y t : Value) :
    OwnA (((W.setCell ⟨z, 0, none⟩ x).setCell ⟨z, 1, none⟩ y).setCell ⟨z, 2, none⟩ t) w0.heap.size aN N cN aF F cF ∧ Below w0.heap.size w0 (((W.setCell ⟨z, 0, none⟩ x).setCell ⟨z, 1, none⟩ y).setCell ⟨z, 2, none⟩ t) :=
  ⟨((show OwnA W (g + 1) aN N cN aF F cF from ⟨h.nx, h.fn⟩).set3 (by omega) x y t).mono (by omega), (((Below.now hb0 h.bel).setCell (p := ⟨z, 0, none⟩) hw _).setCell (p := ⟨z, 1, none⟩) hw _).setCell (p := ⟨z, 2, none⟩) hw _⟩
theorem aut_three {W : World} {g : Nat} {x y z : Value} {T : TypeId} (h : W.heap[g]? = some (.cells #[x, y, z] T (0, 0))) (u v t : Value) : (((W.setCell ⟨g, 0, none⟩ u).setCell ⟨g, 1, none⟩ v).setCell ⟨g, 2, none⟩ t).heap[g]? = some (.cells #[u, v, t] T (0, 0)) :=
  (set_hitA ((set_hitA ((set_hitA h u).trans rfl) v).trans rfl) t).trans rfl
end Go.Proofs.YtoddpmdjjgnpgaaGreatDoor
namespace Go.Proofs.YtoddpmdjjgnpgaaGreatDoor
set_option linter.unusedVariables false
open Classical
/-- two ways of telling elements apart, the second one at least as fine: with as many values they are equally fine -/
theorem same_fine {V : List Nat} {α β : Type} {f : Nat → α} {g : Nat → β} (hr : ∀ s ∈ V, ∀ t ∈ V, g s = g t → f s = f t) {A : List α} {B : List β} (hA : A.Nodup) (hB : B.Nodup) (hAm : ∀ a ∈ A, ∃ s ∈ V, f s = a) (hBm : ∀ s ∈ V, g s ∈ B) (hl : B.length ≤ A.length) (hfA : ∀ s ∈ V, f s ∈ A) : ∀ s ∈ V, ∀ t ∈ V, f s = f t → g s = g t := by
  intro s hs t ht e
  let rep : α → Nat := fun a => if h : ∃ s ∈ V, f s = a then Classical.choose h else 0
  have hrep : ∀ a ∈ A, rep a ∈ V ∧ f (rep a) = a := fun a ha => by
    have h := hAm a ha
    have h2 := Classical.choose_spec h
    show (if h : ∃ s ∈ V, f s = a then Classical.choose h else 0) ∈ V ∧ f (if h : ∃ s ∈ V, f s = a then Classical.choose h else 0) = a
    rw [dif_pos h]; exact h2
  have hinj : (A.map fun a => g (rep a)).Nodup := by
    unfold List.Nodup
    rw [List.pairwise_map]
    refine List.Pairwise.imp_of_mem (fun {a b} ha hb hab e => ?_) hA
    have h1 := hrep a ha
    have h2 := hrep b hb
    have := hr _ h1.1 _ h2.1 e
    rw [h1.2, h2.2] at this
    exact hab this
  have hsub : (A.map fun a => g (rep a)) ⊆ B := fun b hb => by
    obtain ⟨a, ha, rfl⟩ := List.mem_map.1 hb
    exact hBm _ (hrep a ha).1
  have hall : ∀ b ∈ B, b ∈ A.map fun a => g (rep a) := by
    intro b hb
    refine Classical.byContradiction fun hc => ?_
    have h1 : (A.map fun a => g (rep a)) ⊆ B.erase b := fun c hc2 => by
      refine (List.mem_erase_of_ne fun e => hc (by rw [← e]; exact hc2)).2 (hsub hc2)
    have h2 := hinj.length_le_of_subset h1
    rw [List.length_erase_of_mem hb, List.length_map] at h2
    have h3 := List.length_pos_of_mem hb
    omega
  obtain ⟨a, ha, h1⟩ := List.mem_map.1 (hall _ (hBm s hs))
  obtain ⟨b, hb, h2⟩ := List.mem_map.1 (hall _ (hBm t ht))
  have ra := hrep a ha
  have rb := hrep b hb
  have e1 : a = f s := by rw [← ra.2]; exact hr _ ra.1 _ hs h1
  have e2 : b = f t := by rw [← rb.2]; exact hr _ rb.1 _ ht h2
  have e3 : a = b := by rw [e1, e2, e]
  rw [← h1, ← h2, e3]
section
variable (k : Nat) (N : List Int) (F : List Bool)
/-- a state from which some word is accepted -/
def LiveA (s : Nat) : Prop := ∃ w, accA k N F s w
/-- what is told of a state in a round: its number, whether it accepts, the numbers behind the letters -/
noncomputable def keyA (c : Nat → Int) (s : Nat) : Int × Bool × List (Option Int) :=
  (c s, F.getD s false, (List.range k).map fun x => if 0 ≤ nxI k N s x ∧ LiveA k N F (nxI k N s x).toNat then some (c (nxI k N s x).toNat) else none)
end
section
variable {k : Nat} {N : List Int} {F : List Bool} {n : Nat}
theorem dead_iff {s x : Nat} (hx : x < k) : DeadL (dvL (accA k N F s) x) ↔ ¬ (0 ≤ nxI k N s x ∧ LiveA k N F (nxI k N s x).toNat) := by
  by_cases h : 0 ≤ nxI k N s x
  · rw [accA_dv hx h]
    unfold DeadL LiveA
    constructor
    · rintro h1 ⟨_, w, hw⟩; exact h1 w hw
    · intro h1 w hw; exact h1 ⟨h, w, hw⟩
  · exact ⟨fun _ h2 => h h2.1, fun _ => accA_dead (by omega)⟩
/-- classes that tell the languages apart -/
structure ClsA (k : Nat) (N : List Int) (F : List Bool) (n : Nat) (c : Nat → Int) : Prop where
  live : ∀ s, s < n → LiveA k N F s → 0 ≤ c s
  dead : ∀ s, s < n → ¬ LiveA k N F s → c s = -1
  same : ∀ s t, s < n → t < n → LiveA k N F s → LiveA k N F t → (c s = c t ↔ accA k N F s = accA k N F t)
/-- a round: the numbers are the places of the keys in a list without repetition -/
structure RndA (k : Nat) (N : List Int) (F : List Bool) (n : Nat) (c c' : Nat → Int) (m : Nat) : Prop where
  dead : ∀ s, s < n → ¬ LiveA k N F s → c' s = -1
  live : ∀ s, s < n → LiveA k N F s → 0 ≤ c' s ∧ c' s < (m : Int)
  same : ∀ s t, s < n → t < n → LiveA k N F s → LiveA k N F t → (c' s = c' t ↔ keyA k N F c s = keyA k N F c t)
  all : ∀ q : Nat, q < m → ∃ s, s < n ∧ LiveA k N F s ∧ c' s = (q : Int)
/-- what holds of the numbers between the rounds -/
structure MidA (k : Nat) (N : List Int) (F : List Bool) (n : Nat) (c : Nat → Int) (m : Nat) : Prop where
  live : ∀ s, s < n → LiveA k N F s → 0 ≤ c s ∧ c s < (m : Int)
  lang : ∀ s t, s < n → t < n → LiveA k N F s → LiveA k N F t → accA k N F s = accA k N F t → c s = c t
  all : ∀ q : Nat, q < m → ∃ s, s < n ∧ LiveA k N F s ∧ c s = (q : Int)
theorem acc_end {s : Nat} : accA k N F s [] ↔ F.getD s false = true := by rw [accA]
theorem key_lang {c : Nat → Int} (hc : ∀ s t, s < n → t < n → LiveA k N F s → LiveA k N F t → accA k N F s = accA k N F t → c s = c t) (hN : ∀ s x, s < n → x < k → nxI k N s x < n) {s t : Nat} (hs : s < n) (ht : t < n) (ls : LiveA k N F s) (lt : LiveA k N F t) (e : accA k N F s = accA k N F t) : keyA k N F c s = keyA k N F c t := by
  unfold keyA
  refine Prod.ext (hc s t hs ht ls lt e) (Prod.ext ?_ ?_)
  · have h1 := acc_end (k := k) (N := N) (F := F) (s := s)
    rw [e, acc_end] at h1
    exact Bool.eq_iff_iff.2 h1.symm
  · refine List.map_congr_left fun x hx => ?_
    have hx := List.mem_range.1 hx
    have d1 := dead_iff (N := N) (F := F) (s := s) hx
    have d2 := dead_iff (N := N) (F := F) (s := t) hx
    rw [e] at d1
    have d3 := d1.symm.trans d2
    by_cases h : 0 ≤ nxI k N s x ∧ LiveA k N F (nxI k N s x).toNat
    · have h' : 0 ≤ nxI k N t x ∧ LiveA k N F (nxI k N t x).toNat := Classical.byContradiction fun hc => d3.2 hc h
      rw [if_pos h, if_pos h']
      congr 1
      have n1 := hN s x hs hx
      have n2 := hN t x ht hx
      refine hc _ _ (by omega) (by omega) h.2 h'.2 ?_
      rw [← accA_dv hx h.1, ← accA_dv hx h'.1, e]
    · have h' : ¬ (0 ≤ nxI k N t x ∧ LiveA k N F (nxI k N t x).toNat) := fun hc => (d3.1 h) hc
      rw [if_neg h, if_neg h']
theorem RndA.mid {c c' : Nat → Int} {m : Nat} (h : RndA k N F n c c' m) (hc : ∀ s t, s < n → t < n → LiveA k N F s → LiveA k N F t → accA k N F s = accA k N F t → c s = c t) (hN : ∀ s x, s < n → x < k → nxI k N s x < n) : MidA k N F n c' m :=
  ⟨h.live, fun s t hs ht ls lt e => (h.same s t hs ht ls lt).2 (key_lang hc hN hs ht ls lt e), h.all⟩
/-- the values of a round: not more than there are states; not fewer than before -/
theorem MidA.le {c : Nat → Int} {m : Nat} (h : MidA k N F n c m) : m ≤ n := by
  have key : ∀ q ∈ List.range m, (q : Int) ∈ (List.range n).map c := fun q hq => by
    obtain ⟨s, hs, _, e⟩ := h.all q (List.mem_range.1 hq)
    exact List.mem_map.2 ⟨s, List.mem_range.2 hs, e⟩
  have h1 : ((List.range m).map fun q : Nat => (q : Int)).Nodup := by
    unfold List.Nodup
    rw [List.pairwise_map]
    exact List.nodup_range.imp fun hab e => hab (by omega)
  have h2 := h1.length_le_of_subset (l₂ := (List.range n).map c) fun z hz => by
    obtain ⟨q, hq, rfl⟩ := List.mem_map.1 hz
    exact key q hq
  rwa [List.length_map, List.length_map, List.length_range, List.length_range] at h2
theorem liveV {s : Nat} : s ∈ (List.range n).filter (fun s => decide (LiveA k N F s)) ↔ s < n ∧ LiveA k N F s := by simp
theorem rangeZ (m : Nat) : ((List.range m).map fun q : Nat => (q : Int)).Nodup := by
  unfold List.Nodup
  rw [List.pairwise_map]
  exact List.nodup_range.imp fun hab e => hab (by omega)
theorem rnd_more {c c' : Nat → Int} {m m' : Nat} (hN : ∀ s x, s < n → x < k → nxI k N s x < n) (hm : MidA k N F n c m) (h : RndA k N F n c c' m') : m ≤ m' ∧ (m' = m → ClsA k N F n c') := by
  have hr : ∀ s ∈ (List.range n).filter (fun s => decide (LiveA k N F s)), ∀ t ∈ (List.range n).filter (fun s => decide (LiveA k N F s)), c' s = c' t → c s = c t := fun s hs t ht e => by
    have hs := liveV.1 hs
    have ht := liveV.1 ht
    exact congrArg (·.1) ((h.same s t hs.1 ht.1 hs.2 ht.2).1 e)
  refine ⟨?_, fun e => ?_⟩
  · -- each old number has a new one of its own
    have : ∀ q, q < m → ∃ q' : Nat, q' < m' ∧ ∃ s, s < n ∧ LiveA k N F s ∧ c s = (q : Int) ∧ c' s = (q' : Int) := fun q hq => by
      obtain ⟨s, hs, ls, e⟩ := hm.all q hq
      have := h.live s hs ls
      exact ⟨(c' s).toNat, by omega, s, hs, ls, e, by omega⟩
    let φ : Nat → Nat := fun q => if hq : q < m then Classical.choose (this q hq) else 0
    have hφ : ∀ q, q < m → φ q < m' ∧ ∃ s, s < n ∧ LiveA k N F s ∧ c s = (q : Int) ∧ c' s = (φ q : Int) := fun q hq => by
      have h2 := Classical.choose_spec (this q hq)
      show (if hq : q < m then Classical.choose (this q hq) else 0) < m' ∧ ∃ s, s < n ∧ LiveA k N F s ∧ c s = (q : Int) ∧ c' s = ((if hq : q < m then Classical.choose (this q hq) else 0 : Nat) : Int)
      rw [dif_pos hq]; exact h2
    have h1 : ((List.range m).map φ).Nodup := by
      unfold List.Nodup
      rw [List.pairwise_map]
      refine List.Pairwise.imp_of_mem (fun {a b} ha hb hab e => ?_) List.nodup_range
      obtain ⟨_, s, s1, s2, s3, s4⟩ := hφ a (List.mem_range.1 ha)
      obtain ⟨_, t, t1, t2, t3, t4⟩ := hφ b (List.mem_range.1 hb)
      have := hr s (liveV.2 ⟨s1, s2⟩) t (liveV.2 ⟨t1, t2⟩) (by rw [s4, t4, e])
      omega
    have h2 := h1.length_le_of_subset (l₂ := List.range m') fun z hz => by
      obtain ⟨q, hq, rfl⟩ := List.mem_map.1 hz
      exact List.mem_range.2 (hφ q (List.mem_range.1 hq)).1
    rwa [List.length_map, List.length_range, List.length_range] at h2
  · subst e
    have hst := same_fine (f := c) (g := c') hr (rangeZ m') (rangeZ m') (fun a ha => by
      obtain ⟨q, hq, rfl⟩ := List.mem_map.1 ha
      obtain ⟨s, s1, s2, s3⟩ := hm.all q (List.mem_range.1 hq)
      exact ⟨s, liveV.2 ⟨s1, s2⟩, s3⟩) (fun s hs => by
      have hs := liveV.1 hs
      have := h.live s hs.1 hs.2
      exact List.mem_map.2 ⟨(c' s).toNat, List.mem_range.2 (by omega), by omega⟩) (Nat.le_refl _) (fun s hs => by
      have hs := liveV.1 hs
      have := hm.live s hs.1 hs.2
      exact List.mem_map.2 ⟨(c s).toNat, List.mem_range.2 (by omega), by omega⟩)
    have hkey : ∀ s t, s < n → t < n → LiveA k N F s → LiveA k N F t → c' s = c' t → keyA k N F c s = keyA k N F c t := fun s t hs ht ls lt e => (h.same s t hs ht ls lt).1 e
    have down : ∀ (w : List Nat) (s t : Nat), s < n → t < n → LiveA k N F s → LiveA k N F t → c' s = c' t → accA k N F s w → accA k N F t w := by
      intro w
      induction w with
      | nil =>
        intro s t hs ht ls lt e hw
        have h1 : F.getD s false = F.getD t false := congrArg (fun q => q.2.1) (hkey s t hs ht ls lt e)
        rw [acc_end] at hw ⊢
        rw [← h1]; exact hw
      | cons x w ih =>
        intro s t hs ht ls lt e hw
        rw [accA] at hw ⊢
        obtain ⟨hx, h0, hw⟩ := hw
        have h1 := congrArg (fun q => q.2.2[x]?) (hkey s t hs ht ls lt e)
        unfold keyA at h1
        simp only [List.getElem?_map, List.getElem?_range hx, Option.map_some, Option.some.injEq] at h1
        have p1 : 0 ≤ nxI k N s x ∧ LiveA k N F (nxI k N s x).toNat := ⟨h0, w, hw⟩
        rw [if_pos p1] at h1
        by_cases p2 : 0 ≤ nxI k N t x ∧ LiveA k N F (nxI k N t x).toNat
        · rw [if_pos p2] at h1
          have n1 := hN s x hs hx
          have n2 := hN t x ht hx
          have h2 := hst _ (liveV.2 ⟨(by omega : (nxI k N s x).toNat < n), p1.2⟩) _ (liveV.2 ⟨(by omega : (nxI k N t x).toNat < n), p2.2⟩) (Option.some.inj h1)
          exact ⟨hx, p2.1, ih _ _ (by omega) (by omega) p1.2 p2.2 h2 hw⟩
        · rw [if_neg p2] at h1; cases h1
    refine ⟨fun s hs ls => (h.live s hs ls).1, h.dead, fun s t hs ht ls lt => ⟨fun e => ?_, fun e => ?_⟩⟩
    · funext w
      exact propext ⟨down w s t hs ht ls lt e, down w t s ht hs lt ls e.symm⟩
    · exact (h.same s t hs ht ls lt).2 (key_lang hm.lang hN hs ht ls lt e)
end
end Go.Proofs.YtoddpmdjjgnpgaaGreatDoor
namespace Go.Proofs.YtoddpmdjjgnpgaaGreatDoor
open Go.RowKit
set_option linter.unusedVariables false
section
variable {k : Nat} {N : List Int} {F : List Bool}
/-- truth values that are true only at live states, and where a word may end -/
structure LvOk (k : Nat) (N : List Int) (F lv : List Bool) : Prop where
  len : lv.length = F.length
  base : ∀ s, F.getD s false = true → lv.getD s false = true
  sound : ∀ s, lv.getD s false = true → LiveA k N F s
/-- no further state is live -/
def ClosedL (k : Nat) (N : List Int) (F lv : List Bool) : Prop := ∀ s x, s < F.length → x < k → 0 ≤ nxI k N s x → lv.getD (nxI k N s x).toNat false = true → lv.getD s false = true
theorem LvOk.start (hF : AutP k N F) : LvOk k N F F := ⟨rfl, fun _ h => h, fun s h => ⟨[], by rw [accA]; exact h⟩⟩
theorem set_same {l : List Bool} {s : Nat} (h : s < l.length) : (l.set s true).getD s false = true := by simp [List.getD_eq_getElem?_getD, h]
theorem set_up {l : List Bool} {s i : Nat} (h : l.getD i false = true) : (l.set s true).getD i false = true := by
  rw [List.getD_eq_getElem?_getD] at h ⊢
  rw [List.getElem?_set]
  split
  · split
    · rfl
    · rename_i h1 h2; subst h1; rw [List.getElem?_eq_none (by omega)] at h; simp at h
  · exact h
theorem set_old {l : List Bool} {s i : Nat} (h : (l.set s true).getD i false = true) : i = s ∨ l.getD i false = true := by
  by_cases e : i = s
  · exact .inl e
  · right
    rw [List.getD_eq_getElem?_getD, List.getElem?_set_ne (fun e2 => e e2.symm)] at h
    rwa [List.getD_eq_getElem?_getD]
theorem LvOk.set {lv : List Bool} (h : LvOk k N F lv) {s x : Nat} (hs : s < F.length) (hx : x < k) (h0 : 0 ≤ nxI k N s x) (h1 : lv.getD (nxI k N s x).toNat false = true) : LvOk k N F (lv.set s true) :=
  ⟨by rw [List.length_set]; exact h.len, fun i hi => set_up (h.base i hi), fun i hi => by
    rcases set_old hi with rfl | hi
    · obtain ⟨w, hw⟩ := h.sound _ h1
      exact ⟨x :: w, by rw [accA]; exact ⟨hx, h0, hw⟩⟩
    · exact h.sound i hi⟩
theorem live_closed {lv : List Bool} (hA : AutP k N F) (h : LvOk k N F lv) (hc : ClosedL k N F lv) : ∀ (w : List Nat) (s : Nat), s < F.length → accA k N F s w → lv.getD s false = true
  | [], s, hs, hw => by rw [accA] at hw; exact h.base s hw
  | x :: w, s, hs, hw => by
    rw [accA] at hw
    have hn := hA.next hs hw.1
    exact hc s x hs hw.1 hw.2.1 (live_closed hA h hc w _ (by omega) hw.2.2)
def cntT (l : List Bool) : Nat := (l.filter id).length
theorem cntT_le (l : List Bool) : cntT l ≤ l.length := List.length_filter_le _ _
theorem cntT_all : ∀ {l : List Bool}, l.length ≤ cntT l → ∀ i, i < l.length → l.getD i false = true
  | [], _, i, hi => by simp at hi
  | b :: l, h, i, hi => by
    have hl := cntT_le l
    have hb : b = true := by
      cases b
      · have : cntT (false :: l) = cntT l := rfl
        rw [this, List.length_cons] at h; omega
      · rfl
    subst hb
    have e : cntT (true :: l) = cntT l + 1 := rfl
    rw [e, List.length_cons] at h
    match i, hi with
    | 0, _ => rfl
    | i + 1, hi => exact cntT_all (by omega) i (by simpa using hi)
theorem cntT_mono : ∀ {l m : List Bool}, l.length = m.length → (∀ i, l.getD i false = true → m.getD i false = true) → cntT l ≤ cntT m
  | [], [], _, _ => Nat.le_refl _
  | [], _ :: _, h, _ => by simp at h
  | _ :: _, [], h, _ => by simp at h
  | a :: l, b :: m, h, hm => by
    have ih := cntT_mono (l := l) (m := m) (by simpa using h) (fun i hi => hm (i + 1) hi)
    have h0 := hm 0
    cases a <;> cases b
    · exact ih
    · exact Nat.le_trans ih (Nat.le_succ _)
    · exact absurd (h0 rfl) (by simp)
    · exact Nat.succ_le_succ ih
theorem cntT_lt : ∀ {l m : List Bool} {s : Nat}, l.length = m.length → (∀ i, l.getD i false = true → m.getD i false = true) → s < l.length → l.getD s false = false → m.getD s false = true → cntT l < cntT m
  | [], _, s, _, _, hs, _, _ => by simp at hs
  | _ :: _, [], _, h, _, _, _, _ => by simp at h
  | a :: l, b :: m, 0, h, hm, _, h0, h1 => by
    have ih := cntT_mono (l := l) (m := m) (by simpa using h) (fun i hi => hm (i + 1) hi)
    have ha : a = false := h0
    have hb : b = true := h1
    subst ha; subst hb
    exact Nat.lt_succ_of_le ih
  | a :: l, b :: m, s + 1, h, hm, hs, h0, h1 => by
    have ih := cntT_lt (l := l) (m := m) (s := s) (by simpa using h) (fun i hi => hm (i + 1) hi) (by simpa using hs) h0 h1
    have h00 := hm 0
    cases a <;> cases b
    · exact ih
    · exact Nat.lt_succ_of_lt ih
    · exact absurd (h00 rfl) (by simp)
    · exact Nat.succ_lt_succ ih
/-- between two rounds -/
def LvR (k : Nat) (N : List Int) (F : List Bool) (i : Nat) (lv : List Bool) : Prop := LvOk k N F lv ∧ (ClosedL k N F lv ∨ i ≤ cntT lv)
/-- within a round that began with lv0, ahead of state s and letter x -/
structure LvMid (k : Nat) (N : List Int) (F lv0 lv : List Bool) (s x : Nat) : Prop where
  ok : LvOk k N F lv
  mono : ∀ i, lv0.getD i false = true → lv.getD i false = true
  done : ∀ s' x', (s' < s ∨ s' = s ∧ x' < x) → s' < F.length → x' < k → 0 ≤ nxI k N s' x' → lv0.getD (nxI k N s' x').toNat false = true → lv.getD s' false = true
  stay : ClosedL k N F lv0 → ∀ i, lv.getD i false = true → lv0.getD i false = true
theorem LvMid.start {lv0 : List Bool} (h : LvOk k N F lv0) : LvMid k N F lv0 lv0 0 0 := ⟨h, fun _ h => h, fun s' x' hh _ _ _ _ => by omega, fun _ _ h => h⟩
theorem LvMid.row {lv0 lv : List Bool} {s : Nat} (h : LvMid k N F lv0 lv s k) : LvMid k N F lv0 lv (s + 1) 0 :=
  ⟨h.ok, h.mono, fun s' x' hh h1 h2 => h.done s' x' (by omega) h1 h2, h.stay⟩
theorem LvMid.no {lv0 lv : List Bool} {s x : Nat} (h : LvMid k N F lv0 lv s x) (hn : ¬ (0 ≤ nxI k N s x ∧ lv.getD (nxI k N s x).toNat false = true)) : LvMid k N F lv0 lv s (x + 1) :=
  ⟨h.ok, h.mono, fun s' x' hh h1 h2 h3 h4 => by
    by_cases e : s' = s ∧ x' = x
    · obtain ⟨rfl, rfl⟩ := e
      exact absurd ⟨h3, h.mono _ h4⟩ hn
    · exact h.done s' x' (by omega) h1 h2 h3 h4, h.stay⟩
theorem LvMid.yes {lv0 lv : List Bool} {s x : Nat} (h : LvMid k N F lv0 lv s x) (hs : s < F.length) (hx : x < k) (h0 : 0 ≤ nxI k N s x) (h1 : lv.getD (nxI k N s x).toNat false = true) : LvMid k N F lv0 (lv.set s true) s (x + 1) :=
  ⟨h.ok.set hs hx h0 h1, fun i hi => set_up (h.mono i hi), fun s' x' hh h1' h2 h3 h4 => by
    by_cases e : s' = s
    · subst e; exact set_same (by rw [h.ok.len]; exact hs)
    · exact set_up (h.done s' x' (by omega) h1' h2 h3 h4), fun hc i hi => by
    rcases set_old hi with rfl | hi
    · exact hc _ x hs hx h0 (h.stay hc _ h1)
    · exact h.stay hc i hi⟩
theorem LvMid.fin {lv0 lv : List Bool} {i : Nat} (h : LvMid k N F lv0 lv F.length 0) (h0 : LvR k N F i lv0) : LvR k N F (i + 1) lv := by
  refine ⟨h.ok, ?_⟩
  by_cases hc : ClosedL k N F lv0
  · left
    intro s x hs hx hn ht
    exact h.mono _ (hc s x hs hx hn (h.stay hc _ ht))
  · right
    have hi := h0.2.resolve_left hc
    unfold ClosedL at hc
    simp only [Classical.not_forall] at hc
    obtain ⟨s, x, hs, hx, hn, ht, hf⟩ := hc
    have h1 := h.done s x (.inl hs) hs hx hn ht
    have := cntT_lt (s := s) (h0.1.len.trans h.ok.len.symm) h.mono (by rw [h0.1.len]; exact hs) (by simpa using hf) h1
    omega
theorem LvR.all {lv : List Bool} (hA : AutP k N F) (h : LvR k N F F.length lv) {s : Nat} (hs : s < F.length) : lv.getD s false = true ↔ LiveA k N F s := by
  refine ⟨h.1.sound s, fun ⟨w, hw⟩ => ?_⟩
  rcases h.2 with hc | hc
  · exact live_closed hA h.1 hc w s hs hw
  · exact cntT_all (by rw [h.1.len]; exact hc) s (by rw [h.1.len]; exact hs)
/-! ### keys -/
section
open Classical
/-- what stands for a letter -/
noncomputable def pieceK (k : Nat) (N : List Int) (F : List Bool) (c : Nat → Int) (s x : Nat) : ByteArray := if 0 ≤ nxI k N s x ∧ LiveA k N F (nxI k N s x).toNat then numB (c (nxI k N s x).toNat) else ⟨#[45]⟩
def headK (F : List Bool) (c : Nat → Int) (s : Nat) : ByteArray := if F.getD s false = true then numB (c s) ++ ⟨#[33]⟩ else numB (c s)
noncomputable def textK (k : Nat) (N : List Int) (F : List Bool) (c : Nat → Int) (s : Nat) : Nat → ByteArray
  | 0 => headK F c s
  | x + 1 => textK k N F c s x ++ (⟨#[44]⟩ ++ pieceK k N F c s x)
end
theorem numB_free (n : Int) : (44 : UInt8) ∉ (numB n).data.toList := itoa_free (by decide)
theorem numB_free33 (n : Int) : (33 : UInt8) ∉ (numB n).data.toList := itoa_free (by decide)
theorem head_free (F : List Bool) (c : Nat → Int) (s : Nat) : (44 : UInt8) ∉ (headK F c s).data.toList := by
  unfold headK
  split
  · intro h
    rw [ByteArray.data_append, Array.toList_append] at h
    rcases List.mem_append.1 h with h | h
    · exact numB_free _ h
    · simp at h
  · exact numB_free _
theorem piece_free (k : Nat) (N : List Int) (F : List Bool) (c : Nat → Int) (s x : Nat) : (44 : UInt8) ∉ (pieceK k N F c s x).data.toList := by
  unfold pieceK
  split
  · exact numB_free _
  · simp
theorem text_par (c : Nat → Int) (s : Nat) : ∀ x, parL 44 (textK k N F c s x).data.toList = (headK F c s).data.toList :: (List.range x).map fun y => (pieceK k N F c s y).data.toList
  | 0 => by rw [textK, List.range_zero, List.map_nil]; exact parL_no (head_free F c s)
  | x + 1 => by
    rw [textK, ByteArray.data_append, ByteArray.data_append, Array.toList_append, Array.toList_append]
    show parL 44 ((textK k N F c s x).data.toList ++ 44 :: (pieceK k N F c s x).data.toList) = _
    rw [parL_app, text_par c s x, parL_no (piece_free k N F c s x), List.range_succ, List.map_append, List.cons_append]
    rfl
theorem numB_injA {a b : Int} (ha : -9223372036854775808 ≤ a ∧ a ≤ 9223372036854775807) (hb : -9223372036854775808 ≤ b ∧ b ≤ 9223372036854775807) (h : numB a = numB b) : a = b :=
  (show IsNum (numB a) a from ⟨ha, rfl⟩).uniq ⟨hb, h⟩
theorem numB_dash {n : Int} (h : 0 ≤ n) : (numB n).data.toList ≠ [45] := fun e => by
  have h1 : Lib.itoa n = [45] := e
  unfold Lib.itoa at h1
  rw [if_neg (by omega)] at h1
  have := decDigits_dig n.toNat 45 (by
    have e2 : Lib.decDigits n.toNat = [45] := h1
    rw [e2]; simp)
  simp at this
/-- keys as texts tell what keys tell -/
theorem text_key {c : Nat → Int} {n : Nat} (hN : ∀ s x, s < n → x < k → nxI k N s x < n) (hc : ∀ s, s < n → LiveA k N F s → 0 ≤ c s ∧ c s ≤ 1000) {s t : Nat} (hs : s < n) (ht : t < n) (ls : LiveA k N F s) (lt : LiveA k N F t) :
    textK k N F c s k = textK k N F c t k ↔ keyA k N F c s = keyA k N F c t := by
  have r1 := hc s hs ls
  have r2 := hc t ht lt
  constructor
  · intro e
    have h1 := text_par (k := k) (N := N) (F := F) c s k
    rw [e, text_par] at h1
    obtain ⟨hh, hp⟩ := List.cons.inj h1
    have hd : c s = c t ∧ F.getD s false = F.getD t false := by
      unfold headK at hh
      cases fs : F.getD s false <;> cases ft : F.getD t false <;> rw [fs, ft] at hh
      · exact ⟨(numB_injA (by omega) (by omega) (Go.WideShapes.bytes_inj hh)).symm, rfl⟩
      · exfalso
        have h33 : (33 : UInt8) ∈ (numB (c t) ++ ⟨#[33]⟩).data.toList := by rw [ByteArray.data_append, Array.toList_append]; simp
        rw [if_pos rfl, if_neg (by simp)] at hh
        rw [hh] at h33
        exact numB_free33 _ h33
      · exfalso
        have h33 : (33 : UInt8) ∈ (numB (c s) ++ ⟨#[33]⟩).data.toList := by rw [ByteArray.data_append, Array.toList_append]; simp
        rw [if_neg (by simp), if_pos rfl] at hh
        rw [← hh] at h33
        exact numB_free33 _ h33
      · rw [if_pos rfl, if_pos rfl, ByteArray.data_append, ByteArray.data_append, Array.toList_append, Array.toList_append] at hh
        exact ⟨(numB_injA (by omega) (by omega) (Go.WideShapes.bytes_inj (List.append_cancel_right hh))).symm, rfl⟩
    unfold keyA
    refine Prod.ext hd.1 (Prod.ext hd.2 (List.map_congr_left fun x hx => ?_))
    have hx' := List.mem_range.1 hx
    have hpx : (pieceK k N F c t x).data.toList = (pieceK k N F c s x).data.toList := by
      have := congrArg (fun l : List (List UInt8) => l.getD x []) hp
      simpa [List.getD_eq_getElem?_getD, hx'] using this
    unfold pieceK at hpx
    have n1 := hN s x hs hx'
    have n2 := hN t x ht hx'
    by_cases a1 : 0 ≤ nxI k N s x ∧ LiveA k N F (nxI k N s x).toNat
    · have q1 := hc _ (by omega) a1.2
      by_cases a2 : 0 ≤ nxI k N t x ∧ LiveA k N F (nxI k N t x).toNat
      · have q2 := hc _ (by omega) a2.2
        rw [if_pos a1, if_pos a2] at hpx ⊢
        rw [numB_injA (by omega) (by omega) (Go.WideShapes.bytes_inj hpx)]
      · rw [if_pos a1, if_neg a2] at hpx
        exact absurd hpx.symm (numB_dash q1.1)
    · by_cases a2 : 0 ≤ nxI k N t x ∧ LiveA k N F (nxI k N t x).toNat
      · have q2 := hc _ (by omega) a2.2
        rw [if_neg a1, if_pos a2] at hpx
        exact absurd hpx (numB_dash q2.1)
      · rw [if_neg a1, if_neg a2]
  · intro e
    unfold keyA at e
    simp only [Prod.mk.injEq] at e
    obtain ⟨e1, e2, e3⟩ := e
    have key : ∀ x, x ≤ k → textK k N F c s x = textK k N F c t x := by
      intro x
      induction x with
      | zero => intro _; rw [textK, textK]; unfold headK; rw [e1, e2]
      | succ x ih =>
        intro hx
        rw [textK, textK, ih (by omega)]
        congr 2
        have h3 := congrArg (fun l : List (Option Int) => l.getD x none) e3
        simp only [List.getD_eq_getElem?_getD, List.getElem?_map, List.getElem?_range (show x < k by omega), Option.map_some, Option.getD_some] at h3
        unfold pieceK
        by_cases a1 : 0 ≤ nxI k N s x ∧ LiveA k N F (nxI k N s x).toNat
        · by_cases a2 : 0 ≤ nxI k N t x ∧ LiveA k N F (nxI k N t x).toNat
          · rw [if_pos a1, if_pos a2] at h3 ⊢
            rw [Option.some.inj h3]
          · rw [if_pos a1, if_neg a2] at h3; cases h3
        · by_cases a2 : 0 ≤ nxI k N t x ∧ LiveA k N F (nxI k N t x).toNat
          · rw [if_neg a1, if_pos a2] at h3; cases h3
          · rw [if_neg a1, if_neg a2]
    exact key k (Nat.le_refl _)
end
end Go.Proofs.YtoddpmdjjgnpgaaGreatDoor
