/-
  The reduced words of a length, by the program.
-/
import Derived.Test.YtoddpmdjjgnpgaaGreatDoorGra15
import Derived.Test.YtoddpmdjjgnpgaaGreatDoorGra18
import Derived.Test.YtoddpmdjjgnpgaaGreatDoorGra19
import Derived.Test.YtoddpmdjjgnpgaaGreatDoorGra17
import Derived.Laws.EntriesVeiled
import Derived.Test.YtoddpmdjjgnpgaaGreatDoorGra01
import Derived.Test.YtoddpmdjjgnpgaaGreatDoorGra03
import Derived.Test.YtoddpmdjjgnpgaaGreatDoorGra07
import Derived.Deep.RegionHeld3
import Derived.Test.YtoddpmdjjgnpgaaGreatDoorGra16
import Derived.Test.YtoddpmdjjgnpgaaGreatDoorGra08
import Derived.Sort.Walk0
import Derived.Test.YtoddpmdjjgnpgaaGreatDoorGra05
import Derived.DeepKeys4
import Derived.Maps.OwnSet
import Derived.Maps.OwnOps
import Derived.Deep.DeepCutAuto
namespace Go.Proofs.YtoddpmdjjgnpgaaGreatDoor
open Go.RowKit
set_option linter.unusedVariables false
structure AutS (w W : World) (g : Nat) (k : Int) (v u : Value) (N : List Int) (F : List Bool) (T : TypeId) (size : Nat) (vS : Value) (n : Nat) (xs : List Value) : Prop where
  aut : AutB w W g k v u N F
  st : W.ownsRow w.heap.size T size vS n xs
  gne : vS.ownBlock ≠ some g
  sepN : ∀ b, vS.ownBlock = some b → v.ownBlock ≠ some b
  sepF : ∀ b, vS.ownBlock = some b → u.ownBlock ≠ some b
theorem sep_or {a b : Option Nat} (h : ∀ q, a = some q → b ≠ some q) : a = none ∨ a ≠ b := by
  cases a with
  | none => exact .inl rfl
  | some q => exact .inr fun e => h q rfl e.symm
theorem sep_or2 {a b : Option Nat} (h : ∀ q, a = some q → b ≠ some q) : b = none ∨ b ≠ a := by
  cases b with
  | none => exact .inl rfl
  | some q => exact .inr fun e => h q e.symm rfl
section
variable {w W : World} {g : Nat} {k : Int} {v u : Value} {N : List Int} {F : List Bool} {T : TypeId} {size : Nat} {vS : Value} {n : Nat} {xs : List Value}
theorem AutS.later {W' : World} (h : AutS w W g k v u N F T size vS n xs) (hb : Below W.heap.size W W') : AutS w W' g k v u N F T size vS n xs :=
  ⟨h.aut.later hb, owns_later h.st hb, h.gne, h.sepN, h.sepF⟩
theorem AutS.putN {w4 : World} {v' : Value} {x : Int} (h : AutS w W g k v u N F T size vS n xs) (hg : W.grownBy w4 v.ownBlock) (ho : w4.ownsRow (g + 1) 3 1 v' (N.length + 1) (intVals N ++ [.int .i64 x])) (hr : v'.ownBlock = v.ownBlock ∨ v'.ownBlock = some W.heap.size) :
    AutS w (w4.setCell ⟨g, 1, none⟩ v') g k v' u (N ++ [x]) F T size vS n xs := by
  refine ⟨h.aut.putN hg ho, (h.st.kept hg (sep_or h.sepN)).kept (set_grownA w4 g 1 v') (.inr h.gne), h.gne, fun b hb e => ?_, h.sepF⟩
  rcases hr with e1 | e1
  · exact h.sepN b hb (e1 ▸ e)
  · have h1 := (h.st.lt b hb).2
    rw [e1] at e
    have := Option.some.inj e
    omega
theorem AutS.putF {w4 : World} {u' : Value} {x : Bool} (h : AutS w W g k v u N F T size vS n xs) (hg : W.grownBy w4 u.ownBlock) (ho : w4.ownsRow (g + 1) 4 1 u' (F.length + 1) (boolsV F ++ [.bool x])) (hr : u'.ownBlock = u.ownBlock ∨ u'.ownBlock = some W.heap.size) :
    AutS w (w4.setCell ⟨g, 2, none⟩ u') g k v u' N (F ++ [x]) T size vS n xs := by
  refine ⟨h.aut.putF hg ho, (h.st.kept hg (sep_or h.sepF)).kept (set_grownA w4 g 2 u') (.inr h.gne), h.gne, h.sepN, fun b hb e => ?_⟩
  rcases hr with e1 | e1
  · exact h.sepF b hb (e1 ▸ e)
  · have h1 := (h.st.lt b hb).2
    rw [e1] at e
    have := Option.some.inj e
    omega
theorem AutS.putS {w4 : World} {vS' : Value} {n' : Nat} {xs' : List Value} (h : AutS w W g k v u N F T size vS n xs) (hg : W.grownBy w4 vS.ownBlock) (ho : w4.ownsRow w.heap.size T size vS' n' xs') (hr : vS'.ownBlock = vS.ownBlock ∨ vS'.ownBlock = some W.heap.size) :
    AutS w w4 g k v u N F T size vS' n' xs' := by
  have fresh : ∀ {q : Nat}, q < W.heap.size → vS.ownBlock ≠ some q → vS'.ownBlock ≠ some q := fun {q} hq hne e => by
    rcases hr with e1 | e1
    · exact hne (e1 ▸ e)
    · rw [e1] at e
      have := Option.some.inj e
      omega
  refine ⟨h.aut.kept hg h.gne (sep_or2 h.sepN) (sep_or2 h.sepF) (fun b hb => (h.st.lt b hb).1), ho, fresh h.aut.lt h.gne, fun b hb e => ?_, fun b hb e => ?_⟩
  · exact fresh (h.aut.nx.lt b e).2 (fun e2 => h.sepN b e2 e) hb
  · exact fresh (h.aut.fn.lt b e).2 (fun e2 => h.sepF b e2 e) hb
/-- the beginning: a row of one element, then the record -/
theorem AutS.start (w : World) (cs : Array Value) (T : TypeId) (size : Nat) (hs : cs.size = 1 * size) (k : Int) :
    AutS w ((w.alloc (.cells cs T)).alloc (.cells #[.int .i64 k, .slice none 0 0, .slice none 0 0] 30)) (w.heap.size + 1) k (.slice none 0 0) (.slice none 0 0) [] [] T size (.slice (some ⟨w.heap.size, 0, none⟩) 1 1) 1 cs.toList := by
  have hb := alloc_belowS w (.cells cs T)
  have ha := AutB.start hb k
  have hsz : (w.alloc (.cells cs T)).heap.size = w.heap.size + 1 := by simp
  rw [hsz] at ha
  refine ⟨ha, owns_later (World.ownsRow_lit w cs 1 (Nat.le_refl _) (by unfold maxLen; omega) hs) (alloc_belowS _ _), ?_, fun b _ e => (by cases e), fun b _ e => (by cases e)⟩
  simp [Value.ownBlock]
end
/-! ### classes -/
section
open Classical
theorem idxZ_lang {f : Nat → Lang} {a : Lang} {p : Int → Bool} : ∀ {S : List Nat}, (∀ s ∈ S, p (s : Int) = true ↔ f s = a) → (a ∈ S.map f → idxZ p (S.map Int.ofNat) = (((S.map f).idxOf a : Nat) : Int)) ∧ (a ∉ S.map f → idxZ p (S.map Int.ofNat) = -1)
  | [], _ => ⟨fun h => by simp at h, fun _ => rfl⟩
  | s :: S, h => by
    have ih := idxZ_lang (f := f) (a := a) (p := p) (S := S) fun t ht => h t (List.mem_cons_of_mem _ ht)
    have h0 := h s List.mem_cons_self
    by_cases e : f s = a
    · have hp : p (Int.ofNat s) = true := h0.2 e
      refine ⟨fun _ => ?_, fun hn => absurd (by simp [e]) hn⟩
      unfold idxZ
      rw [List.map_cons, List.map_cons, List.findIdx?_cons, if_pos hp, List.idxOf_cons, e]
      simp
    · have hp : p (Int.ofNat s) = false := by
        cases hq : p (Int.ofNat s)
        · rfl
        · exact absurd (h0.1 hq) e
      have key : idxZ p ((s :: S).map Int.ofNat) = match (S.map Int.ofNat).findIdx? p with | some i => ((i + 1 : Nat) : Int) | none => -1 := by
        unfold idxZ
        rw [List.map_cons, List.findIdx?_cons, hp]
        cases (S.map Int.ofNat).findIdx? p <;> simp
      have hm : a ∈ (s :: S).map f ↔ a ∈ S.map f := by
        rw [List.map_cons, List.mem_cons]
        exact ⟨fun h => h.resolve_left fun h => e h.symm, .inr⟩
      unfold idxZ at ih
      refine ⟨fun hx => ?_, fun hx => ?_⟩
      · have h1 := ih.1 (hm.1 hx)
        rw [key, List.map_cons, List.idxOf_cons]
        have e2 : (f s == a) = false := by simpa using e
        rw [e2]
        cases hq : (S.map Int.ofNat).findIdx? p with
        | none => rw [hq] at h1; simp at h1
        | some i => rw [hq] at h1; simp only at h1 ⊢; simp; omega
      · have h1 := ih.2 (fun h => hx (hm.2 h))
        rw [key]
        cases hq : (S.map Int.ofNat).findIdx? p with
        | none => rfl
        | some i => rw [hq] at h1; simp only at h1; omega
end
section
variable {k : Nat} {N : List Int} {F : List Bool} {n : Nat} {c : Nat → Int}
theorem live_acc {s t : Nat} (e : accA k N F s = accA k N F t) : LiveA k N F s ↔ LiveA k N F t := by unfold LiveA; rw [e]
/-- the class of a live state tells its language -/
theorem ClsA.lang (h : ClsA k N F n c) {s t : Nat} (hs : s < n) (ht : t < n) (lt : LiveA k N F t) : c s = c t ↔ accA k N F s = accA k N F t := by
  by_cases ls : LiveA k N F s
  · exact h.same s t hs ht ls lt
  · have h1 := h.dead s hs ls
    have h2 := h.live t ht lt
    exact ⟨fun e => by omega, fun e => absurd ((live_acc e).2 lt) ls⟩
theorem ClsA.neg (h : ClsA k N F n c) {s : Nat} (hs : s < n) : c s < 0 ↔ ¬ LiveA k N F s :=
  ⟨fun e l => by have := h.live s hs l; omega, fun l => by rw [h.dead s hs l]; omega⟩
end
/-- what holds of the states while the smallest automaton is built -/
structure SmaP (k : Nat) (N : List Int) (F : List Bool) (S : List Nat) (nx : List Int) (fin : List Bool) (i x : Nat) : Prop where
  small : ∀ s ∈ S, s < F.length
  can : CanAt k (accA k N F 0) (S.map (accA k N F)) nx fin i x
section
open Classical
variable {k : Nat} {N : List Int} {F : List Bool} {S : List Nat} {nx : List Int} {fin : List Bool} {i x : Nat}
theorem SmaP.few (h : SmaP k N F S nx fin i x) : S.length ≤ F.length := by
  have h1 := h.can.ok.nodup
  have h2 : S.Nodup := by
    unfold List.Nodup at *
    rw [List.pairwise_map] at h1
    exact h1.imp fun hab e => hab (by rw [e])
  have h3 := h2.length_le_of_subset (l₂ := List.range F.length) fun s hs => List.mem_range.2 (h.small s hs)
  rwa [List.length_range] at h3
theorem SmaP.getD (h : SmaP k N F S nx fin i x) (hi : i < S.length) : (S.map (accA k N F)).getD i (fun _ => False) = accA k N F (S.getD i 0) ∧ S.getD i 0 < F.length := by
  constructor
  · simp [List.getD_eq_getElem?_getD, hi]
  · rw [List.getD_eq_getElem?_getD, List.getElem?_eq_getElem hi]; exact h.small _ (List.getElem_mem hi)
theorem SmaP.start (h : 1 ≤ F.length) : SmaP k N F [0] [] [] 0 0 := ⟨fun s hs => by rw [List.mem_singleton.1 hs]; omega, CanAt.start _ _⟩
theorem SmaP.dead (h : SmaP k N F S nx fin i x) (hi : i < S.length) (hx : x < k) (hd : ¬ (0 ≤ nxI k N (S.getD i 0) x ∧ LiveA k N F (nxI k N (S.getD i 0) x).toNat)) : SmaP k N F S (nx ++ [-1]) fin i (x + 1) :=
  ⟨h.small, h.can.dead (by simpa using hi) hx (by rw [(h.getD hi).1]; exact (dead_iff hx).2 hd)⟩
theorem SmaP.go (h : SmaP k N F S nx fin i x) (hi : i < S.length) (hx : x < k) {y : Nat} (hy : nxI k N (S.getD i 0) x = (y : Int)) (hl : LiveA k N F y) (hyn : y < F.length) :
    (accA k N F y ∈ S.map (accA k N F) → SmaP k N F S (nx ++ [(((S.map (accA k N F)).idxOf (accA k N F y) : Nat) : Int)]) fin i (x + 1)) ∧
    (accA k N F y ∉ S.map (accA k N F) → SmaP k N F (S ++ [y]) (nx ++ [(S.length : Int)]) fin i (x + 1)) := by
  have e := (h.getD hi).1
  have hd : ¬ DeadL (dvL ((S.map (accA k N F)).getD i (fun _ => False)) x) := by
    rw [e, dead_iff hx, hy]
    exact fun hc => hc ⟨by omega, by simpa using hl⟩
  have he : dvL ((S.map (accA k N F)).getD i (fun _ => False)) x = accA k N F y := by
    rw [e, accA_dv hx (by omega), hy, Int.toNat_natCast]
  refine ⟨fun hm => ⟨h.small, ?_⟩, fun hm => ⟨fun s hs => ?_, ?_⟩⟩
  · have := h.can.old (by simpa using hi) hx hd (by rw [he]; exact hm)
    rwa [he] at this
  · rcases List.mem_append.1 hs with hs | hs
    · exact h.small s hs
    · rw [List.mem_singleton.1 hs]; exact hyn
  · have := h.can.new (by simpa using hi) hx hd (by rw [he]; exact hm)
    rw [he] at this
    rw [List.map_append]
    simpa using this
theorem SmaP.pick (h : SmaP k N F S nx fin i x) (hi : i < S.length) (hx : x < k) {y : Nat} (hy : nxI k N (S.getD i 0) x = (y : Int)) (hl : LiveA k N F y) (hyn : y < F.length) {p : Int → Bool} (hp : ∀ s ∈ S, p (s : Int) = true ↔ accA k N F s = accA k N F y) :
    (∃ j : Nat, idxZ p (S.map Int.ofNat) = (j : Int) ∧ SmaP k N F S (nx ++ [(j : Int)]) fin i (x + 1)) ∨ (idxZ p (S.map Int.ofNat) = -1 ∧ SmaP k N F (S ++ [y]) (nx ++ [(S.length : Int)]) fin i (x + 1)) := by
  have h1 := h.go hi hx hy hl hyn
  have h2 := idxZ_lang (f := accA k N F) (a := accA k N F y) hp
  by_cases hm : accA k N F y ∈ S.map (accA k N F)
  · exact .inl ⟨_, h2.1 hm, h1.1 hm⟩
  · exact .inr ⟨h2.2 hm, h1.2 hm⟩
theorem SmaP.row (h : SmaP k N F S nx fin i k) (hi : i < S.length) : SmaP k N F S nx (fin ++ [F.getD (S.getD i 0) false]) (i + 1) 0 := by
  refine ⟨h.small, ?_⟩
  have := h.can.row (by simpa using hi) (by omega)
  rw [(h.getD hi).1] at this
  have e : decide (accA k N F (S.getD i 0) []) = F.getD (S.getD i 0) false := by
    rw [accA]; cases F.getD (S.getD i 0) false <;> simp
  rwa [e] at this
end
end Go.Proofs.YtoddpmdjjgnpgaaGreatDoor
namespace Go.Proofs.YtoddpmdjjgnpgaaGreatDoor
open Go.RowKit Go.Maps Go.WideMaps
set_option linter.unusedVariables false
end Go.Proofs.YtoddpmdjjgnpgaaGreatDoor
namespace Go.Proofs.YtoddpmdjjgnpgaaGreatDoor
open Go.RowKit Go.Maps Go.WideMaps
set_option linter.unusedVariables false
end Go.Proofs.YtoddpmdjjgnpgaaGreatDoor
namespace Go.Proofs.YtoddpmdjjgnpgaaGreatDoor
open Go.RowKit
set_option linter.unusedVariables false
/-- what LongestReduced is -/
def LngIs (k : Int) (R : List RulD) (h : Int) : Prop := (¬ sysP k R ∧ h = -1) ∨ (sysP k R ∧ HtIs R k.toNat ⟨#[]⟩ h)
theorem LngIs.uniq {k : Int} {R : List RulD} {h h' : Int} (a : LngIs k R h) (b : LngIs k R h') : h = h' := by
  rcases a with ⟨a1, a2⟩ | ⟨a1, a2⟩ <;> rcases b with ⟨b1, b2⟩ | ⟨b1, b2⟩
  · rw [a2, b2]
  · exact absurd b1 a1
  · exact absurd a1 b1
  · exact a2.uniq b2
/-- the words of less than j letters -/
def pSum (R : List RulD) (k j : Nat) : Nat := ((List.range j).map fun m => paths R k m ⟨#[]⟩).sum
theorem pSum_succ (R : List RulD) (k j : Nat) : pSum R k (j + 1) = pSum R k j + paths R k j ⟨#[]⟩ := by
  unfold pSum; rw [List.range_succ, List.map_append, List.sum_append]; simp
theorem pSum_mono (R : List RulD) (k : Nat) {i j : Nat} (h : i ≤ j) : pSum R k i ≤ pSum R k j := by
  induction h with
  | refl => exact Nat.le_refl _
  | step _ ih => rw [pSum_succ]; omega
theorem pSum_at (R : List RulD) (k : Nat) {i j : Nat} (h : i < j) : paths R k i ⟨#[]⟩ ≤ pSum R k j := by
  have h1 := pSum_mono R k (show i + 1 ≤ j from h)
  rw [pSum_succ] at h1; omega
/-- what CountAll is -/
def CntIs (k : Int) (R : List RulD) (c : Int) : Prop := ∃ h, LngIs k R h ∧ ((h < 0 ∧ c = -1) ∨ (0 ≤ h ∧ c = ((pSum R k.toNat (h.toNat + 1) : Nat) : Int)))
theorem CntIs.uniq {k : Int} {R : List RulD} {c c' : Int} (a : CntIs k R c) (b : CntIs k R c') : c = c' := by
  obtain ⟨h, a1, a2⟩ := a
  obtain ⟨h', b1, b2⟩ := b
  obtain rfl := a1.uniq b1
  rcases a2 with ⟨a2, a3⟩ | ⟨a2, a3⟩ <;> rcases b2 with ⟨b2, b3⟩ | ⟨b2, b3⟩
  · rw [a3, b3]
  · omega
  · omega
  · rw [a3, b3]
end Go.Proofs.YtoddpmdjjgnpgaaGreatDoor
namespace Go.Proofs.YtoddpmdjjgnpgaaGreatDoor
open Go.RowKit
set_option linter.unusedVariables false
theorem Src.grown {w w' : World} {H m c : Nat} {own : Option Nat} {news : List Value} (h : Src w (.slice (some ⟨H, 0, none⟩) m c) m news) (hg : w.grownBy w' own) (hH : H < w.heap.size) (hne : own ≠ some H) : Src w' (.slice (some ⟨H, 0, none⟩) m c) m news := by
  rcases h with ⟨h, _⟩ | ⟨ad, c', hx, hc⟩
  · cases h
  · simp only [Value.slice.injEq, Option.some.injEq, true_and] at hx
    obtain ⟨rfl, rfl⟩ := hx
    refine .inr ⟨_, _, rfl, fun j u hu => ?_⟩
    rw [add_off]
    have h1 := hc j u hu
    rw [add_off] at h1
    rw [World.cell?_of_block (w := w) (hg.block H hH (fun e => hne e.symm))]
    exact h1
section
variable {P : Program}
end
end Go.Proofs.YtoddpmdjjgnpgaaGreatDoor
namespace Go.Proofs.YtoddpmdjjgnpgaaGreatDoor
open Go.RowKit
set_option linter.unusedVariables false
end Go.Proofs.YtoddpmdjjgnpgaaGreatDoor
namespace Go.Proofs.YtoddpmdjjgnpgaaGreatDoor
open Go.RowKit
set_option linter.unusedVariables false
theorem ApartW.add {V : WayD} (hap : ApartW V) (a c : Nat) : ApartW (addW V a c) := by
  unfold ApartW addW
  rw [List.pairwise_iff_getElem]
  intro i j hi hj hij
  have h1 := (List.pairwise_iff_getElem.1 hap) i j (by simpa using hi) (by simpa using hj) hij
  rw [List.getElem_modify, List.getElem_modify]
  split <;> split <;> exact h1
theorem ApartW.push {V : WayD} (hap : ApartW V) {v : ByteArray} {c : Nat} (hv : ∀ p ∈ V, p.1 ≠ v) : ApartW (V ++ [(v, c)]) := by
  unfold ApartW
  rw [List.pairwise_append]
  exact ⟨hap, List.pairwise_singleton _ _, fun p hp q hq => by rw [List.mem_singleton.1 hq]; exact hv p hp⟩
def EndsW (k : Nat) (V : WayD) : Prop := ∀ p ∈ V, EndP k p.1
theorem EndsW.add {k : Nat} {V : WayD} (h : EndsW k V) (a c : Nat) : EndsW k (addW V a c) := fun p hp => by
  unfold addW at hp
  obtain ⟨j, hj, he⟩ := List.getElem_of_mem hp
  rw [List.getElem_modify] at he
  have h1 := h _ (List.getElem_mem (show j < V.length by simpa using hj))
  split at he
  · rw [← he]; exact h1
  · rw [← he]; exact h1
theorem EndsW.push {k : Nat} {V : WayD} (h : EndsW k V) {v : ByteArray} {c : Nat} (hv : EndP k v) : EndsW k (V ++ [(v, c)]) := fun p hp => by
  rcases List.mem_append.1 hp with hp | hp
  · exact h p hp
  · rw [List.mem_singleton.1 hp]; exact hv
theorem apart_few {k : Nat} (hk : k ≤ 4) {V : WayD} (h : ApartW V) (he : EndsW k V) : V.length ≤ 21845 := by
  have h1 := ends_few hk (l := V.map (·.1)) (by
    unfold List.Nodup
    rw [List.pairwise_map]
    exact h) (fun e hm => by
    obtain ⟨p, hp, rfl⟩ := List.mem_map.1 hm
    exact he p hp)
  simpa using h1
/-- the ways of a length, the ends apart -/
structure WayAtA (R : List RulD) (k i : Nat) (W : WayD) : Prop where
  way : WayAt R k i W
  apart : ApartW W
  ends : EndsW k W
theorem WayAtA.start (R : List RulD) (k : Nat) : WayAtA R k 0 [(⟨#[]⟩, 1)] := ⟨WayAt.start R k, List.pairwise_singleton _ _, fun p hp => by rw [List.mem_singleton.1 hp]; exact EndP.nil k⟩
theorem WayAtA.few {R : List RulD} {k i : Nat} {W : WayD} (hk : k ≤ 4) (h : WayAtA R k i W) : W.length ≤ 21845 := apart_few hk h.apart h.ends
structure WayTA (R : List RulD) (k : Nat) (W : WayD) (i j : Nat) (e : ByteArray) (c : Nat) (V : WayD) : Prop where
  way : WayTo R k W i j e c V
  apart : ApartW V
  ends : EndsW k V
theorem WayTA.start (R : List RulD) (k : Nat) (W : WayD) (e : ByteArray) (c : Nat) : WayTA R k W 0 0 e c [] := ⟨WayTo.start R k W e c, List.Pairwise.nil, fun p hp => by cases hp⟩
theorem WayTA.few {R : List RulD} {k : Nat} {W V : WayD} {i j c : Nat} {e : ByteArray} (hk : k ≤ 4) (h : WayTA R k W i j e c V) : V.length ≤ 21845 := apart_few hk h.apart h.ends
theorem WayTA.no {R : List RulD} {k : Nat} {W V : WayD} {i j c : Nat} {e : ByteArray} (h : WayTA R k W i j e c V) (hx : okX R e j = false) : WayTA R k W i (j + 1) e c V := ⟨h.way.no hx, h.apart, h.ends⟩
theorem WayTA.old {R : List RulD} {k : Nat} {W V : WayD} {i j c a : Nat} {e : ByteArray} (h : WayTA R k W i j e c V) (hx : okX R e j = true) (ha : a < V.length) (he : V[a].1 = nxtX R e j) : WayTA R k W i (j + 1) e c (addW V a c) :=
  ⟨h.way.old hx ha he, h.apart.add _ _, h.ends.add _ _⟩
theorem WayTA.new {R : List RulD} {k : Nat} {W V : WayD} {i j c : Nat} {e : ByteArray} (h : WayTA R k W i j e c V) (hx : okX R e j = true) (hc : 1 ≤ c) (hn : ∀ p ∈ V, p.1 ≠ nxtX R e j) (hE : EndP k (nxtX R e j)) : WayTA R k W i (j + 1) e c (V ++ [(nxtX R e j, c)]) :=
  ⟨h.way.new hx hc, h.apart.push hn, h.ends.push hE⟩
theorem WayTA.row {R : List RulD} {k : Nat} {W V : WayD} {i : Nat} (hi : i < W.length) (h : WayTA R k W i k W[i].1 W[i].2 V) (e : ByteArray) (c : Nat) : WayTA R k W (i + 1) 0 e c V := ⟨h.way.row hi e c, h.apart, h.ends⟩
theorem WayTA.other {R : List RulD} {k : Nat} {W V : WayD} {i : Nat} {e e' : ByteArray} {c c' : Nat} (h : WayTA R k W i 0 e c V) : WayTA R k W i 0 e' c' V := ⟨h.way.other, h.apart, h.ends⟩
theorem WayTA.done {R : List RulD} {k n : Nat} {W V : WayD} {e : ByteArray} {c : Nat} (hW : WayAtA R k n W) (h : WayTA R k W W.length 0 e c V) : WayAtA R k (n + 1) V := ⟨h.way.done hW.way, h.apart, h.ends⟩
theorem WayTA.le {R : List RulD} {k n : Nat} {W V : WayD} {i j : Nat} (hW : WayAtA R k n W) (hi : i < W.length) (hj : j ≤ k) (h : WayTA R k W i j W[i].1 W[i].2 V) : wsum R k 0 V ≤ paths R k (n + 1) ⟨#[]⟩ := by
  rw [h.way.eq 0]
  have h1 := wsum_take_le R k (0 + 1) W (i + 1)
  rw [wsum_take _ _ _ _ hi, paths_succ] at h1
  have h2 := pTo_mono R k 0 W[i].1 hj
  have h3 : W[i].2 * pTo R k 0 W[i].1 j ≤ W[i].2 * pTo R k 0 W[i].1 k := Nat.mul_le_mul_left _ h2
  have h4 := hW.way.eq (0 + 1)
  have h6 : n + (0 + 1) = n + 1 := by omega
  rw [h6] at h4
  omega
end Go.Proofs.YtoddpmdjjgnpgaaGreatDoor
namespace Go.Proofs.YtoddpmdjjgnpgaaGreatDoor
open Go.RowKit
set_option linter.unusedVariables false
end Go.Proofs.YtoddpmdjjgnpgaaGreatDoor
namespace Go.Proofs.YtoddpmdjjgnpgaaGreatDoor
open Go.RowKit
set_option linter.unusedVariables false
end Go.Proofs.YtoddpmdjjgnpgaaGreatDoor
namespace Go.Proofs.YtoddpmdjjgnpgaaGreatDoor
open Go.RowKit
set_option linter.unusedVariables false
/-- all reduced words from w by m letters -/
def wordsF (R : List RulD) (k : Nat) : Nat → ByteArray → List ByteArray
  | 0, w => [w]
  | m + 1, w => (List.range k).flatMap fun x => if okX R w x = true then wordsF R k m (w ++ letterN x) else []
theorem len_flat (l : List Nat) (p : Nat → Bool) (f : Nat → List ByteArray) : (l.flatMap fun x => if p x = true then f x else []).length = (l.map fun x => if p x = true then (f x).length else 0).sum := by
  rw [List.length_flatMap]
  congr 1
  apply List.map_congr_left
  intro x _
  split <;> rfl
theorem wordsF_len {R : List RulD} (hne : LeftsP R) (k : Nat) : ∀ (m : Nat) (w : ByteArray), (wordsF R k m w).length = paths R k m w
  | 0, w => rfl
  | m + 1, w => by
    show ((List.range k).flatMap _).length = _
    rw [len_flat, paths_succ]
    unfold pTo
    congr 1
    apply List.map_congr_left
    intro x _
    rw [wordsF_len hne k m (w ++ letterN x), paths_nxt hne]
theorem wordsF_size (R : List RulD) (k : Nat) : ∀ (m : Nat) (w : ByteArray), ∀ u ∈ wordsF R k m w, u.size = w.size + m
  | 0, w, u, hu => by rw [List.mem_singleton.1 hu]; rfl
  | m + 1, w, u, hu => by
    obtain ⟨x, _, h2⟩ := List.mem_flatMap.1 hu
    split at h2
    · have h3 := wordsF_size R k m _ u h2
      rw [ByteArray.size_append, letterN_size] at h3
      omega
    · cases h2
/-- Go's order of strings -/
def ltB (a b : ByteArray) : Bool := Op.bytesLess a.data.toList b.data.toList
end Go.Proofs.YtoddpmdjjgnpgaaGreatDoor
namespace Go.Proofs.YtoddpmdjjgnpgaaGreatDoor
open Go.RowKit
set_option linter.unusedVariables false
/-- the words of less than i letters -/
def outTo (R : List RulD) (k i : Nat) : List ByteArray := (List.range i).flatMap fun m => wordsF R k m ⟨#[]⟩
theorem outTo_len {R : List RulD} (hne : LeftsP R) (k i : Nat) : (outTo R k i).length = pSum R k i := by
  unfold outTo pSum
  rw [List.length_flatMap]
  congr 1
  apply List.map_congr_left
  intro m _
  exact wordsF_len hne k m _
/-- what AllReduced hands back -/
def RetAll (k : Int) (R : List RulD) (w : World) (e : Ending) (w' : World) : Prop :=
  (¬ (∃ c, CntIs k R c ∧ 0 ≤ c ∧ c ≤ 256) ∧ e = .returned (.tuple #[.slice none 0 0, .bool false]) ∧ Below w.heap.size w w') ∨
  ∃ (kn h : Nat), k = (kn : Int) ∧ SysG R kn ∧ HtIs R kn ⟨#[]⟩ (h : Int) ∧ pSum R kn (h + 1) ≤ 256 ∧ (∃ c, CntIs k R c ∧ 0 ≤ c ∧ c ≤ 256) ∧ ∃ a cap, e = .returned (.tuple #[.slice a (outTo R kn (h + 1)).length cap, .bool true]) ∧
    w'.ownsRow w.heap.size 9 1 (.slice a (outTo R kn (h + 1)).length cap) (outTo R kn (h + 1)).length (strVals (outTo R kn (h + 1))) ∧ Below w.heap.size w w'
end Go.Proofs.YtoddpmdjjgnpgaaGreatDoor
namespace Go.Proofs.YtoddpmdjjgnpgaaGreatDoor
open Go.RowKit
set_option linter.unusedVariables false
/-- the first reduced word from w by m letters that is above the bound -/
def firstF (R : List RulD) (k : Nat) (bound : ByteArray) (m : Nat) (w : ByteArray) : Option ByteArray := (wordsF R k m w).find? fun u => ltB bound u
/-- none begins with w and one of the first x letters -/
def NoneTo (R : List RulD) (k : Nat) (bound : ByteArray) (m : Nat) (w : ByteArray) (x : Nat) : Prop := ∀ y, y < x → okX R w y = true → firstF R k bound m (w ++ letterN y) = none
theorem NoneTo.start (R : List RulD) (k : Nat) (bound : ByteArray) (m : Nat) (w : ByteArray) : NoneTo R k bound m w 0 := fun y hy => by omega
theorem NoneTo.no {R : List RulD} {k : Nat} {bound : ByteArray} {m : Nat} {w : ByteArray} {x : Nat} (h : NoneTo R k bound m w x) (hx : okX R w x = false) : NoneTo R k bound m w (x + 1) := fun y hy ho => by
  by_cases e : y = x
  · subst e; rw [hx] at ho; cases ho
  · exact h y (by omega) ho
theorem NoneTo.skip {R : List RulD} {k : Nat} {bound : ByteArray} {m : Nat} {w : ByteArray} {x : Nat} (h : NoneTo R k bound m w x) (hx : firstF R k bound m (w ++ letterN x) = none) : NoneTo R k bound m w (x + 1) := fun y hy ho => by
  by_cases e : y = x
  · subst e; exact hx
  · exact h y (by omega) ho
theorem find_flat {α β : Type} (p : β → Bool) (g : α → List β) : ∀ l : List α, (∀ a ∈ l, (g a).find? p = none) → (l.flatMap g).find? p = none := fun l h => by
  rw [List.find?_eq_none]
  intro b hb
  obtain ⟨a, ha, hb⟩ := List.mem_flatMap.1 hb
  exact List.find?_eq_none.1 (h a ha) b hb
theorem NoneTo.done {R : List RulD} {k : Nat} {bound : ByteArray} {m : Nat} {w : ByteArray} (h : NoneTo R k bound m w k) : firstF R k bound (m + 1) w = none := by
  unfold firstF
  refine find_flat _ _ _ fun x hx => ?_
  split
  · rename_i ho
    exact h x (List.mem_range.1 hx) ho
  · rfl
theorem NoneTo.found {R : List RulD} {k : Nat} {bound : ByteArray} {m : Nat} {w u : ByteArray} {x : Nat} (h : NoneTo R k bound m w x) (hx : x < k) (ho : okX R w x = true) (hu : firstF R k bound m (w ++ letterN x) = some u) : firstF R k bound (m + 1) w = some u := by
  have e : List.range k = List.range x ++ x :: (List.range k).drop (x + 1) := by
    conv => lhs; rw [← List.take_append_drop x (List.range k)]
    rw [List.drop_eq_getElem_cons (by simpa using hx)]
    congr 1
    · rw [List.take_range]; congr 1; omega
    · simp
  unfold firstF
  show ((List.range k).flatMap _).find? _ = _
  rw [e, List.flatMap_append, List.find?_append, find_flat _ _ _ (fun y hy => by
    split
    · rename_i hy2
      exact h y (List.mem_range.1 hy) hy2
    · rfl), Option.none_or, List.flatMap_cons, List.find?_append]
  rw [if_pos ho]
  unfold firstF at hu
  rw [hu]
  rfl
end Go.Proofs.YtoddpmdjjgnpgaaGreatDoor
namespace Go.Proofs.YtoddpmdjjgnpgaaGreatDoor
open Go.RowKit
set_option linter.unusedVariables false
theorem dec_ne (n : Nat) : Lib.decDigits n ≠ [] := by
  by_cases h : n < 10
  · rw [decDigits_small h]; simp
  · rw [decDigits_big (by omega)]; simp
theorem dig_inj {a b : Nat} (ha : a < 10) (hb : b < 10) (h : UInt8.ofNat (48 + a) = UInt8.ofNat (48 + b)) : a = b := by
  have h1 := congrArg UInt8.toNat h
  simp at h1
  omega
theorem dec_inj : ∀ (n m : Nat), Lib.decDigits n = Lib.decDigits m → n = m := by
  intro n
  induction n using Nat.strongRecOn with
  | ind n ih =>
    intro m h
    by_cases h1 : n < 10
    · by_cases h2 : m < 10
      · rw [decDigits_small h1, decDigits_small h2] at h
        exact dig_inj h1 h2 (by simpa using h)
      · rw [decDigits_small h1, decDigits_big (k := m) (by omega)] at h
        have h3 := congrArg List.length h
        have h4 : 0 < (Lib.decDigits (m / 10)).length := List.length_pos_iff.2 (dec_ne _)
        simp only [List.length_append, List.length_cons, List.length_nil] at h3
        omega
    · by_cases h2 : m < 10
      · rw [decDigits_small h2, decDigits_big (k := n) (by omega)] at h
        have h3 := congrArg List.length h
        have h4 : 0 < (Lib.decDigits (n / 10)).length := List.length_pos_iff.2 (dec_ne _)
        simp only [List.length_append, List.length_cons, List.length_nil] at h3
        omega
      · rw [decDigits_big (k := n) (by omega), decDigits_big (k := m) (by omega)] at h
        obtain ⟨h3, h4⟩ := List.append_inj' h rfl
        have h5 := ih (n / 10) (by omega) (m / 10) h3
        have h6 := dig_inj (Nat.mod_lt n (by omega)) (Nat.mod_lt m (by omega)) (by simpa using h4)
        omega
theorem numB_inj {n m : Nat} (h : numB (n : Int) = numB (m : Int)) : n = m := by
  apply dec_inj
  have h1 := congrArg (fun z : ByteArray => z.data.toList) h
  simp only [numB] at h1
  rw [itoa_nat, itoa_nat] at h1
  simpa using h1
end Go.Proofs.YtoddpmdjjgnpgaaGreatDoor
namespace Go.Proofs.YtoddpmdjjgnpgaaGreatDoor
open Go.RowKit Go.Maps
set_option linter.unusedVariables false
theorem keyed2 : Keyed Tryz.prog 252 := Keyed.of_law (deep_law_laid (m := 5) (by kernel_rfl) (by omega) (of_decide_eq_true (by kernel_rfl)) (by kernel_rfl) (by kernel_rfl))
/-- the key of two strings -/
def kl2 (a b : ByteArray) : Lit := .string (keyBytes [.string a.data.toList, .string b.data.toList])
theorem keyOf2 (a b : ByteArray) (ha : a.size ≤ maxLen) (hb : b.size ≤ maxLen) : keyOf Tryz.prog 252 (.agg #[.string a, .string b]) = some (kl2 a b) := by
  have h1 : Tryz.prog.cellsOf 252 = 2 := by kernel_rfl
  have h2 : Tryz.prog.cellsOf 9 = 1 := by kernel_rfl
  have h3 : 0 < Tryz.prog.types.size := of_decide_eq_true (by kernel_rfl)
  have h4 : Tryz.prog.keyType 252 = true := by kernel_rfl
  have h5 : (Value.agg #[.string a, .string b]).formed Tryz.prog 252 = true := by
    simp [Value.formed, Tryz.underlying252, h1]
  obtain ⟨d, hd⟩ : ∃ d, Tryz.prog.types.size = d + 1 := ⟨Tryz.prog.types.size - 1, by omega⟩
  unfold keyOf
  simp only [Tryz.underlying252]
  have hk : ∀ d, Tryz.prog.keyLits (d + 1 + 1) 252 [.string a, .string b] = some [.string a.data.toList, .string b.data.toList] := fun d => by
    simp [Program.keyLits, Tryz.underlying252, Tryz.underlying9, h1, h2, ha, hb, List.range_succ]
  rw [h4, h5, hd]
  simp only [Bool.and_self, if_true]
  rw [show (Value.agg #[Value.string a, .string b]).cells.toList = [.string a, .string b] by simp [Value.cells], hk]
  rfl
theorem kl2_inj {a b a' b' : ByteArray} (h1 : a.size ≤ maxLen) (h2 : b.size ≤ maxLen) (h3 : a'.size ≤ maxLen) (h4 : b'.size ≤ maxLen) (h : kl2 a b = kl2 a' b') : a = a' ∧ b = b' := by
  have e := keyed2.inj (keyOf2 a b h1 h2) (by rw [h]; exact keyOf2 a' b' h3 h4)
  simpa using e
end Go.Proofs.YtoddpmdjjgnpgaaGreatDoor
namespace Go.Proofs.YtoddpmdjjgnpgaaGreatDoor
open Go.RowKit Go.Maps
set_option linter.unusedVariables false
/-- the map of dead ends -/
abbrev OwnD (w : World) (b m : Nat) (D : DataW Unit) : Prop := w.ownsMap Tryz.prog 252 (plainElem (H := Unit) Tryz.prog 4) b m D
end Go.Proofs.YtoddpmdjjgnpgaaGreatDoor
namespace Go.Proofs.YtoddpmdjjgnpgaaGreatDoor
open Go.RowKit Go.Maps Go.WideShapes
set_option linter.unusedVariables false
/-- no reduced word goes on from there -/
def DEnt (R : List RulD) (k : Nat) (p : Lit × DataW Unit) : Prop := ∃ (e : ByteArray) (m : Nat), EndP k e ∧ m ≤ 300 ∧ p = (kl2 e (numB (m : Int)), .lit (.bool true)) ∧ paths R k m e = 0
def DMap (R : List RulD) (k : Nat) (D : DataW Unit) : Prop := ∃ es, D = .map es ∧ es.Pairwise (fun p q => p.1 ≠ q.1) ∧ ∀ p ∈ es, DEnt R k p
theorem DMap.start (R : List RulD) (k : Nat) : DMap R k (.map []) := ⟨[], rfl, List.Pairwise.nil, fun p hp => by cases hp⟩
theorem DMap.put {R : List RulD} {k : Nat} {D : DataW Unit} (h : DMap R k D) {e : ByteArray} {m : Nat} (he : EndP k e) (hm : m ≤ 300) (hp : paths R k m e = 0) : DMap R k (D.put (kl2 e (numB (m : Int))) (.lit (.bool true))) := by
  obtain ⟨es, rfl, h0, h1⟩ := h
  refine ⟨_, rfl, ?_, fun p hpm => ?_⟩
  · refine (insert_perm _ _).symm.pairwise ?_ (fun hab e => hab e.symm)
    rw [List.pairwise_cons]
    refine ⟨fun q hq e1 => ?_, h0.filter _⟩
    have h2 := (List.mem_filter.1 hq).2
    have h3 : q.1 = kl2 e (numB (m : Int)) := e1.symm
    rw [h3] at h2
    have h4 : (kl2 e (numB (m : Int))).sameKey (kl2 e (numB (m : Int))) = true := by unfold kl2 Lit.sameKey; simp
    rw [h4] at h2
    cases h2
  · rcases List.mem_cons.1 ((insert_perm _ _).mem_iff.1 hpm) with rfl | h2
    · exact ⟨e, m, he, hm, rfl, hp⟩
    · exact h1 p (List.mem_filter.1 h2).1
theorem numB_size {m : Nat} (h : m ≤ 30000) : (numB (m : Int)).size ≤ maxLen := by
  have h1 := decDigits_len (n := m) (by omega)
  have h2 : (numB (m : Int)).size = (Lib.decDigits m).length := by
    show (Lib.itoa (m : Int)).toArray.size = _
    rw [itoa_nat]; simp
  rw [h2]; unfold maxLen; omega
theorem DMap.look {R : List RulD} {k : Nat} {D : DataW Unit} (h : DMap R k D) {e : ByteArray} {m : Nat} (he : EndP k e) (hm : m ≤ 300) : (paths R k m e = 0 ∧ ∀ zd, D.atKey (kl2 e (numB (m : Int))) zd = .lit (.bool true)) ∨ ∀ zd, D.atKey (kl2 e (numB (m : Int))) zd = zd := by
  obtain ⟨es, rfl, _, h1⟩ := h
  cases hf : es.find? (fun p => p.1.sameKey (kl2 e (numB (m : Int)))) with
  | none =>
    right
    intro zd
    unfold DataW.atKey
    simp only []
    rw [hf]
  | some p =>
    left
    have h2 := List.find?_some hf
    obtain ⟨e', m', he', hm', rfl, hp⟩ := h1 p (List.mem_of_find?_eq_some hf)
    have h3 := WideAt.sameKey_eq h2
    have h4 := kl2_inj (by have := he'.1; unfold maxLen; omega) (numB_size (by omega)) (by have := he.1; unfold maxLen; omega) (numB_size (by omega)) h3
    obtain ⟨rfl, h5⟩ := h4
    have h6 := numB_inj h5
    subst h6
    refine ⟨hp, fun zd => ?_⟩
    unfold DataW.atKey
    simp only []
    rw [hf]
theorem sum_constW (l : List Wd) (c : Nat) : (l.map fun _ => c).sum = l.length * c := by
  induction l with
  | nil => simp
  | cons a l ih => simp only [List.map_cons, List.sum_cons, ih, List.length_cons, Nat.add_mul]; omega
open Classical in
theorem DMap.few {R : List RulD} {k : Nat} (hk : k ≤ 4) {D : DataW Unit} (h : DMap R k D) : Maps.size D ≤ 6575345 := by
  obtain ⟨es, rfl, h0, h1⟩ := h
  let T := (allUp k 7).flatMap fun v => (List.range 301).map fun m => (v, m)
  have hT : T.length = (allUp k 7).length * 301 := by
    show ((allUp k 7).flatMap _).length = _
    rw [List.length_flatMap]
    simp only [List.length_map, List.length_range]
    exact sum_constW _ _
  let g : Lit × DataW Unit → Wd × Nat := fun p => if h : DEnt R k p then ((Classical.choose h).data.toList, Classical.choose (Classical.choose_spec h)) else ([], 0)
  have hg : ∀ p ∈ es, ∃ (e : ByteArray) (m : Nat), EndP k e ∧ m ≤ 300 ∧ p.1 = kl2 e (numB (m : Int)) ∧ g p = (e.data.toList, m) := fun p hp => by
    have h2 := h1 p hp
    obtain ⟨h3, h4, h5, _⟩ := Classical.choose_spec (Classical.choose_spec h2)
    exact ⟨Classical.choose h2, Classical.choose (Classical.choose_spec h2), h3, h4, congrArg Prod.fst h5, by simp only [g, dif_pos h2]⟩
  have h2 := nodup_len (l := es.map g) (m := T) (by
    unfold List.Nodup
    rw [List.pairwise_map]
    refine h0.imp_of_mem fun {a b} ha hb hab e => hab ?_
    obtain ⟨e1, m1, _, _, a3, a4⟩ := hg a ha
    obtain ⟨e2, m2, _, _, b3, b4⟩ := hg b hb
    rw [a4, b4] at e
    simp only [Prod.mk.injEq] at e
    rw [a3, b3, ba_ext0 e.1, e.2]) (fun x hx => by
    obtain ⟨p, hp, rfl⟩ := List.mem_map.1 hx
    obtain ⟨e, m, c1, c2, _, c4⟩ := hg p hp
    rw [c4]
    exact List.mem_flatMap.2 ⟨e.data.toList, allUp_has c1.1 c1.2, List.mem_map.2 ⟨m, List.mem_range.2 (by omega), rfl⟩⟩)
  have h3 := allUp_len hk 7
  have h4 : (4 : Nat) ^ (7 + 1) = 65536 := by decide
  rw [List.length_map, hT] at h2
  rw [Maps.size_eq]
  omega
end Go.Proofs.YtoddpmdjjgnpgaaGreatDoor
namespace Go.Proofs.YtoddpmdjjgnpgaaGreatDoor
open Go.RowKit Go.Maps
set_option linter.unusedVariables false
theorem ownD_tight {w : World} {b m : Nat} {D : DataW Unit} (h : OwnD w b m D) : OwnD w b (Maps.size D) D := by
  obtain ⟨es, clock, h1, h2, h3, rfl⟩ := h
  exact ⟨es, clock, h1, h2, by rw [Maps.size_eq, length_sorted, List.length_map, Array.length_toList]; exact Nat.le_refl _, rfl⟩
theorem Tab10.grown {w w' : World} {b : Nat} (h : Tab10 w) (hg : w.grownBy w' (some b)) (hne : 5 ≠ b) : Tab10 w' := by
  have hg2 : Tryz.prog.globalNamed "internal/strconv.uint64pow10" = some 5 := by kernel_rfl
  unfold Tab10 Lib.TabIs World.var? at h ⊢
  rw [hg2] at h ⊢
  simp only [Option.bind_some] at h ⊢
  have hlt : 5 < w.heap.size := by
    rcases Nat.lt_or_ge 5 w.heap.size with h' | h'
    · exact h'
    · rw [Array.getElem?_eq_none h'] at h; simp at h
  rw [hg.block _ hlt (by simpa using hne)]
  exact h
/-- the memory that firstAbove reads -/
structure EnvF (W : World) (b p : Nat) (k : Int) (a : Option Addr) (cap : Nat) (R : List RulD) : Prop where
  rd : RdAt W p k a R.length cap (keepR R)
  mp : W.cell? ⟨p, 3, none⟩ = some (.map (some b))
  rules : RulesIn W a R
  tab : Tab10 W
  ne : (p ≠ b ∧ 5 ≠ b) ∧ (R = [] ∨ ∀ x, a = some x → x.block ≠ b)
theorem EnvF.grown {W W' : World} {b p : Nat} {k : Int} {a : Option Addr} {cap : Nat} {R : List RulD} (h : EnvF W b p k a cap R) (hg : W.grownBy W' (some b)) : EnvF W' b p k a cap R := by
  obtain ⟨⟨n1, n2⟩, n5⟩ := h.ne
  obtain ⟨r1, r2, r3⟩ := h.rd
  refine ⟨⟨hg.cell r1 (by simpa using n1), hg.cell r2 (by simpa using n1), hg.cell r3 (by simpa using n1)⟩, hg.cell h.mp (by simpa using n1), ?_, h.tab.grown hg n2, h.ne⟩
  rcases n5 with rfl | n5
  · exact .inl rfl
  · exact CellsIn.grownC h.rules hg (fun x hx e => n5 x hx (Option.some.inj e))
/-- the map of dead ends -/
def DeadAt (R : List RulD) (k b : Nat) (W : World) : Prop := ∃ m D, OwnD W b m D ∧ DMap R k D
theorem DeadAt.kept {R : List RulD} {k b : Nat} {W W' : World} (h : DeadAt R k b W) (hg : W.grownBy W' none) : DeadAt R k b W' := by
  obtain ⟨m, D, h1, h2⟩ := h
  exact ⟨m, D, h1.kept hg (by simp), h2⟩
/-- a dead end more -/
theorem DeadAt.store {R : List RulD} {k b : Nat} {W : World} (h : DeadAt R k b W) {e : ByteArray} {d : Nat} (he : EndP k e) (hd : d ≤ 300) (hp : paths R k d e = 0) (hk : k ≤ 4) (hkey : keyOf Tryz.prog 252 (.agg #[.string e, .string (numB (d : Int))]) = some (kl2 e (numB (d : Int)))) :
    ∃ w', (Instr.mapUpdate 141 (.map (some b)) (.agg #[.string e, .string (numB (d : Int))]) (.bool true)).run Tryz.prog W.drew = .ok () w' ∧ DeadAt R k b w' ∧ W.grownBy w' (some b) := by
  obtain ⟨m, D, h1, h2⟩ := h
  have hs : Maps.size D < maxLen := by have := h2.few hk; unfold maxLen; omega
  have h3 : OwnD W.drew b (Maps.size D) D := ownD_tight h1
  obtain ⟨w', r1, r2, r3⟩ := World.ownsMap.update h3 keyed2 Tryz.underlying141 hs hkey (plainElem_bool (H := Unit) Tryz.underlying4 true)
  exact ⟨w', r1, ⟨_, _, r2, h2.put he hd hp⟩, ⟨r3.os, r3.tape, r3.output, r3.size, r3.block⟩⟩
/-- the box of a key -/
def BoxK (W0 : World) (q : Nat) (x y : ByteArray) (W : World) : Prop := W0.heap.size ≤ q ∧ W.heap[q]? = some (.cells #[.string x, .string y] 252 (0, 0))
/-- the letters of a word -/
def LetW (k : Nat) (e : ByteArray) : Prop := ∀ y ∈ e.data.toList, ∃ x, x < k ∧ y = lt97 x
theorem LetW.on {k : Nat} {e : ByteArray} (h : LetW k e) {x : Nat} (hx : x < k) : LetW k (e ++ letterN x) := fun y hy => by
  rw [app_lt] at hy
  rcases List.mem_append.1 hy with h1 | h1
  · exact h y h1
  · exact ⟨x, hx, by simpa using h1⟩
theorem LetW.cut {R : List RulD} {k : Nat} (G : SysG R k) {e : ByteArray} (h : LetW k e) : EndP k (cutR R e) :=
  ⟨Nat.le_trans (cutR_size _ _) (keep7 G), fun y hy => h y ((cut_suf R e).subset hy)⟩
/-- the key of w0 lies there still -/
theorem BoxK.kept {W0 W W' : World} {q b : Nat} {x y : ByteArray} (h : BoxK W0 q x y W) (hb : b < W0.heap.size) (hg : W.grownBy W' (some b)) : BoxK W0 q x y W' :=
  ⟨h.1, by rw [hg.block q (Array.getElem?_eq_some_iff.1 h.2).1 (fun e => by have := h.1; have := Option.some.inj e; omega)]; exact h.2⟩
end Go.Proofs.YtoddpmdjjgnpgaaGreatDoor
namespace Go.Proofs.YtoddpmdjjgnpgaaGreatDoor
open Go.RowKit Go.Maps
set_option linter.unusedVariables false
theorem EnvF.lt {W : World} {b p : Nat} {k : Int} {a : Option Addr} {cap : Nat} {R : List RulD} (h : EnvF W b p k a cap R) : p < W.heap.size := World.block_lt_of_cell? W ⟨p, 0, none⟩ h.rd.1
theorem DeadAt.lt {R : List RulD} {k b : Nat} {W : World} (h : DeadAt R k b W) : b < W.heap.size := by obtain ⟨_, _, h1, _⟩ := h; exact h1.lt
end Go.Proofs.YtoddpmdjjgnpgaaGreatDoor
