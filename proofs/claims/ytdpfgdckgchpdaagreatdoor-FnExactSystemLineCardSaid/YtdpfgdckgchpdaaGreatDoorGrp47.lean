/-
  Ways whose ends are different ones: they are not many.
-/
import Derived.Test.YtdpfgdckgchpdaaGreatDoorGrp35
import Derived.Test.YtdpfgdckgchpdaaGreatDoorGrp38
namespace Go.Proofs.YtdpfgdckgchpdaaGreatDoor
open Go.RowKit
set_option linter.unusedVariables false
theorem ApartW.add {V : WayD} (hap : ApartW V) (a c : Nat) : ApartW (addW V a c) := by
  unfold ApartW addW
  rw [List.pairwise_iff_getElem]
  intro i j hi hj hij
  have h1 := (List.pairwise_iff_getElem.1 hap) i j (by simpa using hi) (by simpa using hj) hij
  rw [List.getElem_modify, List.getElem_modify]
  split <;> split <;> exact h1
theorem ApartW.push {V : WayD} (hap : ApartW V) {v : ByteArray} {c : Nat} (hv : ∀ p ∈ V, p.1 ≠ v) : ApartW (V ++ [(v, c)]) := by
  unfold ApartW
  rw [List.pairwise_append]
  exact ⟨hap, List.pairwise_singleton _ _, fun p hp q hq => by rw [List.mem_singleton.1 hq]; exact hv p hp⟩
def EndsW (k : Nat) (V : WayD) : Prop := ∀ p ∈ V, EndP k p.1
theorem EndsW.add {k : Nat} {V : WayD} (h : EndsW k V) (a c : Nat) : EndsW k (addW V a c) := fun p hp => by
  unfold addW at hp
  obtain ⟨j, hj, he⟩ := List.getElem_of_mem hp
  rw [List.getElem_modify] at he
  have h1 := h _ (List.getElem_mem (show j < V.length by simpa using hj))
  split at he
  · rw [← he]; exact h1
  · rw [← he]; exact h1
theorem EndsW.push {k : Nat} {V : WayD} (h : EndsW k V) {v : ByteArray} {c : Nat} (hv : EndP k v) : EndsW k (V ++ [(v, c)]) := fun p hp => by
  rcases List.mem_append.1 hp with hp | hp
  · exact h p hp
  · rw [List.mem_singleton.1 hp]; exact hv
theorem apart_few {k : Nat} (hk : k ≤ 4) {V : WayD} (h : ApartW V) (he : EndsW k V) : V.length ≤ 21845 := by
  have h1 := ends_few hk (l := V.map (·.1)) (by
    unfold List.Nodup
    rw [List.pairwise_map]
    exact h) (fun e hm => by
    obtain ⟨p, hp, rfl⟩ := List.mem_map.1 hm
    exact he p hp)
  simpa using h1
/-- the ways of a length, the ends apart -/
structure WayAtA (R : List RulD) (k i : Nat) (W : WayD) : Prop where
  way : WayAt R k i W
  apart : ApartW W
  ends : EndsW k W
theorem WayAtA.start (R : List RulD) (k : Nat) : WayAtA R k 0 [(⟨#[]⟩, 1)] := ⟨WayAt.start R k, List.pairwise_singleton _ _, fun p hp => by rw [List.mem_singleton.1 hp]; exact EndP.nil k⟩
theorem WayAtA.few {R : List RulD} {k i : Nat} {W : WayD} (hk : k ≤ 4) (h : WayAtA R k i W) : W.length ≤ 21845 := apart_few hk h.apart h.ends
structure WayTA (R : List RulD) (k : Nat) (W : WayD) (i j : Nat) (e : ByteArray) (c : Nat) (V : WayD) : Prop where
  way : WayTo R k W i j e c V
  apart : ApartW V
  ends : EndsW k V
theorem WayTA.start (R : List RulD) (k : Nat) (W : WayD) (e : ByteArray) (c : Nat) : WayTA R k W 0 0 e c [] := ⟨WayTo.start R k W e c, List.Pairwise.nil, fun p hp => by cases hp⟩
theorem WayTA.few {R : List RulD} {k : Nat} {W V : WayD} {i j c : Nat} {e : ByteArray} (hk : k ≤ 4) (h : WayTA R k W i j e c V) : V.length ≤ 21845 := apart_few hk h.apart h.ends
theorem WayTA.no {R : List RulD} {k : Nat} {W V : WayD} {i j c : Nat} {e : ByteArray} (h : WayTA R k W i j e c V) (hx : okX R e j = false) : WayTA R k W i (j + 1) e c V := ⟨h.way.no hx, h.apart, h.ends⟩
theorem WayTA.old {R : List RulD} {k : Nat} {W V : WayD} {i j c a : Nat} {e : ByteArray} (h : WayTA R k W i j e c V) (hx : okX R e j = true) (ha : a < V.length) (he : V[a].1 = nxtX R e j) : WayTA R k W i (j + 1) e c (addW V a c) :=
  ⟨h.way.old hx ha he, h.apart.add _ _, h.ends.add _ _⟩
theorem WayTA.new {R : List RulD} {k : Nat} {W V : WayD} {i j c : Nat} {e : ByteArray} (h : WayTA R k W i j e c V) (hx : okX R e j = true) (hc : 1 ≤ c) (hn : ∀ p ∈ V, p.1 ≠ nxtX R e j) (hE : EndP k (nxtX R e j)) : WayTA R k W i (j + 1) e c (V ++ [(nxtX R e j, c)]) :=
  ⟨h.way.new hx hc, h.apart.push hn, h.ends.push hE⟩
theorem WayTA.row {R : List RulD} {k : Nat} {W V : WayD} {i : Nat} (hi : i < W.length) (h : WayTA R k W i k W[i].1 W[i].2 V) (e : ByteArray) (c : Nat) : WayTA R k W (i + 1) 0 e c V := ⟨h.way.row hi e c, h.apart, h.ends⟩
theorem WayTA.other {R : List RulD} {k : Nat} {W V : WayD} {i : Nat} {e e' : ByteArray} {c c' : Nat} (h : WayTA R k W i 0 e c V) : WayTA R k W i 0 e' c' V := ⟨h.way.other, h.apart, h.ends⟩
theorem WayTA.done {R : List RulD} {k n : Nat} {W V : WayD} {e : ByteArray} {c : Nat} (hW : WayAtA R k n W) (h : WayTA R k W W.length 0 e c V) : WayAtA R k (n + 1) V := ⟨h.way.done hW.way, h.apart, h.ends⟩
theorem WayTA.le {R : List RulD} {k n : Nat} {W V : WayD} {i j : Nat} (hW : WayAtA R k n W) (hi : i < W.length) (hj : j ≤ k) (h : WayTA R k W i j W[i].1 W[i].2 V) : wsum R k 0 V ≤ paths R k (n + 1) ⟨#[]⟩ := by
  rw [h.way.eq 0]
  have h1 := wsum_take_le R k (0 + 1) W (i + 1)
  rw [wsum_take _ _ _ _ hi, paths_succ] at h1
  have h2 := pTo_mono R k 0 W[i].1 hj
  have h3 : W[i].2 * pTo R k 0 W[i].1 j ≤ W[i].2 * pTo R k 0 W[i].1 k := Nat.mul_le_mul_left _ h2
  have h4 := hW.way.eq (0 + 1)
  have h6 : n + (0 + 1) = n + 1 := by omega
  rw [h6] at h4
  omega
end Go.Proofs.YtdpfgdckgchpdaaGreatDoor
