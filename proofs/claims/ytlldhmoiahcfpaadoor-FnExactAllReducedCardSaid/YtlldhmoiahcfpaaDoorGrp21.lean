/-
  A slice of strings and one of integers that are being built side by side.
-/
import Derived.Test.YtlldhmoiahcfpaaDoorGrp08
import Derived.Test.YtlldhmoiahcfpaaDoorGrp04
namespace Go.Proofs.YtlldhmoiahcfpaaDoor
open Go.RowKit
set_option linter.unusedVariables false
def TwoB (w wr : World) (v : Value) (xs : List Value) (u : Value) (ys : List Value) : Prop :=
  Bld 9 1 w wr v xs.length xs ∧ Bld 3 1 w wr u ys.length ys ∧ ∀ k, v.ownBlock = some k → u.ownBlock ≠ some k
theorem TwoB.later {w wr wr' : World} {v u : Value} {xs ys : List Value} (h : TwoB w wr v xs u ys) (hb : Below wr.heap.size wr wr') : TwoB w wr' v xs u ys := ⟨h.1.later hb, h.2.1.later hb, h.2.2⟩
theorem keptB {T : TypeId} {w wr wr' : World} {v : Value} {n : Nat} {xs : List Value} {own : Option Nat} (h : Bld T 1 w wr v n xs) (hg : wr.grownBy wr' own) (hne : ∀ k, v.ownBlock = some k → own ≠ some k) (ho : ∀ k, own = some k → w.heap.size ≤ k) : Bld T 1 w wr' v n xs := by
  refine ⟨h.1.kept hg ?_, h.2.grown hg h.2.size ho⟩
  cases hv : v.ownBlock with
  | none => exact .inl rfl
  | some k => exact .inr fun e => hne k hv (e.symm ▸ rfl)
theorem TwoB.putV {w wr w' : World} {v v' u : Value} {xs ys : List Value} {y : Value} {T : TypeId} (h : TwoB w wr v xs u ys) (hb : Bld 9 1 w w' v' (xs.length + 1) (xs ++ [y])) (hg : (wr.alloc (.cells #[y] T)).grownBy w' v.ownBlock)
    (ho : v'.ownBlock = v.ownBlock ∨ v'.ownBlock = some (wr.alloc (.cells #[y] T)).heap.size) : TwoB w w' v' (xs ++ [y]) u ys := by
  have hal : Below wr.heap.size wr (wr.alloc (.cells #[y] T)) := (Below.refl _ _).alloc (Nat.le_refl _) _
  refine ⟨?_, keptB (h.2.1.later hal) hg (fun k hk e => h.2.2 k e hk) (fun k hk => (h.1.1.lt k hk).1), fun k hk e => ?_⟩
  · rw [List.length_append]; exact hb
  · rcases ho with h1 | h1
    · exact h.2.2 k (h1 ▸ hk) e
    · rw [h1] at hk
      have h2 := Option.some.inj hk
      have h3 := (h.2.1.1.lt k e).2
      simp at h2; omega
theorem TwoB.putU {w wr w' : World} {v u u' : Value} {xs ys : List Value} {y : Value} {T : TypeId} (h : TwoB w wr v xs u ys) (hb : Bld 3 1 w w' u' (ys.length + 1) (ys ++ [y])) (hg : (wr.alloc (.cells #[y] T)).grownBy w' u.ownBlock)
    (ho : u'.ownBlock = u.ownBlock ∨ u'.ownBlock = some (wr.alloc (.cells #[y] T)).heap.size) : TwoB w w' v xs u' (ys ++ [y]) := by
  have hal : Below wr.heap.size wr (wr.alloc (.cells #[y] T)) := (Below.refl _ _).alloc (Nat.le_refl _) _
  refine ⟨keptB (h.1.later hal) hg (fun k hk e => h.2.2 k hk e) (fun k hk => (h.2.1.1.lt k hk).1), ?_, fun k hk e => ?_⟩
  · rw [List.length_append]; exact hb
  · rcases ho with h1 | h1
    · exact h.2.2 k hk (h1 ▸ e)
    · rw [h1] at e
      have h2 := Option.some.inj e
      have h3 := (h.1.1.lt k hk).2
      simp at h2; omega
theorem setGrownB (w : World) (B o : Nat) (v : Value) : w.grownBy (w.setCell ⟨B, o, none⟩ v) (some B) := by
  have hszc : (w.setCell ⟨B, o, none⟩ v).heap.size = w.heap.size := by simp
  exact ⟨rfl, rfl, rfl, by rw [hszc]; exact Nat.le_refl _, fun k hk hne => by
    unfold World.setCell
    rw [Array.getElem?_modify, if_neg (fun e : B = k => hne (by rw [e]))]⟩
theorem TwoB.setU {w wr : World} {v : Value} {xs ys : List Value} {g cap : Nat} (h : TwoB w wr v xs (.slice (some ⟨g, 0, none⟩) ys.length cap) ys) {a : Nat} (ha : a < ys.length) (y : Value) : TwoB w (wr.setCell ⟨g, a, none⟩ y) v xs (.slice (some ⟨g, 0, none⟩) ys.length cap) (ys.set a y) := by
  refine ⟨keptB h.1 (setGrownB wr g a y) (fun k hk e => h.2.2 k hk (by simp only [Value.ownBlock]; exact e)) (fun k hk => ?_), ?_, h.2.2⟩
  · have h1 := (h.2.1.1.lt g rfl).1
    have := Option.some.inj hk
    omega
  · rw [List.length_set]
    exact ⟨(h.2.1.1.stored a y).1, h.2.1.2.setCell (h.2.1.1.lt g rfl).1 y⟩
theorem owns_slot {w : World} {base : Nat} {T : TypeId} {v : Value} {n : Nat} {xs : List Value} (h : w.ownsRow base T 1 v n xs) (h0 : 0 < n) : ∃ g cap, v = .slice (some ⟨g, 0, none⟩) n cap := by
  rcases h.2 with ⟨hv, h1⟩ | ⟨g, cap', cur, hv, _⟩
  · omega
  · exact ⟨g, cap', hv⟩
end Go.Proofs.YtlldhmoiahcfpaaDoor
