/-
  Slices that are built by append, one element a time.
-/
import Derived.Test.YtlldhmoiahcfpaaDoorOwn
namespace Go.Proofs.YtlldhmoiahcfpaaDoor
open Go.RowKit
set_option linter.unusedVariables false
/-- a slice of n elements (size cells each) that is being built since w -/
def Bld (T : TypeId) (size : Nat) (w wr : World) (v : Value) (n : Nat) (xs : List Value) : Prop := wr.ownsRow w.heap.size T size v n xs ∧ Below w.heap.size w wr
/-- the slice that a variable holds, whatever it is made of -/
theorem owns_form {w : World} {base : Nat} {T : TypeId} {size : Nat} {v : Value} {n : Nat} {xs : List Value} (h : w.ownsRow base T size v n xs) : ∃ a cap, v = .slice a n cap := by
  rcases h.2 with ⟨hv, h0⟩ | ⟨g, cap, cur, hv, _⟩
  · exact ⟨none, 0, by rw [hv, h0]⟩
  · exact ⟨_, _, hv⟩
theorem owns_block {w : World} {base : Nat} {T : TypeId} {size : Nat} {v : Value} {n : Nat} {xs : List Value} (h : w.ownsRow base T size v n xs) : ∀ k, v.ownBlock = some k → base ≤ k := fun k hk => (h.lt k hk).1
theorem Bld.ret {T : TypeId} {size : Nat} {w wr : World} {v : Value} {n : Nat} {xs : List Value} (h : Bld T size w wr v n xs) : RetSl T size n xs w (.returned v) wr := by
  obtain ⟨a, cap, rfl⟩ := owns_form h.1
  exact ⟨a, cap, rfl, h.1, h.2⟩
theorem Bld.later {T : TypeId} {size : Nat} {w wr wr' : World} {v : Value} {n : Nat} {xs : List Value} (h : Bld T size w wr v n xs) (hb : Below wr.heap.size wr wr') : Bld T size w wr' v n xs := ⟨owns_later h.1 hb, Below.now h.2 hb⟩
theorem Bld.empty (T : TypeId) (size : Nat) (w : World) : Bld T size w (w.alloc (.cells #[] T)) (.slice (some ⟨w.heap.size, 0, none⟩) 0 0) 0 [] :=
  ⟨World.ownsRow_made w #[] 0 (Nat.le_refl _) (by unfold maxLen; omega) (by simp), (Below.refl _ _).alloc (Nat.le_refl _) _⟩
theorem Bld.nil (T : TypeId) (size : Nat) {w wr : World} (h : Below w.heap.size w wr) : Bld T size w wr (.slice none 0 0) 0 [] := ⟨World.ownsRow_nil _ _ _ _, h⟩
theorem Bld.since {T : TypeId} {size : Nat} {w w0 wr : World} {v : Value} {n : Nat} {xs : List Value} (h : Bld T size w wr v n xs) (hb : Below w0.heap.size w0 w) : Bld T size w0 wr v n xs :=
  ⟨owns_mono h.1 hb.size, hb.trans (h.2.mono hb.size)⟩
section
variable {P : Program}
theorem wpList_app1 {ops : Array Oper} {rest : List Oper} {o : Oper} {a : Act} {Q : Exit → Act → World → Prop} {T tsl : TypeId} {z : Value} {size bytes : Nat} (hg : o.guard = none) (s x : Operand)
    (ho : o.op = .call { callee := .builtin .append, args := #[s, x], argTypes := #[tsl, tsl] }) (ht : P.underlying tsl = some (.slice T)) (hinfo : (P.info? T).map (fun i => (i.zero, i.size, i.bytes)) = some (some z, size, bytes))
    (hzs : z.cells.size = size) (hpos : 0 < size) {w wr : World} {v : Value} {n : Nat} {xs news : List Value} (hs : a.eval s = v) (hb : Bld T size w wr v n xs) (hx : a.eval x = .slice (some ⟨wr.heap.size, 0, none⟩) 1 1)
    (hn : news.length = size) (h1 : ∀ u ∈ news, u.oneCell' = true) (h63 : n + 1 ≤ maxLen) (hbytes : (n + 1) * bytes ≤ 140737488355328)
    (hK : ∀ v' w', Bld T size w w' v' (n + 1) (xs ++ news) → wpList P ops Q rest (a.put o.dst v') w') : wpList P ops Q (o :: rest) a (wr.alloc (.cells news.toArray T)) := by
  obtain ⟨i0, hi, hz0, hz1, hz2⟩ := info_parts hinfo
  refine wpList_append_own _ hg s x tsl ho w.heap.size T i0 z size bytes ht hi hz0 hz1 hz2 hzs hpos v n xs hs (hb.1.alloc _) ⟨wr.heap.size, 0, none⟩ 1 1 news hx (by omega) ?_ h1 h63 hbytes ?_ ?_
  · intro j u hu
    have hadd : (⟨wr.heap.size, 0, none⟩ : Addr).add j = ⟨wr.heap.size, j, none⟩ := by unfold Addr.add; split <;> simp_all
    rw [hadd, World.cell?_alloc_new]
    simpa using hu
  · have := hb.2.size
    simp; omega
  · intro v' w' hown hgr _
    refine hK v' w' ⟨hown, ?_⟩
    have h2 : Below w.heap.size w (wr.alloc (.cells news.toArray T)) := hb.2.alloc hb.2.size _
    exact h2.grown hgr h2.size (owns_block hb.1)
end
end Go.Proofs.YtlldhmoiahcfpaaDoor
