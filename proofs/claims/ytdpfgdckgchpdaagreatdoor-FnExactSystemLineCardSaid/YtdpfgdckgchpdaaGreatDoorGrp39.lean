/-
  Heights held in a map (strings to integers): plain data.
-/
import Derived.Test.YtdpfgdckgchpdaaGreatDoorGrp35
import Derived.Test.YtdpfgdckgchpdaaGreatDoorGrp38
import Derived.Maps.OwnSet
namespace Go.Proofs.YtdpfgdckgchpdaaGreatDoor
open Go.RowKit Go.Maps Go.WideShapes
set_option linter.unusedVariables false
/-- an entry: a height that is known, or -1 at an end of the way -/
def HEnt (R : List RulD) (k : Nat) (way : List ByteArray) (p : Lit × DataW Unit) : Prop := ∃ e h, EndP k e ∧ p = (keyL e, .lit (.int .i64 h)) ∧ ((0 ≤ h ∧ HtIs R k e h) ∨ (h = -1 ∧ e ∈ way))
structure HMap (R : List RulD) (k : Nat) (way : List ByteArray) (D : DataW Unit) : Prop where
  es : ∃ es, D = .map es ∧ es.Pairwise (fun p q => p.1 ≠ q.1) ∧ ∀ p ∈ es, HEnt R k way p
  way : ∀ t ∈ way, Maps.has D (keyL t) = true
theorem HMap.start (R : List RulD) (k : Nat) : HMap R k [] (.map []) := ⟨⟨[], rfl, List.Pairwise.nil, fun p hp => by cases hp⟩, fun t ht => by cases ht⟩
theorem HMap.few {R : List RulD} {k : Nat} (hk : k ≤ 4) {way : List ByteArray} {D : DataW Unit} (h : HMap R k way D) : Maps.size D ≤ 21845 := by
  obtain ⟨es, rfl, hp, he⟩ := h.es
  let g : Lit × DataW Unit → ByteArray := fun p => match p.1 with | .string b => ⟨b.toArray⟩ | _ => ⟨#[]⟩
  have hg : ∀ p ∈ es, EndP k (g p) ∧ p.1 = keyL (g p) := fun p hm => by
    obtain ⟨e, h, h1, rfl, _⟩ := he p hm
    have e1 : g (keyL e, .lit (.int .i64 h)) = e := ba_ext0 rfl
    rw [e1]; exact ⟨h1, rfl⟩
  have h1 := ends_few hk (l := es.map g) (by
    unfold List.Nodup
    rw [List.pairwise_map]
    exact hp.imp_of_mem fun {a b} ha hb hab e => hab (by rw [(hg a ha).2, (hg b hb).2, e])) (fun e hm => by
    obtain ⟨p, hp, rfl⟩ := List.mem_map.1 hm
    exact (hg p hp).1)
  rw [Maps.size_eq]
  simpa using h1
theorem HMap.look {R : List RulD} {k : Nat} {way : List ByteArray} {D : DataW Unit} (h : HMap R k way D) {e : ByteArray} (hh : Maps.has D (keyL e) = true) : ∃ x : Int, (∀ zd, D.atKey (keyL e) zd = .lit (.int .i64 x)) ∧ ((0 ≤ x ∧ HtIs R k e x) ∨ (x = -1 ∧ e ∈ way)) := by
  obtain ⟨es, rfl, hp, he⟩ := h.es
  rw [has_eq, List.any_eq_true] at hh
  obtain ⟨q, hq, hs⟩ := hh
  cases hf : es.find? (fun p => p.1.sameKey (keyL e)) with
  | none => exact absurd hs ((List.find?_eq_none.1 hf) q hq)
  | some p =>
    have h1 := List.find?_some hf
    have h2 := List.mem_of_find?_eq_some hf
    obtain ⟨e', x, h3, rfl, h4⟩ := he p h2
    have h5 := keyL_same.1 h1
    subst h5
    refine ⟨x, fun zd => ?_, h4⟩
    unfold DataW.atKey
    simp only []
    rw [hf]
theorem put_mem {es : List (Lit × DataW Unit)} {kl : Lit} {d : DataW Unit} {E : List (Lit × DataW Unit)} (h : (DataW.map es).put kl d = .map E) : E.Perm ((kl, d) :: es.filter (fun p => !p.1.sameKey kl)) := by
  have h1 : (DataW.map es).put kl d = .map (DataW.insert (kl, d) (es.filter (fun p => !p.1.sameKey kl))) := rfl
  rw [h1] at h
  injection h with h
  rw [← h]
  exact insert_perm _ _
theorem pair_perm {l m : List (Lit × DataW Unit)} (hp : l.Perm m) (h : m.Pairwise (fun p q => p.1 ≠ q.1)) : l.Pairwise (fun p q => p.1 ≠ q.1) := hp.symm.pairwise h fun hab e => hab e.symm
theorem pair_put {es : List (Lit × DataW Unit)} (e : ByteArray) (d : DataW Unit) (hp : es.Pairwise (fun p q => p.1 ≠ q.1)) : ((keyL e, d) :: es.filter (fun p => !p.1.sameKey (keyL e))).Pairwise (fun p q => p.1 ≠ q.1) := by
  rw [List.pairwise_cons]
  refine ⟨fun q hq e1 => ?_, hp.filter _⟩
  have h1 := (List.mem_filter.1 hq).2
  have h2 : q.1 = keyL e := e1.symm
  rw [h2, keyL_same.2 rfl] at h1
  cases h1
/-- an end is being looked at -/
theorem HMap.open {R : List RulD} {k : Nat} {way : List ByteArray} {D : DataW Unit} (h : HMap R k way D) {e : ByteArray} (he : EndP k e) : HMap R k (way ++ [e]) (D.put (keyL e) (.lit (.int .i64 (-1)))) := by
  obtain ⟨es, rfl, hp, hm⟩ := h.es
  refine ⟨⟨_, rfl, pair_perm (put_mem rfl) (pair_put e _ hp), fun p hpm => ?_⟩, fun t ht => ?_⟩
  · rcases List.mem_cons.1 ((put_mem rfl).mem_iff.1 hpm) with rfl | h1
    · exact ⟨e, -1, he, rfl, .inr ⟨rfl, by simp⟩⟩
    · obtain ⟨e', x, h2, h3, h4⟩ := hm p (List.mem_filter.1 h1).1
      refine ⟨e', x, h2, h3, ?_⟩
      rcases h4 with h4 | ⟨h4, h5⟩
      · exact .inl h4
      · exact .inr ⟨h4, List.mem_append_left _ h5⟩
  · by_cases e1 : t = e
    · subst e1; exact has_put_same ⟨_, rfl⟩ (by trivial) _
    · rw [has_put_other (fun e2 => e1 (keyL_inj e2))]
      rcases List.mem_append.1 ht with h1 | h1
      · exact h.way t h1
      · exact absurd (List.mem_singleton.1 h1) e1
/-- its height is known -/
theorem HMap.close {R : List RulD} {k : Nat} {way : List ByteArray} {D : DataW Unit} {e : ByteArray} (h : HMap R k (way ++ [e]) D) (he : EndP k e) {x : Int} (hx : HtIs R k e x) (h0 : 0 ≤ x) : HMap R k way (D.put (keyL e) (.lit (.int .i64 x))) := by
  obtain ⟨es, rfl, hp, hm⟩ := h.es
  refine ⟨⟨_, rfl, pair_perm (put_mem rfl) (pair_put e _ hp), fun p hpm => ?_⟩, fun t ht => ?_⟩
  · rcases List.mem_cons.1 ((put_mem rfl).mem_iff.1 hpm) with rfl | h1
    · exact ⟨e, x, he, rfl, .inl ⟨h0, hx⟩⟩
    · obtain ⟨h6, h7⟩ := List.mem_filter.1 h1
      obtain ⟨e', x', h2, rfl, h4⟩ := hm p h6
      refine ⟨e', x', h2, rfl, ?_⟩
      rcases h4 with h4 | ⟨h4, h5⟩
      · exact .inl h4
      · rcases List.mem_append.1 h5 with h5 | h5
        · exact .inr ⟨h4, h5⟩
        · rw [List.mem_singleton.1 h5] at h7
          have : (keyL e).sameKey (keyL e) = true := keyL_same.2 rfl
          simp [this] at h7
  · by_cases e1 : t = e
    · subst e1; exact has_put_same ⟨_, rfl⟩ (by trivial) _
    · rw [has_put_other (fun e2 => e1 (keyL_inj e2))]
      exact h.way t (List.mem_append_left _ ht)
end Go.Proofs.YtdpfgdckgchpdaaGreatDoor
