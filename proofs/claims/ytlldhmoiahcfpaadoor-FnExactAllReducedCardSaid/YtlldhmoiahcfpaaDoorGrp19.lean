/-
  The reference's l07Ends and l07Cut.
-/
import Derived.Test.YtlldhmoiahcfpaaDoorGrp18
import Derived.Test.YtlldhmoiahcfpaaDoorGrp17
import Derived.Maps.OwnSet
import Derived.Test.YtlldhmoiahcfpaaDoorGrp14
import Derived.Deep.QuietTactic
import Derived.BigQuiet
namespace Go.Proofs.YtlldhmoiahcfpaaDoor
open Go.RowKit Go.Maps Go.WideShapes
set_option linter.unusedVariables false
/-- an entry: a height that is known, or -1 at an end of the way -/
def HEnt (R : List RulD) (k : Nat) (way : List ByteArray) (p : Lit × DataW Unit) : Prop := ∃ e h, EndP k e ∧ p = (keyL e, .lit (.int .i64 h)) ∧ ((0 ≤ h ∧ HtIs R k e h) ∨ (h = -1 ∧ e ∈ way))
structure HMap (R : List RulD) (k : Nat) (way : List ByteArray) (D : DataW Unit) : Prop where
  es : ∃ es, D = .map es ∧ es.Pairwise (fun p q => p.1 ≠ q.1) ∧ ∀ p ∈ es, HEnt R k way p
  way : ∀ t ∈ way, Maps.has D (keyL t) = true
theorem HMap.start (R : List RulD) (k : Nat) : HMap R k [] (.map []) := ⟨⟨[], rfl, List.Pairwise.nil, fun p hp => by cases hp⟩, fun t ht => by cases ht⟩
theorem HMap.few {R : List RulD} {k : Nat} (hk : k ≤ 4) {way : List ByteArray} {D : DataW Unit} (h : HMap R k way D) : Maps.size D ≤ 21845 := by
  obtain ⟨es, rfl, hp, he⟩ := h.es
  let g : Lit × DataW Unit → ByteArray := fun p => match p.1 with | .string b => ⟨b.toArray⟩ | _ => ⟨#[]⟩
  have hg : ∀ p ∈ es, EndP k (g p) ∧ p.1 = keyL (g p) := fun p hm => by
    obtain ⟨e, h, h1, rfl, _⟩ := he p hm
    have e1 : g (keyL e, .lit (.int .i64 h)) = e := ba_ext0 rfl
    rw [e1]; exact ⟨h1, rfl⟩
  have h1 := ends_few hk (l := es.map g) (by
    unfold List.Nodup
    rw [List.pairwise_map]
    exact hp.imp_of_mem fun {a b} ha hb hab e => hab (by rw [(hg a ha).2, (hg b hb).2, e])) (fun e hm => by
    obtain ⟨p, hp, rfl⟩ := List.mem_map.1 hm
    exact (hg p hp).1)
  rw [Maps.size_eq]
  simpa using h1
theorem HMap.look {R : List RulD} {k : Nat} {way : List ByteArray} {D : DataW Unit} (h : HMap R k way D) {e : ByteArray} (hh : Maps.has D (keyL e) = true) : ∃ x : Int, (∀ zd, D.atKey (keyL e) zd = .lit (.int .i64 x)) ∧ ((0 ≤ x ∧ HtIs R k e x) ∨ (x = -1 ∧ e ∈ way)) := by
  obtain ⟨es, rfl, hp, he⟩ := h.es
  rw [has_eq, List.any_eq_true] at hh
  obtain ⟨q, hq, hs⟩ := hh
  cases hf : es.find? (fun p => p.1.sameKey (keyL e)) with
  | none => exact absurd hs ((List.find?_eq_none.1 hf) q hq)
  | some p =>
    have h1 := List.find?_some hf
    have h2 := List.mem_of_find?_eq_some hf
    obtain ⟨e', x, h3, rfl, h4⟩ := he p h2
    have h5 := keyL_same.1 h1
    subst h5
    refine ⟨x, fun zd => ?_, h4⟩
    unfold DataW.atKey
    simp only []
    rw [hf]
theorem put_mem {es : List (Lit × DataW Unit)} {kl : Lit} {d : DataW Unit} {E : List (Lit × DataW Unit)} (h : (DataW.map es).put kl d = .map E) : E.Perm ((kl, d) :: es.filter (fun p => !p.1.sameKey kl)) := by
  have h1 : (DataW.map es).put kl d = .map (DataW.insert (kl, d) (es.filter (fun p => !p.1.sameKey kl))) := rfl
  rw [h1] at h
  injection h with h
  rw [← h]
  exact insert_perm _ _
theorem pair_perm {l m : List (Lit × DataW Unit)} (hp : l.Perm m) (h : m.Pairwise (fun p q => p.1 ≠ q.1)) : l.Pairwise (fun p q => p.1 ≠ q.1) := hp.symm.pairwise h fun hab e => hab e.symm
theorem pair_put {es : List (Lit × DataW Unit)} (e : ByteArray) (d : DataW Unit) (hp : es.Pairwise (fun p q => p.1 ≠ q.1)) : ((keyL e, d) :: es.filter (fun p => !p.1.sameKey (keyL e))).Pairwise (fun p q => p.1 ≠ q.1) := by
  rw [List.pairwise_cons]
  refine ⟨fun q hq e1 => ?_, hp.filter _⟩
  have h1 := (List.mem_filter.1 hq).2
  have h2 : q.1 = keyL e := e1.symm
  rw [h2, keyL_same.2 rfl] at h1
  cases h1
/-- an end is being looked at -/
theorem HMap.open {R : List RulD} {k : Nat} {way : List ByteArray} {D : DataW Unit} (h : HMap R k way D) {e : ByteArray} (he : EndP k e) : HMap R k (way ++ [e]) (D.put (keyL e) (.lit (.int .i64 (-1)))) := by
  obtain ⟨es, rfl, hp, hm⟩ := h.es
  refine ⟨⟨_, rfl, pair_perm (put_mem rfl) (pair_put e _ hp), fun p hpm => ?_⟩, fun t ht => ?_⟩
  · rcases List.mem_cons.1 ((put_mem rfl).mem_iff.1 hpm) with rfl | h1
    · exact ⟨e, -1, he, rfl, .inr ⟨rfl, by simp⟩⟩
    · obtain ⟨e', x, h2, h3, h4⟩ := hm p (List.mem_filter.1 h1).1
      refine ⟨e', x, h2, h3, ?_⟩
      rcases h4 with h4 | ⟨h4, h5⟩
      · exact .inl h4
      · exact .inr ⟨h4, List.mem_append_left _ h5⟩
  · by_cases e1 : t = e
    · subst e1; exact has_put_same ⟨_, rfl⟩ (by trivial) _
    · rw [has_put_other (fun e2 => e1 (keyL_inj e2))]
      rcases List.mem_append.1 ht with h1 | h1
      · exact h.way t h1
      · exact absurd (List.mem_singleton.1 h1) e1
/-- its height is known -/
theorem HMap.close {R : List RulD} {k : Nat} {way : List ByteArray} {D : DataW Unit} {e : ByteArray} (h : HMap R k (way ++ [e]) D) (he : EndP k e) {x : Int} (hx : HtIs R k e x) (h0 : 0 ≤ x) : HMap R k way (D.put (keyL e) (.lit (.int .i64 x))) := by
  obtain ⟨es, rfl, hp, hm⟩ := h.es
  refine ⟨⟨_, rfl, pair_perm (put_mem rfl) (pair_put e _ hp), fun p hpm => ?_⟩, fun t ht => ?_⟩
  · rcases List.mem_cons.1 ((put_mem rfl).mem_iff.1 hpm) with rfl | h1
    · exact ⟨e, x, he, rfl, .inl ⟨h0, hx⟩⟩
    · obtain ⟨h6, h7⟩ := List.mem_filter.1 h1
      obtain ⟨e', x', h2, rfl, h4⟩ := hm p h6
      refine ⟨e', x', h2, rfl, ?_⟩
      rcases h4 with h4 | ⟨h4, h5⟩
      · exact .inl h4
      · rcases List.mem_append.1 h5 with h5 | h5
        · exact .inr ⟨h4, h5⟩
        · rw [List.mem_singleton.1 h5] at h7
          have : (keyL e).sameKey (keyL e) = true := keyL_same.2 rfl
          simp [this] at h7
  · by_cases e1 : t = e
    · subst e1; exact has_put_same ⟨_, rfl⟩ (by trivial) _
    · rw [has_put_other (fun e2 => e1 (keyL_inj e2))]
      exact h.way t (List.mem_append_left _ ht)
end Go.Proofs.YtlldhmoiahcfpaaDoor
namespace Go.Proofs.YtlldhmoiahcfpaaDoor
open Go.RowKit
set_option linter.unusedVariables false
theorem sufBB_iff {s p : ByteArray} : sufBB s p = true ↔ p.size ≤ s.size ∧ s.extract (s.size - p.size) s.size = p := by
  unfold sufBB
  rw [List.isSuffixOf_iff_suffix]
  have hl : ∀ s : ByteArray, s.data.toList.length = s.size := fun s => rfl
  have hx : p.size ≤ s.size → (s.extract (s.size - p.size) s.size).data.toList = s.data.toList.drop (s.size - p.size) := fun h => by
    rw [ByteArray.data_extract, Array.toList_extract, List.extract_eq_take_drop, List.take_of_length_le (by rw [List.length_drop, hl]; exact Nat.le_refl _)]
  constructor
  · rintro ⟨t, ht⟩
    have h1 : p.size ≤ s.size := by rw [← hl, ← hl, ← ht, List.length_append]; omega
    refine ⟨h1, ba_ext0 ?_⟩
    rw [hx h1, ← ht, List.drop_left']
    have := congrArg List.length ht
    rw [List.length_append, hl, hl] at this
    omega
  · rintro ⟨h1, h2⟩
    rw [← h2, hx h1]
    exact List.drop_suffix _ _
theorem bytes_eq2 {a b : ByteArray} : (a.toList == b.toList) = true ↔ a = b := bytes_eq
set_option maxRecDepth 20000 in
set_option maxHeartbeats 2000000 in
theorem l07Ends_any (k : Int) (l : List RulD) (v : ByteArray) (a : Option Addr) (cap : Nat) (w : World) (hl : RulesIn w a l) (hlen : l.length ≤ 2 ^ 40) (hz : ∀ j, j < l.length → (nthR l j).1.size ≤ 1000) (hv : v.size ≤ 1000) :
    Calls Tryd.prog 25 #[.agg #[.int .i64 k, .slice a l.length cap], .string v] w fun e w' => e = .returned (.bool (endsR l v)) ∧ Below w.heap.size w w' := by
  have HL := Lib.hid hl
  have HZ := Lib.hid hz
  have HA := Lib.hid (fun o => alloc_belowS w o)
  clear hl hz
  go_enter Tryd.func25, Tryd.ntmps25
  go_wp2_with fail
  go_loopw [10] (fun i wr => ∃ j : Nat, j ≤ l.length ∧ i = .int .i64 (j : Nat) ∧ Hid (∀ j', j' < j → sufBB v (nthR l j').1 = false) ∧ Below w.heap.size w wr) (fun i _ => l.length - (intOf i).toNat)
  case atStart => exact ⟨0, Nat.zero_le _, rfl, Lib.hid (fun j' h => absurd h (Nat.not_lt_zero _)), HA.out _⟩
  case round =>
    obtain ⟨j, hj, rfl, hall, hbw⟩ := hrel
    have HBW := Lib.hid hbw
    by_cases hlt : j < l.length
    · obtain ⟨b, off, rfl, hb, hc⟩ := (HL.out.later hbw).cell hlt
      obtain ⟨c1, c2⟩ := hc j hlt
      have z1 := HZ.out j hlt
      have HYE : Hid (sufBB v (nthR l j).1 = true → endsR l v = true) := Lib.hid (fun h => endsR_iff.2 ⟨_, nthR_mem hlt, h⟩)
      have HNO : Hid (sufBB v (nthR l j).1 = false → ∀ j', j' < j + 1 → sufBB v (nthR l j').1 = false) := Lib.hid (fun h j' hj' => by
        by_cases e : j' = j
        · rw [e]; exact h
        · exact hall.out j' (by omega))
      clear hc hbw
      generalize (nthR l j).1 = x at *
      generalize (nthR l j).2 = y at *
      have HSI := Lib.hid (@sufBB_iff v x)
      by_cases hle : x.size ≤ v.size
      · have g1 : decide ((x.size : Int) ≤ (v.size : Int)) = true := decide_eq_true (by omega)
        have g2 : (x.size : Int) ≤ (v.size : Int) := by omega
        have g3 : (0 : Int) ≤ (v.size : Int) - (x.size : Int) := by omega
        have g4 : (v.size : Int) - (x.size : Int) ≤ (v.size : Int) := by omega
        have g5 : ((v.size : Int) - (x.size : Int)).toNat = v.size - x.size := by omega
        have HD : Hid (∀ n, Below w.heap.size w ((wr.alloc (.cells #[.string x, .string y] 63)).drewN n)) := Lib.hid (fun n => by
          have h := HBW.out.alloc HBW.out.size (.cells #[.string x, .string y] 63)
          exact ⟨h.os, h.tape, h.output, h.size, h.block⟩)
        cases hq : ((v.extract (v.size - x.size) v.size).toList == x.toList)
        · have F := Lib.hid (HNO.out (by
            cases e : sufBB v x
            · rfl
            · have := (HSI.out.1 e).2
              rw [bytes_eq2.2 this] at hq; cases hq))
          go_wp2_with fail
          go_quiet (fail)
          go_wp2_with fail
          go_roundw
          case rel => exact ⟨j + 1, by omega, by go_num, F, HD.out _⟩
          case measure => simp [intOf]; omega
        · have F := Lib.hid (HYE.out (HSI.out.2 ⟨hle, bytes_eq2.1 hq⟩))
          go_wp2_with fail
          go_quiet (fail)
          go_wp2_with fail
          go_ret
          exact ⟨ret_bool F.out.symm, HD.out _⟩
      · have g1 : decide ((x.size : Int) ≤ (v.size : Int)) = false := decide_eq_false (by omega)
        have g1n : decide (x.size ≤ v.size) = false := decide_eq_false hle
        have F := Lib.hid (HNO.out (by
          cases e : sufBB v x
          · rfl
          · exact absurd (HSI.out.1 e).1 hle))
        have HD : Hid (∀ n, Below w.heap.size w ((wr.alloc (.cells #[.string x, .string y] 63)).drewN n)) := Lib.hid (fun n => by
          have h := HBW.out.alloc HBW.out.size (.cells #[.string x, .string y] 63)
          exact ⟨h.os, h.tape, h.output, h.size, h.block⟩)
        clear hle
        go_wp2_with fail
        go_quiet (fail)
        go_wp2_with fail
        go_roundw
        case rel => exact ⟨j + 1, by omega, by go_num, F, HD.out _⟩
        case measure => simp [intOf]; omega
    · have F : Hid (endsR l v = false) := Lib.hid (by
        cases e : endsR l v
        · rfl
        · obtain ⟨r, hr, h⟩ := endsR_iff.1 e
          obtain ⟨i, hi, rfl⟩ := mem_nthR hr
          rw [hall.out i (by omega)] at h; cases h)
      go_wp2_with fail
      go_ret
      exact ⟨ret_bool F.out.symm, HBW.out⟩
set_option maxHeartbeats 400000 in
theorem l07Cut_any (k : Int) (l : List RulD) (v : ByteArray) (a : Option Addr) (cap : Nat) (w : World) (hl : RulesIn w a l) (hlen : l.length ≤ 2 ^ 40) (hz : SzR l) (hv : v.size ≤ 1000) :
    Calls Tryd.prog 52 #[.agg #[.int .i64 k, .slice a l.length cap], .string v] w fun e w' => e = .returned (.string (cutR l v)) ∧ Below w.heap.size w w' := by
  have HL := Lib.hid hl
  have HS := Lib.hid (fun W h => specLongestSide_any k l a cap W h hlen hz)
  have hm := lsTo_le hz l.length (Nat.le_refl _)
  have hm2 : lsL l ≤ 9223372036854775807 := by unfold maxLen at hm; exact hm
  have HA := Lib.hid (fun o => alloc_belowS w o)
  have HC : Hid (keepR l = lsL l - 1) := Lib.hid rfl
  have HCU : Hid (cutR l v = v.extract (v.size - keepR l) v.size) := Lib.hid rfl
  have HCS := Lib.hid (@cutR_short l v)
  generalize cutR l v = cc at *
  generalize keepR l = q at *
  generalize lsL l = m at *
  have hq : q = m - 1 := HC.out
  clear hl hz hm
  go_enter Tryd.func52, Tryd.ntmps52
  go_wp2_with fail
  refine (HS.out _ (HL.out.later (HA.out _))).mono ?_
  rintro e w2 ⟨rfl, hb2⟩
  have HW := Lib.hid (Below.now (HA.out _) hb2)
  have e1 : max (0 : Int) ((m : Int) - 1) = (q : Int) := by omega
  clear hb2 HS
  by_cases hle : v.size ≤ q
  · have F := Lib.hid (HCS.out hle)
    have g1 : (v.size : Int) ≤ (q : Int) := by omega
    clear hq HC
    go_wp2_with fail
    go_ret
    exact ⟨ret_str F.out.symm, HW.out⟩
  · have g1 : ¬ (v.size : Int) ≤ (q : Int) := by omega
    have g3 : (0 : Int) ≤ (v.size : Int) - (q : Int) := by omega
    have g4 : (v.size : Int) - (q : Int) ≤ (v.size : Int) := by omega
    have g5 : ((v.size : Int) - (q : Int)).toNat = v.size - q := by omega
    clear hq HC
    go_wp2_with fail
    go_ret
    exact ⟨ret_str HCU.out.symm, HW.out⟩
end Go.Proofs.YtlldhmoiahcfpaaDoor
