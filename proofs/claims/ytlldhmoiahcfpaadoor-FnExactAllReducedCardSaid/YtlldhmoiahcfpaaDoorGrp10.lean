/-
  The reference's order of words and its sort by insertion (l15Sort).
-/
import Derived.Test.YtlldhmoiahcfpaaDoorGrp09
import Derived.SliceStrings
import Derived.Test.YtlldhmoiahcfpaaDoorGrp07
import Derived.Test.YtlldhmoiahcfpaaDoorGrp08
namespace Go.Proofs.YtlldhmoiahcfpaaDoor
open Go.RowKit Go.ChangeShapes Go.WideShapes Go.ChangeAt
set_option linter.unusedVariables false
theorem strSum_take (l : List ByteArray) {j : Nat} (h : j ≤ l.length) : sumTo l j ≤ strSum l := by
  have := sumTo_mono l h
  rw [sumTo_eq l l.length (Nat.le_refl _), List.take_of_length_le (Nat.le_refl _)] at this
  exact this
theorem strSum_all (l : List ByteArray) : sumTo l l.length = strSum l := by
  rw [sumTo_eq l l.length (Nat.le_refl _), List.take_of_length_le (Nat.le_refl _)]; rfl
/-- what szStringS hands back -/
def szF (left : Int) (l : List ByteArray) : Int := if left < (l.length : Int) + strSum l then -1 else left - l.length - strSum l
theorem szF_big {left : Int} {l : List ByteArray} (h : left < (l.length : Int) + strSum l) : szF left l = -1 := by simp [szF, h]
theorem szF_ok {left : Int} {l : List ByteArray} (h : ¬ left < (l.length : Int) + strSum l) : szF left l = left - l.length - strSum l := by simp only [szF, if_neg h]
set_option maxHeartbeats 400000 in
/-- eqStringS of two slices that hold the same strings -/
theorem eqStringS_same (l : List ByteArray) (a1 a2 : Option Addr) (c1 c2 : Nat) (w : World) (h1 : StrsIn w a1 l) (h2 : StrsIn w a2 l) (hlen : l.length ≤ 2 ^ 47) :
    Calls Tryd.prog 12 #[.slice a1 l.length c1, .slice a2 l.length c2] w fun e w' => e = .returned (.bool true) ∧ Below w.heap.size w w' := by
  go_enter Tryd.func12, Tryd.ntmps12
  go_wp2
  go_loopw [5] (fun i wr => ∃ j : Nat, j ≤ l.length ∧ i = .int .i64 j ∧ Below w.heap.size w wr) (fun i _ => l.length - (intOf i).toNat)
  case atStart => exact ⟨0, Nat.zero_le _, rfl, Below.refl _ _⟩
  case round =>
    obtain ⟨j, hj, rfl, hbel⟩ := hrel
    by_cases hlt : j < l.length
    · obtain ⟨b1, o1, rfl, hb1, hc1⟩ := (h1.later hbel).cell hlt
      obtain ⟨b2, o2, rfl, hb2, hc2⟩ := (h2.later hbel).cell hlt
      have g1 := hc1 j hlt
      have g2 := hc2 j hlt
      clear hc1 hc2
      go_wp2
      go_quiet (fail)
      have hbel2 : Below w.heap.size w (wr.drewN nq) := below_drewN hbel _
      clear hbel g1 g2
      go_wp2
      go_roundw
      case rel => exact ⟨j + 1, by omega, by go_num, hbel2⟩
      case measure => simp [intOf]; omega
    · go_wp2
      go_ret
      exact ⟨rfl, hbel⟩
/-- a slice of strings that came in -/
theorem open_strsIn {H : Type} {enc : TypeId × Value → H} {P : Program} {w : World} {r : Reach} {b0 : Nat} {t e : TypeId} {v : Value} {d : DataW H} {p : List MemPlace} (ht : P.underlying t = some (.slice e)) (he : P.underlying e = some .string) (hc : P.cellsOf e = 1)
    (hv : Value.okWide P w r b0 t v) (h : DataW.Trod enc P w 0 (fun _ => true) true t v d p) : ∃ a l cap, v = .slice a l.length cap ∧ StrsIn w a l ∧ l.length ≤ 9223372036854775807 ∧ ∀ j, j < l.length → (nthS l j).size ≤ maxLen := by
  obtain ⟨a0, len0, cap0, rfl⟩ := okWide_slice ht hv
  obtain ⟨fuel, hf⟩ := h
  rcases open_strings ht he hc hf with ⟨hcs, _⟩ | ⟨a, len, cap, ss, hcs, _, hl, hm, hz, _, hcell, hsz⟩
  · have e : (Value.slice a0 len0 cap0) = .slice none 0 0 := by simpa [Value.cells] using hcs
    rw [e]
    exact ⟨none, [], 0, rfl, .inl rfl, by simp, fun j hj => absurd hj (by simp)⟩
  · have e : (Value.slice a0 len0 cap0) = .slice (some a) len cap := by simpa [Value.cells] using hcs
    rw [e]
    simp only [if_true] at hz
    have hlen : (ss.take len).length = len := by rw [List.length_take]; omega
    have hat : ∀ j, j < len → nthS (ss.take len) j = ss.getD j ByteArray.empty := fun j hj => by
      rw [nthS_lt (by omega), List.getD_eq_getElem?_getD, List.getElem?_eq_getElem (by omega)]
      simp
    refine ⟨some a, ss.take len, cap, by rw [hlen], ?_, by rw [hlen]; unfold maxLen at hm; omega, fun j hj => ?_⟩
    · by_cases h0 : len = 0
      · left; subst h0; simp
      · obtain ⟨b, off, spot⟩ := a
        have hspot : spot = none := by simpa [Addr.add] using World.cell?_spot (hcell 0 (by omega))
        subst hspot
        right
        refine ⟨b, off, rfl, fun i hi => ?_⟩
        rw [List.length_map, hlen] at hi
        have := hcell i (by omega)
        rw [add_plain] at this
        rw [this, List.getElem_map, ← nthS_lt (by omega), hat i hi]
    · rw [hlen] at hj
      rw [hat j hj, List.getD_eq_getElem?_getD, List.getElem?_eq_getElem (by omega)]
      exact hsz _ (List.getElem_mem _)
end Go.Proofs.YtlldhmoiahcfpaaDoor
namespace Go.Proofs.YtlldhmoiahcfpaaDoor
open Go.RowKit
set_option linter.unusedVariables false
/-- the bytes of a word -/
def blW (s : ByteArray) : List UInt8 := s.data.toList
def blsW (l : List ByteArray) : List (List UInt8) := l.map blW
theorem blW_inj {a b : ByteArray} (h : blW a = blW b) : a = b := by
  obtain ⟨⟨x⟩⟩ := a
  obtain ⟨⟨y⟩⟩ := b
  have : x = y := h
  rw [this]
theorem blsW_mem {u : ByteArray} {l : List ByteArray} : blW u ∈ blsW l ↔ u ∈ l := by
  unfold blsW
  rw [List.mem_map]
  constructor
  · rintro ⟨x, hx, he⟩; rw [← blW_inj he]; exact hx
  · intro h; exact ⟨u, h, rfl⟩
theorem blsW_len (l : List ByteArray) : (blsW l).length = l.length := by simp [blsW]
theorem blsW_nth {l : List ByteArray} {i : Nat} (h : i < l.length) : (blsW l)[i]'(by rw [blsW_len]; exact h) = blW (nthS l i) := by rw [nthS_lt h]; simp [blsW]
/-- the order of words -/
def lessS (a b : ByteArray) : Bool := ltW (blW a) (blW b)
/-- strictly sorted -/
def SortedS (l : List ByteArray) : Prop := SortedW (blsW l)
theorem SortedS.ext {x y : List ByteArray} (hx : SortedS x) (hy : SortedS y) (h : ∀ u, u ∈ x ↔ u ∈ y) : x = y := by
  have key : ∀ {x y : List ByteArray}, (∀ u, u ∈ x ↔ u ∈ y) → ∀ u, u ∈ blsW x → u ∈ blsW y := fun h u hu => by
    obtain ⟨v, hv, rfl⟩ := List.mem_map.1 hu
    exact blsW_mem.2 ((h v).1 hv)
  have h1 := SortedW.ext hx hy (fun u => ⟨key h u, key (fun u => (h u).symm) u⟩)
  exact (List.map_inj_right (fun a b => blW_inj)).1 h1
theorem nodup_bls {x : List ByteArray} (h : (blsW x).Nodup) : x.Nodup := by
  unfold blsW at h
  unfold List.Nodup at *
  rw [List.pairwise_map] at h
  exact h.imp (fun h e => h (by rw [e]))
theorem SortedS.nodup {x : List ByteArray} (hx : SortedS x) : x.Nodup := nodup_bls (SortedW.nodup hx)
theorem SortedS.nil : SortedS [] := List.Pairwise.nil
theorem lessS_same {u v : ByteArray} (h : u.size = v.size) : lessS u v = Op.bytesLess u.toList v.toList := by
  have h1 : (blW u).length = (blW v).length := h
  unfold lessS ltW
  rw [bytesLess_eq, Lib.toList_data, Lib.toList_data]
  unfold blW at *
  simp [h1]
theorem lessS_other {u v : ByteArray} (h : ¬ u.size = v.size) : lessS u v = decide (u.size < v.size) := by
  have h1 : ¬ (blW u).length = (blW v).length := h
  have h2 : (blW u).length = u.size := rfl
  have h3 : (blW v).length = v.size := rfl
  unfold lessS ltW
  simp [h1]
  rw [h2, h3]
set_option maxHeartbeats 400000 in
theorem specIsLess_any (u v : ByteArray) (w : World) (hu : u.size ≤ maxLen) (hv : v.size ≤ maxLen) :
    Calls Tryd.prog 51 #[.string u, .string v] w fun e w' => e = .returned (.bool (lessS u v)) ∧ w = w' := by
  unfold maxLen at hu hv
  by_cases h : u.size = v.size
  · have F := Lib.hid (lessS_same h)
    have h1 : ((u.size : Int) == (v.size : Int)) = true := by simp [h]
    have h2 : ((u.size : Int) != (v.size : Int)) = false := by simp [h]
    clear h
    go_enter Tryd.func51, Tryd.ntmps51
    go_wp2_with fail
    go_ret
    exact ⟨ret_bool F.out.symm, rfl⟩
  · have F := Lib.hid (lessS_other h)
    have h1 : ((u.size : Int) == (v.size : Int)) = false := by rw [beq_eq_false_iff_ne]; omega
    have h2 : ((u.size : Int) != (v.size : Int)) = true := by rw [bne_iff_ne]; omega
    go_enter Tryd.func51, Tryd.ntmps51
    go_wp2_with fail
    go_ret
    exact ⟨ret_bool F.out.symm, rfl⟩
/-- a word comes to its place -/
def insS (x : ByteArray) (q : List ByteArray) (k : Nat) : List ByteArray := q.take k ++ [x] ++ q.drop k
theorem insS_bls (x : ByteArray) (q : List ByteArray) (k : Nat) : blsW (insS x q k) = insK (blW x) (blsW q) k := by
  unfold insS insK blsW
  rw [List.map_append, List.map_append, List.map_take, List.map_drop]; rfl
theorem insS_mem {x : ByteArray} {q : List ByteArray} {k : Nat} (u : ByteArray) : u ∈ insS x q k ↔ u ∈ q ∨ u = x := by
  rw [← blsW_mem, insS_bls, insK_mem, blsW_mem]
  exact ⟨fun h => h.imp id blW_inj, fun h => h.imp id (fun e => by rw [e])⟩
theorem insS_len {x : ByteArray} {q : List ByteArray} {k : Nat} (hk : k ≤ q.length) : (insS x q k).length = q.length + 1 := by
  have h := insK_len (w := blW x) (l := blsW q) (k := k) (by rw [blsW_len]; exact hk)
  rwa [← insS_bls, blsW_len, blsW_len] at h
theorem insS_sorted {x : ByteArray} {q : List ByteArray} {k : Nat} (hq : SortedS q) (hx : ¬ x ∈ q) (hk : k ≤ q.length) (hlo : ∀ i, i < k → lessS (nthS q i) x = true) (hhi : k < q.length → lessS (nthS q k) x = false) : SortedS (insS x q k) := by
  unfold SortedS
  rw [insS_bls]
  refine insK_sorted hq (fun h => hx (blsW_mem.1 h)) (by rw [blsW_len]; exact hk) (fun i h hi => ?_) (fun h => ?_)
  · rw [blsW_len] at h; rw [blsW_nth h]; exact hlo i hi
  · rw [blsW_len] at h; rw [blsW_nth h]; exact hhi h
/-- what a call hands back: the sorted set of the words that have a property -/
def RetSet (P : ByteArray → Prop) (w : World) (e : Ending) (w' : World) : Prop := ∃ q, SortedS q ∧ (∀ u, u ∈ q ↔ P u) ∧ RetSl 9 1 q.length (strVals q) w e w'
theorem owns_cap {w : World} {base : Nat} {T : TypeId} {size n m cap : Nat} {a : Option Addr} {xs : List Value} (h : w.ownsRow base T size (.slice a m cap) n xs) : n ≤ cap ∧ cap ≤ maxLen := by
  rcases h.2 with ⟨hv, h0⟩ | ⟨g, cap', cur, hv, hb, hg, hn, hc, hs, ht⟩
  · cases hv; exact ⟨by omega, by unfold maxLen; omega⟩
  · cases hv; exact ⟨hn, hc⟩
theorem owns_someS {w : World} {base : Nat} {T : TypeId} {v : Value} {n : Nat} {xs : List Value} (h : w.ownsRow base T 1 v n xs) (h0 : 0 < n) : ∃ g cap, v = .slice (some ⟨g, 0, none⟩) n cap := by
  rcases h.2 with ⟨hv, h1⟩ | ⟨g, cap', cur, hv, _⟩
  · omega
  · exact ⟨g, cap', hv⟩
/-- the state of the sort: the first j have come to their places -/
def StSort (xs : List ByteArray) (w : World) (v : Value) (j : Nat) (wr : World) : Prop := ∃ q g cap, v = .slice (some ⟨g, 0, none⟩) q.length cap ∧ SortedS q ∧ (∀ u, u ∈ q ↔ u ∈ xs.take j) ∧ q.length = j ∧ Bld 9 1 w wr v q.length (strVals q)
theorem strVals_one (l : List ByteArray) : ∀ u ∈ strVals l, u.oneCell' = true := fun u hu => by
  obtain ⟨x, _, rfl⟩ := List.mem_map.1 hu; rfl
theorem take_mem {l : List ByteArray} {j : Nat} (h : j < l.length) (u : ByteArray) : u ∈ l.take (j + 1) ↔ u ∈ l.take j ∨ u = nthS l j := by
  rw [List.take_succ_eq_append_getElem h, List.mem_append, List.mem_singleton, nthS_lt h]
theorem nodup_take {l : List ByteArray} (hn : l.Nodup) {j : Nat} (h : j < l.length) : ¬ nthS l j ∈ l.take j := fun hm => by
  rw [nthS_lt h] at hm
  obtain ⟨i, hi, he⟩ := List.getElem_of_mem hm
  rw [List.length_take] at hi
  rw [List.getElem_take] at he
  exact (List.pairwise_iff_getElem.1 hn) i j (by omega) h (by omega) he
end Go.Proofs.YtlldhmoiahcfpaaDoor
