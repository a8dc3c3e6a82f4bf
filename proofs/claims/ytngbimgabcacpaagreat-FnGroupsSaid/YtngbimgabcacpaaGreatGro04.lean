/-
  RulesOk and SystemOk of the program, SystemOk of the reference, LongestSide of both.
-/
import Derived.Test.YtngbimgabcacpaaGreatGro01
import Derived.ProofKit
import Derived.OpenShut
import Derived.Lib.SmallJoins
import Derived.Test.YtngbimgabcacpaaGreatGro03
import Derived.SliceStrings
import Derived.Test.YtngbimgabcacpaaGreatGro02
import Derived.Sort.OwnSorted
import Derived.Shelf.Abstract
namespace Go.Proofs.YtngbimgabcacpaaGreat
open Go.ChangeShapes Go.WideShapes Go.ChangeAt Go.RowKit Go.Joins Go.Deep
set_option linter.unusedVariables false
/-- all arguments read as they did, if below the old heap's size nothing has turned -/
theorem trodAll_below {H : Type} {enc : TypeId × Value → H} {P : Program} (hl : laidOutB P = true) {W W' : World} (hb : Below W.heap.size W W') :
    ∀ (ts : List TypeId) (vs : List Value) (ds : List (DataW H)) (ps : List MemPlace), (∀ t ∈ ts, P.readableRec t = true ∧ t < P.types.size) → (∀ x ∈ ps, x.block < W.heap.size) →
      DataW.TrodAll enc P W 0 (fun _ => true) true ts vs ds ps → DataW.TrodAll enc P W' 0 (fun b => decide (b < W.heap.size)) true ts vs ds ps
  | [], vs, ds, ps, _, _, h => by
    cases vs <;> cases ds <;> simp_all [DataW.TrodAll]
  | t :: ts, vs, ds, ps, hr, hp, h => by
    cases vs with
    | nil => cases ds <;> simp [DataW.TrodAll] at h
    | cons v vs =>
      cases ds with
      | nil => simp [DataW.TrodAll] at h
      | cons d ds =>
        obtain ⟨p, p', h1, h2, rfl⟩ := h
        exact ⟨p, p', Below.trod hl (hr t (by simp)).1 (hr t (by simp)).2 h1 hb (fun x hx => hp x (by simp [hx])),
          trodAll_below hl hb ts vs ds p' (fun t' ht' => hr t' (by simp [ht'])) (fun x hx => hp x (by simp [hx])) h2, rfl⟩
/-- what a law's row asks behind the walk -/
theorem law_post {H : Type} {enc : TypeId × Value → H} {P : Program} {f : Func} {s : ChangeSpec} {W W' : World} {args : Array Value} {ds : List (DataW H)} {before : List MemPlace} {tb : TypeId}
    (hl : laidOutB P = true) (hr : ∀ t ∈ f.params.toList, P.readableRec t = true ∧ t < P.types.size) (hv : s.vars = [])
    (hW : DataW.Whole enc P f.params.toList s.vars false W args.toList ds [] before) (hft : f.resultTypes = #[tb]) (htb : P.underlying tb = some .bool)
    (hfn : s.fn H (ds ++ []) = { results := [.lit (.bool true)], args := ds }) (hb : Below W.heap.size W W') :
    s.post enc P f false true false false W args (.bool true) W' := by
  have hW' := hW
  obtain ⟨p, q, hA0, hV, hpq, hfz, hnd⟩ := hW'
  rw [hv] at hV
  obtain ⟨_, rfl⟩ := trodVars_none hV
  simp only [List.append_nil] at hpq
  subst hpq
  have hlt : ∀ x ∈ before, x.block < W.heap.size := fun x hx => hW.lt x hx
  refine ⟨ds, [], before, [], before, [], hW, ?_, ?_, ?_, ?_, fun h => by cases h⟩
  · rw [hfn, hft]
    exact trodAll_cons_mk (shut_bool htb _) trodAll_mk0
  · rw [hfn]
    exact trodAll_below hl hb _ _ _ _ hr hlt hA0
  · rw [hfn, hv]
    rfl
  · exact hb.frame _
/-- a slice of integers that came in -/
theorem open_intsIn {H : Type} {enc : TypeId × Value → H} {P : Program} {w : World} {t e : TypeId} {fuel : Nat} {cs : List Value} {x : DataW H × List MemPlace} (ht : P.underlying t = some (.slice e)) (he : P.underlying e = some (.int .i64)) (hc : P.cellsOf e = 1)
    (h : DataW.trod enc P w 0 (fun _ => true) true fuel t cs = some x) : ∃ a l cap, cs = [.slice a l.length cap] ∧ IntsIn w a l ∧ l.length ≤ 9223372036854775807 := by
  rcases open_ints ht he hc h with ⟨rfl, _⟩ | ⟨a, len, cap, zs, rfl, _, hl, hm, hz, _, hcell, _⟩
  · exact ⟨none, [], 0, rfl, .inl rfl, by simp⟩
  · simp only [if_true] at hz
    have hlen : (zs.take len).length = len := by rw [List.length_take]; omega
    refine ⟨some a, zs.take len, cap, by rw [hlen], ?_, by rw [hlen]; unfold maxLen at hm; omega⟩
    by_cases h0 : len = 0
    · left; subst h0; simp
    · obtain ⟨b, off, rfl, hc'⟩ := ints_at hcell (by omega)
      right
      refine ⟨b, off, rfl, fun i hi => ?_⟩
      rw [List.length_map, hlen] at hi
      rw [hc' i (by omega)]
      simp [List.getElem_take, List.getD_eq_getElem?_getD, show i < zs.length by omega]
/-- a table that came in -/
theorem open_tableIn {H : Type} {enc : TypeId × Value → H} {P : Program} {w : World} {r : Reach} {b0 : Nat} {t ti : TypeId} {f0 f1 : Field} {v : Value} {d : DataW H} {p : List MemPlace} (hs : P.underlying t = some (.struct #[f0, f1])) (hone : oneCellFields P #[f0, f1] = true) (hC : P.cellsOf t = 2)
    (h0 : P.underlying f0.type = some (.int .i64)) (h1 : P.underlying f1.type = some (.slice ti)) (hi : P.underlying ti = some (.int .i64)) (hci : P.cellsOf ti = 1)
    (hv : Value.okWide P w r b0 t v) (h : DataW.Trod enc P w 0 (fun _ => true) true t v d p) : ∃ n a l cap, v = .agg #[.int .i64 n, .slice a l.length cap] ∧ IntsIn w a l ∧ l.length ≤ 9223372036854775807 := by
  obtain ⟨c0, c1, y0, y1, m, rfl, _, _, hy0, hy1⟩ := open_agg2 hs hone hC hv h
  obtain ⟨n, e0, _, _⟩ := DataW.trod_int h0 hy0
  obtain ⟨a, l, cap, e1, hl, hn⟩ := open_intsIn h1 hi hci hy1
  simp only [List.cons.injEq, and_true] at e0 e1
  subst e0 e1
  exact ⟨n, a, l, cap, rfl, hl, hn⟩
end Go.Proofs.YtngbimgabcacpaaGreat
namespace Go.Proofs.YtngbimgabcacpaaGreat
open Go.RowKit Go.ChangeShapes Go.WideShapes Go.ChangeAt
set_option linter.unusedVariables false
theorem strSum_take (l : List ByteArray) {j : Nat} (h : j ≤ l.length) : sumTo l j ≤ strSum l := by
  have := sumTo_mono l h
  rw [sumTo_eq l l.length (Nat.le_refl _), List.take_of_length_le (Nat.le_refl _)] at this
  exact this
theorem strSum_all (l : List ByteArray) : sumTo l l.length = strSum l := by
  rw [sumTo_eq l l.length (Nat.le_refl _), List.take_of_length_le (Nat.le_refl _)]; rfl
/-- what szStringS hands back -/
def szF (left : Int) (l : List ByteArray) : Int := if left < (l.length : Int) + strSum l then -1 else left - l.length - strSum l
theorem szF_big {left : Int} {l : List ByteArray} (h : left < (l.length : Int) + strSum l) : szF left l = -1 := by simp [szF, h]
theorem szF_ok {left : Int} {l : List ByteArray} (h : ¬ left < (l.length : Int) + strSum l) : szF left l = left - l.length - strSum l := by simp only [szF, if_neg h]
/-- a slice of strings that came in -/
theorem open_strsIn {H : Type} {enc : TypeId × Value → H} {P : Program} {w : World} {r : Reach} {b0 : Nat} {t e : TypeId} {v : Value} {d : DataW H} {p : List MemPlace} (ht : P.underlying t = some (.slice e)) (he : P.underlying e = some .string) (hc : P.cellsOf e = 1)
    (hv : Value.okWide P w r b0 t v) (h : DataW.Trod enc P w 0 (fun _ => true) true t v d p) : ∃ a l cap, v = .slice a l.length cap ∧ StrsIn w a l ∧ l.length ≤ 9223372036854775807 ∧ ∀ j, j < l.length → (nthS l j).size ≤ maxLen := by
  obtain ⟨a0, len0, cap0, rfl⟩ := okWide_slice ht hv
  obtain ⟨fuel, hf⟩ := h
  rcases open_strings ht he hc hf with ⟨hcs, _⟩ | ⟨a, len, cap, ss, hcs, _, hl, hm, hz, _, hcell, hsz⟩
  · have e : (Value.slice a0 len0 cap0) = .slice none 0 0 := by simpa [Value.cells] using hcs
    rw [e]
    exact ⟨none, [], 0, rfl, .inl rfl, by simp, fun j hj => absurd hj (by simp)⟩
  · have e : (Value.slice a0 len0 cap0) = .slice (some a) len cap := by simpa [Value.cells] using hcs
    rw [e]
    simp only [if_true] at hz
    have hlen : (ss.take len).length = len := by rw [List.length_take]; omega
    have hat : ∀ j, j < len → nthS (ss.take len) j = ss.getD j ByteArray.empty := fun j hj => by
      rw [nthS_lt (by omega), List.getD_eq_getElem?_getD, List.getElem?_eq_getElem (by omega)]
      simp
    refine ⟨some a, ss.take len, cap, by rw [hlen], ?_, by rw [hlen]; unfold maxLen at hm; omega, fun j hj => ?_⟩
    · by_cases h0 : len = 0
      · left; subst h0; simp
      · obtain ⟨b, off, spot⟩ := a
        have hspot : spot = none := by simpa [Addr.add] using World.cell?_spot (hcell 0 (by omega))
        subst hspot
        right
        refine ⟨b, off, rfl, fun i hi => ?_⟩
        rw [List.length_map, hlen] at hi
        have := hcell i (by omega)
        rw [add_plain] at this
        rw [this, List.getElem_map, ← nthS_lt (by omega), hat i hi]
    · rw [hlen] at hj
      rw [hat j hj, List.getD_eq_getElem?_getD, List.getElem?_eq_getElem (by omega)]
      exact hsz _ (List.getElem_mem _)
end Go.Proofs.YtngbimgabcacpaaGreat
namespace Go.Proofs.YtngbimgabcacpaaGreat
open Go.RowKit
set_option linter.unusedVariables false
/-- the bytes of a word -/
def blW (s : ByteArray) : List UInt8 := s.data.toList
def blsW (l : List ByteArray) : List (List UInt8) := l.map blW
theorem blW_inj {a b : ByteArray} (h : blW a = blW b) : a = b := by
  obtain ⟨⟨x⟩⟩ := a
  obtain ⟨⟨y⟩⟩ := b
  have : x = y := h
  rw [this]
theorem blsW_mem {u : ByteArray} {l : List ByteArray} : blW u ∈ blsW l ↔ u ∈ l := by
  unfold blsW
  rw [List.mem_map]
  constructor
  · rintro ⟨x, hx, he⟩; rw [← blW_inj he]; exact hx
  · intro h; exact ⟨u, h, rfl⟩
theorem blsW_len (l : List ByteArray) : (blsW l).length = l.length := by simp [blsW]
theorem blsW_nth {l : List ByteArray} {i : Nat} (h : i < l.length) : (blsW l)[i]'(by rw [blsW_len]; exact h) = blW (nthS l i) := by rw [nthS_lt h]; simp [blsW]
/-- the order of words -/
def lessS (a b : ByteArray) : Bool := ltW (blW a) (blW b)
/-- strictly sorted -/
def SortedS (l : List ByteArray) : Prop := SortedW (blsW l)
theorem SortedS.ext {x y : List ByteArray} (hx : SortedS x) (hy : SortedS y) (h : ∀ u, u ∈ x ↔ u ∈ y) : x = y := by
  have key : ∀ {x y : List ByteArray}, (∀ u, u ∈ x ↔ u ∈ y) → ∀ u, u ∈ blsW x → u ∈ blsW y := fun h u hu => by
    obtain ⟨v, hv, rfl⟩ := List.mem_map.1 hu
    exact blsW_mem.2 ((h v).1 hv)
  have h1 := SortedW.ext hx hy (fun u => ⟨key h u, key (fun u => (h u).symm) u⟩)
  exact (List.map_inj_right (fun a b => blW_inj)).1 h1
theorem nodup_bls {x : List ByteArray} (h : (blsW x).Nodup) : x.Nodup := by
  unfold blsW at h
  unfold List.Nodup at *
  rw [List.pairwise_map] at h
  exact h.imp (fun h e => h (by rw [e]))
theorem SortedS.nodup {x : List ByteArray} (hx : SortedS x) : x.Nodup := nodup_bls (SortedW.nodup hx)
theorem SortedS.nil : SortedS [] := List.Pairwise.nil
theorem lessS_same {u v : ByteArray} (h : u.size = v.size) : lessS u v = Op.bytesLess u.toList v.toList := by
  have h1 : (blW u).length = (blW v).length := h
  unfold lessS ltW
  rw [bytesLess_eq, Lib.toList_data, Lib.toList_data]
  unfold blW at *
  simp [h1]
theorem lessS_other {u v : ByteArray} (h : ¬ u.size = v.size) : lessS u v = decide (u.size < v.size) := by
  have h1 : ¬ (blW u).length = (blW v).length := h
  have h2 : (blW u).length = u.size := rfl
  have h3 : (blW v).length = v.size := rfl
  unfold lessS ltW
  simp [h1]
  rw [h2, h3]
set_option maxHeartbeats 400000 in
theorem specIsLess_any (u v : ByteArray) (w : World) (hu : u.size ≤ maxLen) (hv : v.size ≤ maxLen) :
    Calls Tryz.prog 136 #[.string u, .string v] w fun e w' => e = .returned (.bool (lessS u v)) ∧ w = w' := by
  unfold maxLen at hu hv
  by_cases h : u.size = v.size
  · have F := Lib.hid (lessS_same h)
    have h1 : ((u.size : Int) == (v.size : Int)) = true := by simp [h]
    have h2 : ((u.size : Int) != (v.size : Int)) = false := by simp [h]
    clear h
    go_enter Tryz.func136, Tryz.ntmps136
    go_wp2_with fail
    go_ret
    exact ⟨ret_bool F.out.symm, rfl⟩
  · have F := Lib.hid (lessS_other h)
    have h1 : ((u.size : Int) == (v.size : Int)) = false := by rw [beq_eq_false_iff_ne]; omega
    have h2 : ((u.size : Int) != (v.size : Int)) = true := by rw [bne_iff_ne]; omega
    go_enter Tryz.func136, Tryz.ntmps136
    go_wp2_with fail
    go_ret
    exact ⟨ret_bool F.out.symm, rfl⟩
/-- a word comes to its place -/
def insS (x : ByteArray) (q : List ByteArray) (k : Nat) : List ByteArray := q.take k ++ [x] ++ q.drop k
theorem insS_bls (x : ByteArray) (q : List ByteArray) (k : Nat) : blsW (insS x q k) = insK (blW x) (blsW q) k := by
  unfold insS insK blsW
  rw [List.map_append, List.map_append, List.map_take, List.map_drop]; rfl
theorem insS_mem {x : ByteArray} {q : List ByteArray} {k : Nat} (u : ByteArray) : u ∈ insS x q k ↔ u ∈ q ∨ u = x := by
  rw [← blsW_mem, insS_bls, insK_mem, blsW_mem]
  exact ⟨fun h => h.imp id blW_inj, fun h => h.imp id (fun e => by rw [e])⟩
theorem insS_len {x : ByteArray} {q : List ByteArray} {k : Nat} (hk : k ≤ q.length) : (insS x q k).length = q.length + 1 := by
  have h := insK_len (w := blW x) (l := blsW q) (k := k) (by rw [blsW_len]; exact hk)
  rwa [← insS_bls, blsW_len, blsW_len] at h
theorem insS_sorted {x : ByteArray} {q : List ByteArray} {k : Nat} (hq : SortedS q) (hx : ¬ x ∈ q) (hk : k ≤ q.length) (hlo : ∀ i, i < k → lessS (nthS q i) x = true) (hhi : k < q.length → lessS (nthS q k) x = false) : SortedS (insS x q k) := by
  unfold SortedS
  rw [insS_bls]
  refine insK_sorted hq (fun h => hx (blsW_mem.1 h)) (by rw [blsW_len]; exact hk) (fun i h hi => ?_) (fun h => ?_)
  · rw [blsW_len] at h; rw [blsW_nth h]; exact hlo i hi
  · rw [blsW_len] at h; rw [blsW_nth h]; exact hhi h
/-- what a call hands back: the sorted set of the words that have a property -/
def RetSet (P : ByteArray → Prop) (w : World) (e : Ending) (w' : World) : Prop := ∃ q, SortedS q ∧ (∀ u, u ∈ q ↔ P u) ∧ RetSl 9 1 q.length (strVals q) w e w'
theorem owns_cap {w : World} {base : Nat} {T : TypeId} {size n m cap : Nat} {a : Option Addr} {xs : List Value} (h : w.ownsRow base T size (.slice a m cap) n xs) : n ≤ cap ∧ cap ≤ maxLen := by
  rcases h.2 with ⟨hv, h0⟩ | ⟨g, cap', cur, hv, hb, hg, hn, hc, hs, ht⟩
  · cases hv; exact ⟨by omega, by unfold maxLen; omega⟩
  · cases hv; exact ⟨hn, hc⟩
theorem owns_someS {w : World} {base : Nat} {T : TypeId} {v : Value} {n : Nat} {xs : List Value} (h : w.ownsRow base T 1 v n xs) (h0 : 0 < n) : ∃ g cap, v = .slice (some ⟨g, 0, none⟩) n cap := by
  rcases h.2 with ⟨hv, h1⟩ | ⟨g, cap', cur, hv, _⟩
  · omega
  · exact ⟨g, cap', hv⟩
/-- the state of the sort: the first j have come to their places -/
def StSort (xs : List ByteArray) (w : World) (v : Value) (j : Nat) (wr : World) : Prop := ∃ q g cap, v = .slice (some ⟨g, 0, none⟩) q.length cap ∧ SortedS q ∧ (∀ u, u ∈ q ↔ u ∈ xs.take j) ∧ q.length = j ∧ Bld 9 1 w wr v q.length (strVals q)
theorem strVals_one (l : List ByteArray) : ∀ u ∈ strVals l, u.oneCell' = true := fun u hu => by
  obtain ⟨x, _, rfl⟩ := List.mem_map.1 hu; rfl
theorem take_mem {l : List ByteArray} {j : Nat} (h : j < l.length) (u : ByteArray) : u ∈ l.take (j + 1) ↔ u ∈ l.take j ∨ u = nthS l j := by
  rw [List.take_succ_eq_append_getElem h, List.mem_append, List.mem_singleton, nthS_lt h]
theorem nodup_take {l : List ByteArray} (hn : l.Nodup) {j : Nat} (h : j < l.length) : ¬ nthS l j ∈ l.take j := fun hm => by
  rw [nthS_lt h] at hm
  obtain ⟨i, hi, he⟩ := List.getElem_of_mem hm
  rw [List.length_take] at hi
  rw [List.getElem_take] at he
  exact (List.pairwise_iff_getElem.1 hn) i j (by omega) h (by omega) he
end Go.Proofs.YtngbimgabcacpaaGreat
namespace Go.Proofs.YtngbimgabcacpaaGreat
open Go.RowKit Go.Sort
set_option linter.unusedVariables false
/-- cmp.Compare at strings -/
def cmpS (a b : List UInt8) : Int := if Op.bytesLess a b = true then -1 else if (a == b) = true then 0 else 1
/-- cmp.Or at two integers -/
def orF (x y : Int) : Int := if (x == 0) = true then y else x
/-- compareWords -/
def cfW (a b : ByteArray) : Int := orF (Lib.compareInt (a.size : Int) (b.size : Int)) (cmpS a.toList b.toList)
end Go.Proofs.YtngbimgabcacpaaGreat
namespace Go.Proofs.YtngbimgabcacpaaGreat
open Go.RowKit
set_option linter.unusedVariables false
end Go.Proofs.YtngbimgabcacpaaGreat
namespace Go.Proofs.YtngbimgabcacpaaGreat
open Go.RowKit
set_option linter.unusedVariables false
def sideP (k : Int) (r : RulD) : Prop := (wordOkB k r.1 = true ∧ wordOkB k r.2 = true) ∧ r.1.size ≤ 8 ∧ r.2.size ≤ 8
def ruleP (k : Int) (r : RulD) : Prop := sideP k r ∧ r.1.size ≠ 0
def rulesP (k : Int) (R : List RulD) : Prop := ((1 ≤ k ∧ k ≤ 4) ∧ R.length ≤ 12) ∧ ∀ r ∈ R, ruleP k r
def sysP (k : Int) (R : List RulD) : Prop := rulesP k R ∧ ∀ r ∈ R, lessS r.2 r.1 = true
/-- what is asked of a system's rules so that they can be measured -/
def SzR (R : List RulD) : Prop := ∀ j, j < R.length → (nthR R j).1.size ≤ maxLen ∧ (nthR R j).2.size ≤ maxLen
theorem cfW_less (a b : ByteArray) : decide (cfW a b < 0) = lessS a b := by
  have h1 : (blW a).length = a.size := rfl
  have h2 : (blW b).length = b.size := rfl
  have h3 : a.toList = blW a := Lib.toList_data a
  have h4 : b.toList = blW b := Lib.toList_data b
  unfold cfW orF cmpS Lib.compareInt lessS ltW
  rw [h3, h4, ← h1, ← h2, bytesLess_eq]
  generalize blW a = x
  generalize blW b = y
  by_cases a1 : x.length < y.length
  · simp [a1]
  · by_cases a2 : y.length < x.length
    · have a3 : ¬ x.length = y.length := by omega
      simp [a1, a2, a3]
    · have a3 : x.length = y.length := by omega
      by_cases a4 : x < y
      · simp [a3, a4]
      · by_cases a5 : x = y
        · subst a5
          simp [List.lt_irrefl]
        · simp [a3, a4, a5]
/-- a function value that tells q of each rule, in every world that is as w below block B -/
def PredR (B : Nat) (g : Nat) (caps : Array Value) (q : RulD → Prop) (l : List RulD) (w : World) : Prop :=
  ∀ j, j < l.length → ∀ W, Below B w W → Calls Tryz.prog g (#[.agg #[.string (nthR l j).1, .string (nthR l j).2]] ++ caps) W (RetP (q (nthR l j)) W)
def RetIx (P : Prop) (w : World) (e : Ending) (w' : World) : Prop := ∃ i : Int, (0 ≤ i ↔ P) ∧ e = .returned (.int .i64 i) ∧ Below w.heap.size w w'
set_option maxHeartbeats 1000000 in
theorem specSidesOk_any (k : Int) (x y : ByteArray) (w : World) (hx : x.size ≤ maxLen) (hy : y.size ≤ maxLen) :
    Calls Tryz.prog 120 #[.int .i64 k, .agg #[.string x, .string y]] w (RetP (sideP k (x, y)) w) := by
  have HX := Lib.hid (fun W => specWordOk_any k x W hx)
  have HY := Lib.hid (fun W => specWordOk_any k y W hy)
  unfold maxLen at hx hy
  have HP : Hid (sideP k (x, y) ↔ (wordOkB k x = true ∧ wordOkB k y = true) ∧ x.size ≤ 8 ∧ y.size ≤ 8) := Lib.hid Iff.rfl
  have HA : Hid (∀ W, Below W.heap.size W (W.alloc (.cells #[.string x, .string y] 90))) := Lib.hid (fun W => (Below.refl _ _).alloc (Nat.le_refl _) _)
  generalize sideP k (x, y) = pp at *
  cases h1 : wordOkB k x
  · have F : Hid (RetP pp w (.returned (.bool false)) (w.alloc (.cells #[.string x, .string y] 90))) := Lib.hid (RetP.no (fun h => by have := (HP.out.1 h).1.1; rw [h1] at this; cases this) (HA.out _))
    rw [h1] at HX
    clear h1 HP
    go_enter Tryz.func120, Tryz.ntmps120
    go_wp2_with (go_at_call 118; refine (HX.out _).mono ?_; rintro e w' ⟨rfl, rfl⟩)
    go_ret
    exact F.out
  · cases h2 : wordOkB k y
    · have F : Hid (RetP pp w (.returned (.bool false)) (w.alloc (.cells #[.string x, .string y] 90))) := Lib.hid (RetP.no (fun h => by have := (HP.out.1 h).1.2; rw [h2] at this; cases this) (HA.out _))
      rw [h1] at HX
      rw [h2] at HY
      clear h1 h2 HP
      go_enter Tryz.func120, Tryz.ntmps120
      go_wp2_with fail
      refine (HX.out _).mono ?_
      rintro e w' ⟨rfl, rfl⟩
      go_wp2_with fail
      refine (HY.out _).mono ?_
      rintro e w' ⟨rfl, rfl⟩
      go_wp2_with fail
      go_ret
      exact F.out
    · by_cases h3 : x.size ≤ 8 ∧ y.size ≤ 8
      · have F : Hid (RetP pp w (.returned (.bool true)) (w.alloc (.cells #[.string x, .string y] 90))) := Lib.hid (RetP.yes (HP.out.2 ⟨⟨h1, h2⟩, h3⟩) (HA.out _))
        obtain ⟨h3, h4⟩ := h3
        rw [h1] at HX
        rw [h2] at HY
        clear h1 h2 HP
        have n1 : (x.size : Int) ≤ 8 := by omega
        have n2 : (y.size : Int) ≤ 8 := by omega
        go_enter Tryz.func120, Tryz.ntmps120
        go_wp2_with fail
        refine (HX.out _).mono ?_
        rintro e w' ⟨rfl, rfl⟩
        go_wp2_with fail
        refine (HY.out _).mono ?_
        rintro e w' ⟨rfl, rfl⟩
        go_wp2_with fail
        go_ret
        exact F.out
      · have F : Hid (RetP pp w (.returned (.bool false)) (w.alloc (.cells #[.string x, .string y] 90))) := Lib.hid (RetP.no (fun h => h3 (HP.out.1 h).2) (HA.out _))
        rw [h1] at HX
        rw [h2] at HY
        clear h1 h2 HP
        by_cases h4 : (x.size : Int) ≤ 8
        · have n2 : decide ((y.size : Int) ≤ 8) = false := decide_eq_false (by omega)
          go_enter Tryz.func120, Tryz.ntmps120
          go_wp2_with fail
          refine (HX.out _).mono ?_
          rintro e w' ⟨rfl, rfl⟩
          go_wp2_with fail
          refine (HY.out _).mono ?_
          rintro e w' ⟨rfl, rfl⟩
          go_wp2_with fail
          go_ret
          exact F.out
        · go_enter Tryz.func120, Tryz.ntmps120
          go_wp2_with fail
          refine (HX.out _).mono ?_
          rintro e w' ⟨rfl, rfl⟩
          go_wp2_with fail
          refine (HY.out _).mono ?_
          rintro e w' ⟨rfl, rfl⟩
          go_wp2_with fail
          go_ret
          exact F.out
theorem size_zero0 {u : ByteArray} (h : u.size = 0) : u = ⟨#[]⟩ := by
  obtain ⟨⟨x⟩⟩ := u
  cases x with
  | nil => rfl
  | cons a t => simp [ByteArray.size] at h
theorem alloc_belowS (w : World) (o : Obj) : Below w.heap.size w (w.alloc o) := (Below.refl _ _).alloc (Nat.le_refl _) _
/-- the cells of a block that holds a system -/
theorem sys_cells {W : World} {g : Nat} {u v : Value} {T : TypeId} (h : W.heap[g]? = some (.cells #[u, v] T (0, 0))) : W.cell? ⟨g, 0, none⟩ = some u ∧ W.cell? ⟨g, 1, none⟩ = some v := by
  refine ⟨by simp [World.cell?, h], by simp [World.cell?, h]⟩
set_option maxRecDepth 20000 in
set_option maxHeartbeats 1000000 in
theorem specRulesOk_any (k : Int) (l : List RulD) (a : Option Addr) (cap : Nat) (w : World) (hl : RulesIn w a l) (hlen : l.length ≤ 2 ^ 40) (hz : SzR l) :
    Calls Tryz.prog 94 #[.agg #[.int .i64 k, .slice a l.length cap]] w (RetP (rulesP k l) w) := by
  have HL := Lib.hid hl
  have HZ := Lib.hid hz
  have P1 := Lib.hid (fun W => l01In_any k 1 4 W)
  clear hl hz
  cases hb : inB k 1 4
  · have F : Hid (¬ rulesP k l) := Lib.hid (fun h => by have := h.1.1; simp [inB] at hb; omega)
    rw [hb] at P1
    clear hb
    go_enter Tryz.func94, Tryz.ntmps94
    go_wp2_with (go_at_call 97; refine (P1.out _).mono ?_; rintro e w' ⟨rfl, rfl⟩)
    go_ret
    exact RetP.no F.out ((Below.refl _ _).alloc (Nat.le_refl _) _)
  · have hb2 := inB_bounds hb
    rw [hb] at P1
    clear hb
    by_cases h12 : l.length ≤ 12
    · have n1 : ¬ (12 : Int) < (l.length : Int) := by omega
      have HST : Hid (∀ W : World, Below W.heap.size W (W.alloc (.cells #[.int .i64 k, .slice a l.length cap] 68))) := Lib.hid (fun W => (Below.refl _ _).alloc (Nat.le_refl _) _)
      have HB0 : Hid ((w.alloc (.cells #[.int .i64 k, .slice a l.length cap] 68)).heap[w.heap.size]? = some (.cells #[.int .i64 k, .slice a l.length cap] 68 (0, 0))) := Lib.hid (alloc_at _ _)
      go_enter Tryz.func94, Tryz.ntmps94
      go_wp2_with (go_at_call 97; refine (P1.out _).mono ?_; rintro e w' ⟨rfl, rfl⟩)
      clear P1 n1
      go_loopw [18] (fun i wr => ∃ j : Nat, j ≤ l.length ∧ i = .int .i64 (j : Nat) ∧ Hid (∀ j', j' < j → ruleP k (nthR l j')) ∧ Below (w.alloc (.cells #[.int .i64 k, .slice a l.length cap] 68)).heap.size (w.alloc (.cells #[.int .i64 k, .slice a l.length cap] 68)) wr) (fun i _ => l.length - (intOf i).toNat)
      case atStart => exact ⟨0, Nat.zero_le _, rfl, Lib.hid (fun j' h => absurd h (Nat.not_lt_zero _)), Below.refl _ _⟩
      case round =>
        obtain ⟨j, hj, rfl, hall, hbw⟩ := hrel
        have hbw1 := Below.now (HST.out w) hbw
        have hs0 := hbw.size
        have hb0 := (hbw.block w.heap.size (by simp)).trans HB0.out
        obtain ⟨s0, s1⟩ := sys_cells hb0
        have s0a : ∀ o, (wr.alloc o).cell? ⟨w.heap.size, 0, none⟩ = some (.int .i64 k) := fun o => by rw [(alloc_belowS wr o).cell (World.block_lt_of_cell? wr _ s0)]; exact s0
        have HBW := Lib.hid hbw
        clear hb0
        by_cases hlt : j < l.length
        · obtain ⟨b, off, rfl, hb, hc⟩ := (HL.out.later hbw1).cell hlt
          obtain ⟨c1, c2⟩ := hc j hlt
          obtain ⟨z1, z2⟩ := HZ.out j hlt
          have HR : Hid (ruleP k (nthR l j) ↔ sideP k ((nthR l j).1, (nthR l j).2) ∧ (nthR l j).1.size ≠ 0) := Lib.hid Iff.rfl
          have HNO : Hid (¬ ruleP k (nthR l j) → ¬ rulesP k l) := Lib.hid (fun h h2 => h (h2.2 _ (nthR_mem hlt)))
          have HYE : Hid (ruleP k (nthR l j) → ∀ j', j' < j + 1 → ruleP k (nthR l j')) := Lib.hid (fun h j' hj' => by
            by_cases e : j' = j
            · rw [e]; exact h
            · exact hall.out j' (by omega))
          clear hc hbw
          generalize ruleP k (nthR l j) = pp at *
          generalize (nthR l j).1 = x at *
          generalize (nthR l j).2 = y at *
          have HSD := Lib.hid (fun W => specSidesOk_any k x y W z1 z2)
          generalize sideP k (x, y) = sp at *
          go_wp2_with fail
          refine (HSD.out _).mono ?_
          rintro e w2 ⟨bb, hbb, rfl, hb2⟩
          have HBB := Lib.hid hbb
          have hw1s : (wr.alloc (.cells #[.string x, .string y] 90)).heap.size = wr.heap.size + 1 := by simp
          have hcx : w2.cell? ⟨wr.heap.size, 0, none⟩ = some (.string x) := by rw [hb2.cell (by simp)]; simp [World.cell?_alloc_new]
          have HW2 : Hid (Below (w.alloc (.cells #[.int .i64 k, .slice (some ⟨b, off, none⟩) l.length cap] 68)).heap.size (w.alloc (.cells #[.int .i64 k, .slice (some ⟨b, off, none⟩) l.length cap] 68)) w2) := Lib.hid (Below.now (HBW.out.alloc HBW.out.size _) hb2)
          clear hbb hb2 HSD s0 s0a s1 c1 c2 hw1s
          cases bb
          · have F := Lib.hid (HNO.out (fun h => by have := HBB.out.2 (HR.out.1 h).1; cases this))
            go_wp2_with fail
            go_ret
            exact RetP.no F.out (Below.now (HST.out w) HW2.out)
          · by_cases h0 : x.size = 0
            · have F := Lib.hid (HNO.out (fun h => (HR.out.1 h).2 h0))
              have n1 : (x.toList == []) = true := by rw [size_zero0 h0, Lib.toList_data]; rfl
              have n3 : x.toList = [] := by rw [size_zero0 h0, Lib.toList_data]
              clear h0
              go_wp2_with fail
              go_ret
              exact RetP.no F.out (Below.now (HST.out w) HW2.out)
            · have F := Lib.hid (HYE.out (HR.out.2 ⟨HBB.out.1 rfl, h0⟩))
              have hne : x.toList ≠ [] := fun h => h0 (by
                have h2 : x.data.toList = [] := by rw [← Lib.toList_data]; exact h
                have h3 : x.data.toList.length = 0 := by rw [h2]; rfl
                exact h3)
              have n1 : (x.toList == []) = false := by rw [beq_eq_false_iff_ne]; exact hne
              have n3 : x.toList.isEmpty = false := by rw [List.isEmpty_eq_false_iff]; exact hne
              clear h0 hne
              go_wp2_with fail
              go_roundw
              case rel => exact ⟨j + 1, by omega, by go_num, F, HW2.out⟩
              case measure => simp [intOf]; omega
        · have F : Hid (rulesP k l) := Lib.hid ⟨⟨hb2, h12⟩, fun r hr => by
            obtain ⟨i, hi, rfl⟩ := mem_nthR hr
            exact hall.out i (by omega)⟩
          go_wp2_with fail
          go_ret
          exact RetP.yes F.out hbw1
    · have F : Hid (¬ rulesP k l) := Lib.hid (fun h => h12 h.1.2)
      have n1 : (12 : Int) < (l.length : Int) := by omega
      clear h12
      go_enter Tryz.func94, Tryz.ntmps94
      go_wp2_with (go_at_call 97; refine (P1.out _).mono ?_; rintro e w' ⟨rfl, rfl⟩)
      go_ret
      exact RetP.no F.out ((Below.refl _ _).alloc (Nat.le_refl _) _)
end Go.Proofs.YtngbimgabcacpaaGreat
namespace Go.Proofs.YtngbimgabcacpaaGreat
open Go.RowKit
set_option linter.unusedVariables false
theorem empty_facts {x : ByteArray} (h : x.size = 0) : (x.toList == []) = true ∧ x.toList = [] := by
  rw [size_zero0 h, Lib.toList_data]; exact ⟨rfl, rfl⟩
theorem full_facts {x : ByteArray} (h : ¬ x.size = 0) : (x.toList == []) = false ∧ x.toList.isEmpty = false := by
  have hne : x.toList ≠ [] := fun h1 => h (by
    have h2 : x.data.toList = [] := by rw [← Lib.toList_data]; exact h1
    have h3 : x.data.toList.length = 0 := by rw [h2]; rfl
    exact h3)
  exact ⟨by rw [beq_eq_false_iff_ne]; exact hne, by rw [List.isEmpty_eq_false_iff]; exact hne⟩
theorem rulesP_iff {k : Int} {l : List RulD} (h1 : 1 ≤ k ∧ k ≤ 4) (h2 : l.length ≤ 12) : rulesP k l ↔ ¬ ∃ r ∈ l, ¬ ruleP k r := by
  constructor
  · rintro h ⟨r, hr, hn⟩; exact hn (h.2 r hr)
  · intro h; exact ⟨⟨h1, h2⟩, fun r hr => Classical.byContradiction fun hn => h ⟨r, hr, hn⟩⟩
theorem sysP_iff {k : Int} {l : List RulD} (h : rulesP k l) : sysP k l ↔ ¬ ∃ r ∈ l, ¬ lessS r.2 r.1 = true := by
  constructor
  · rintro h ⟨r, hr, hn⟩; exact hn (h.2 r hr)
  · intro h2; exact ⟨h, fun r hr => Classical.byContradiction fun hn => h2 ⟨r, hr, hn⟩⟩
set_option maxRecDepth 20000 in
set_option maxHeartbeats 1000000 in
theorem specSystemOk_any (k : Int) (l : List RulD) (a : Option Addr) (cap : Nat) (w : World) (hl : RulesIn w a l) (hlen : l.length ≤ 2 ^ 40) (hz : SzR l) :
    Calls Tryz.prog 121 #[.agg #[.int .i64 k, .slice a l.length cap]] w (RetP (sysP k l) w) := by
  have HL := Lib.hid hl
  have HZ := Lib.hid hz
  have HR := Lib.hid (fun W h => specRulesOk_any k l a cap W h hlen hz)
  have HA := Lib.hid (fun o => alloc_belowS w o)
  clear hl hz
  go_enter Tryz.func121, Tryz.ntmps121
  go_wp2_with fail
  refine (HR.out _ (HL.out.later (HA.out _))).mono ?_
  rintro e w2 ⟨bb, hbb, rfl, hb2⟩
  have HBB := Lib.hid hbb
  have hb0 := (hb2.block w.heap.size (by simp)).trans (alloc_at w (.cells #[.int .i64 k, .slice a l.length cap] 68))
  obtain ⟨s0, s1⟩ := sys_cells hb0
  have HW2 := Lib.hid (Below.now (HA.out _) hb2)
  clear hbb hb2 HR hb0
  cases bb
  · have F : Hid (RetP (sysP k l) w (.returned (.bool false)) w2) := Lib.hid (RetP.no (fun h => by have := HBB.out.2 h.1; cases this) HW2.out)
    go_wp2_with fail
    go_ret
    exact F.out
  · have HRP := Lib.hid (HBB.out.1 rfl)
    clear HBB
    go_wp2_with fail
    clear s0 s1
    go_loopw [11] (fun i wr => ∃ j : Nat, j ≤ l.length ∧ i = .int .i64 (j : Nat) ∧ Hid (∀ j', j' < j → lessS (nthR l j').2 (nthR l j').1 = true) ∧ Below w.heap.size w wr) (fun i _ => l.length - (intOf i).toNat)
    case atStart => exact ⟨0, Nat.zero_le _, rfl, Lib.hid (fun j' h => absurd h (Nat.not_lt_zero _)), HW2.out⟩
    case round =>
      obtain ⟨j, hj, rfl, hall, hbw⟩ := hrel
      have HBW := Lib.hid hbw
      by_cases hlt : j < l.length
      · obtain ⟨b, off, rfl, hb, hc⟩ := (HL.out.later hbw).cell hlt
        obtain ⟨c1, c2⟩ := hc j hlt
        obtain ⟨z1, z2⟩ := HZ.out j hlt
        have HNO : Hid (¬ lessS (nthR l j).2 (nthR l j).1 = true → ¬ sysP k l) := Lib.hid (fun h h2 => h (h2.2 _ (nthR_mem hlt)))
        have HYE : Hid (lessS (nthR l j).2 (nthR l j).1 = true → ∀ j', j' < j + 1 → lessS (nthR l j').2 (nthR l j').1 = true) := Lib.hid (fun h j' hj' => by
          by_cases e : j' = j
          · rw [e]; exact h
          · exact hall.out j' (by omega))
        clear hc hbw
        generalize (nthR l j).1 = x at *
        generalize (nthR l j).2 = y at *
        have HLS := Lib.hid (fun W => specIsLess_any y x W z2 z1)
        cases hq : lessS y x
        · have F := Lib.hid (HNO.out (by rw [hq]; simp))
          rw [hq] at HLS
          clear hq HNO HYE
          go_wp2_with (go_at_call 136; refine (HLS.out _).mono ?_; rintro e w' ⟨rfl, rfl⟩)
          go_ret
          exact RetP.no F.out (HBW.out.alloc HBW.out.size _)
        · have F := Lib.hid (HYE.out hq)
          rw [hq] at HLS
          clear hq HNO HYE
          go_wp2_with (go_at_call 136; refine (HLS.out _).mono ?_; rintro e w' ⟨rfl, rfl⟩)
          go_roundw
          case rel => exact ⟨j + 1, by omega, by go_num, F, HBW.out.alloc HBW.out.size _⟩
          case measure => simp [intOf]; omega
      · have F : Hid (sysP k l) := Lib.hid ⟨HRP.out, fun r hr => by
          obtain ⟨i, hi, rfl⟩ := mem_nthR hr
          exact hall.out i (by omega)⟩
        go_wp2_with fail
        go_ret
        exact RetP.yes F.out HBW.out
/-- the length of the longest Left of the first j rules -/
def lsTo (l : List RulD) : Nat → Nat
  | 0 => 0
  | j + 1 => max (lsTo l j) (nthR l j).1.size
def lsL (l : List RulD) : Nat := lsTo l l.length
theorem lsTo_le {l : List RulD} (hz : SzR l) : ∀ j, j ≤ l.length → lsTo l j ≤ maxLen
  | 0, _ => by unfold lsTo maxLen; omega
  | j + 1, h => by
    have h1 := lsTo_le hz j (by omega)
    have h2 := (hz j (by omega)).1
    show max _ _ ≤ _
    omega
set_option maxRecDepth 20000 in
set_option maxHeartbeats 1000000 in
theorem specLongestSide_any (k : Int) (l : List RulD) (a : Option Addr) (cap : Nat) (w : World) (hl : RulesIn w a l) (hlen : l.length ≤ 2 ^ 40) (hz : SzR l) :
    Calls Tryz.prog 146 #[.agg #[.int .i64 k, .slice a l.length cap]] w fun e w' => e = .returned (.int .i64 (lsL l : Nat)) ∧ Below w.heap.size w w' := by
  have HL := Lib.hid hl
  have HZ := Lib.hid hz
  have HA := Lib.hid (fun o => alloc_belowS w o)
  clear hl hz
  go_enter Tryz.func146, Tryz.ntmps146
  go_wp2_with fail
  go_loopw [3, 9] (fun v i wr => ∃ j m : Nat, j ≤ l.length ∧ i = .int .i64 (j : Nat) ∧ v = .int .i64 (m : Nat) ∧ Hid (m = lsTo l j) ∧ m ≤ 9223372036854775807 ∧ Below w.heap.size w wr) (fun _ i _ => l.length - (intOf i).toNat)
  case atStart => exact ⟨0, 0, Nat.zero_le _, rfl, rfl, Lib.hid rfl, by omega, HA.out _⟩
  case round =>
    obtain ⟨j, m, hj, rfl, rfl, hm, hm9, hbw⟩ := hrel
    have HBW := Lib.hid hbw
    by_cases hlt : j < l.length
    · obtain ⟨b, off, rfl, hb, hc⟩ := (HL.out.later hbw).cell hlt
      obtain ⟨c1, c2⟩ := hc j hlt
      obtain ⟨z1, z2⟩ := HZ.out j hlt
      have F : Hid (lsTo l (j + 1) = max (lsTo l j) (nthR l j).1.size) := Lib.hid rfl
      rw [← hm.out] at F
      unfold maxLen at z1
      clear hc hbw
      generalize (nthR l j).1 = x at *
      generalize (nthR l j).2 = y at *
      have HMX : Hid (((max m x.size : Nat) : Int) = max (m : Int) (x.size : Int)) := Lib.hid (by omega)
      have hmx : max m x.size ≤ 9223372036854775807 := by omega
      go_wp2_with fail
      go_roundw
      case rel => exact ⟨j + 1, max m x.size, by omega, by go_num, by first | (rw [HMX.out]) | (simp; omega), Lib.hid F.out.symm, hmx, HBW.out.alloc HBW.out.size _⟩
      case measure => simp [intOf]; omega
    · obtain rfl : j = l.length := by omega
      have F : Hid ((m : Int) = (lsL l : Nat)) := Lib.hid (by rw [hm.out]; rfl)
      go_wp2_with fail
      go_ret
      exact ⟨ret_int F.out, HBW.out⟩
end Go.Proofs.YtngbimgabcacpaaGreat
