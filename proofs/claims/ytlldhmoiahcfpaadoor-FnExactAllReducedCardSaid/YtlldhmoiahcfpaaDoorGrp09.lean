/-
  From a walk to a law's row: arguments read as they did, the answer is true.
-/
import Derived.Test.YtlldhmoiahcfpaaDoorGrp04
import Derived.Test.YtlldhmoiahcfpaaDoorGrp05
import Derived.Test.YtlldhmoiahcfpaaDoorGrp01
import Derived.ProofKit
import Derived.OpenShut
import Derived.Lib.SmallJoins
namespace Go.Proofs.YtlldhmoiahcfpaaDoor
open Go.RowKit
set_option linter.unusedVariables false
theorem Tryd.infoStr : (Tryd.prog.info? 9).map (fun i => (i.zero, i.size, i.bytes)) = some (some (.string ⟨#[]⟩), 1, 16) := by kernel_rfl
theorem nil_app (x : ByteArray) : (⟨#[]⟩ : ByteArray) ++ x = x := by ext1; simp
def strVals (l : List ByteArray) : List Value := l.map Value.string
theorem strVals_len (l : List ByteArray) : (strVals l).length = l.length := by simp [strVals]
theorem owns_strs {w : World} {base : Nat} {T : TypeId} {size : Nat} {a : Option Addr} {n m cap : Nat} {l : List ByteArray} (h : w.ownsRow base T size (.slice a m cap) n (strVals l)) : StrsIn w a l := owns_cells h
theorem owns_capS {w : World} {base : Nat} {T : TypeId} {size : Nat} {a : Option Addr} {n m cap : Nat} {xs : List Value} (h : w.ownsRow base T size (.slice a n cap) m xs) : n ≤ cap ∧ cap ≤ maxLen := by
  rcases h.2 with ⟨hv, h0⟩ | ⟨g, cap', cur, hv, hb, hg, hn, hc, r⟩
  · simp only [Value.slice.injEq] at hv
    obtain ⟨_, rfl, rfl⟩ := hv
    exact ⟨Nat.le_refl _, Nat.zero_le _⟩
  · simp only [Value.slice.injEq] at hv
    obtain ⟨_, rfl, rfl⟩ := hv
    exact ⟨hn, hc⟩
set_option maxHeartbeats 400000 in
theorem implJoin_any (l : List ByteArray) (sep : ByteArray) (a : Option Addr) (cap : Nat) (w : World) (hl : StrsIn w a l) (hs0 : 0 < sep.size) (hs1 : sep.size ≤ 1000) (hlen : l.length ≤ 2 ^ 40) (hcap : l.length ≤ cap ∧ cap ≤ maxLen)
    (hsz : (joinF l sep).size ≤ 2 ^ 46) :
    Calls Tryd.prog 42 #[.slice a l.length cap, .string sep] w fun e w' => e = .returned (.string (joinF l sep)) ∧ Below w.heap.size w w' := by
  have HJ := Lib.hid (join_any l sep a cap w hl hs0 hs1 hlen hcap hsz)
  clear hl hsz
  go_enter Tryd.func42, Tryd.ntmps42
  go_wp2_with fail
  refine HJ.out.mono ?_
  rintro e w2 ⟨rfl, hb2⟩
  go_wp2_with fail
  go_ret
  exact ⟨rfl, hb2⟩
set_option maxHeartbeats 1000000 in
theorem specJoin_any (l : List ByteArray) (sep : ByteArray) (a : Option Addr) (cap : Nat) (w : World) (hl : StrsIn w a l) (hs1 : sep.size ≤ 1000) (hlen : l.length ≤ 2 ^ 40) (hsz : (joinF l sep).size ≤ 2 ^ 46) :
    Calls Tryd.prog 38 #[.slice a l.length cap, .string sep] w fun e w' => e = .returned (.string (joinF l sep)) ∧ Below w.heap.size w w' := by
  have HL := Lib.hid hl
  have HZ := Lib.hid hsz
  clear hl hsz
  go_enter Tryd.func38, Tryd.ntmps38
  go_wp2_with fail
  go_loopw [5, 10] (fun s i wr => ∃ j : Nat, j ≤ l.length ∧ i = .int .i64 j ∧ s = .string (joinTo l sep j) ∧ wr = w) (fun _ i _ => l.length - (intOf i).toNat)
  case atStart => exact ⟨0, Nat.zero_le _, rfl, rfl, rfl⟩
  case round =>
    obtain ⟨j, hj, rfl, rfl, rfl⟩ := hrel
    by_cases hlt : j < l.length
    · obtain ⟨b, off, rfl, hb, hc⟩ := HL.out.cell hlt
      have c1 := hc j hlt
      have hm1 : (joinTo l sep (j + 1)).size ≤ 2 ^ 46 := Nat.le_trans (joinTo_mono l sep hlt) HZ.out
      clear hc
      rcases Nat.eq_zero_or_pos j with rfl | h0
      · have F := Lib.hid (joinTo_one l sep)
        have F0 : Hid (joinTo l sep 0 = ⟨#[]⟩) := Lib.hid rfl
        rw [Nat.zero_add, F.out] at hm1
        rw [F0.out]
        rw [Nat.add_zero] at c1
        go_wp2_with fail
        go_roundw
        case rel => exact ⟨1, by omega, by go_num, by rw [F.out, nil_app], trivial⟩
        case measure => simp [intOf]; omega
      · have F := Lib.hid (joinTo_succ l sep h0)
        rw [F.out, ByteArray.size_append, ByteArray.size_append] at hm1
        generalize joinTo l sep j = out at *
        go_wp2_with fail
        go_roundw
        case rel => exact ⟨j + 1, by omega, by go_num, by rw [F.out], trivial⟩
        case measure => simp [intOf]; omega
    · obtain rfl : j = l.length := by omega
      have F : Hid (joinF l sep = joinTo l sep l.length) := Lib.hid rfl
      go_wp2_with fail
      go_ret
      exact ⟨ret_str F.out.symm, Below.refl _ _⟩
/-- a full stop for the empty word -/
def dotB (s : ByteArray) : ByteArray := if s.toList.isEmpty = true then ⟨#[46]⟩ else s
theorem dotB_size (s : ByteArray) : (dotB s).size ≤ s.size + 1 := by
  unfold dotB
  split
  · show 1 ≤ _; omega
  · omega
end Go.Proofs.YtlldhmoiahcfpaaDoor
namespace Go.Proofs.YtlldhmoiahcfpaaDoor
open Go.RowKit
set_option linter.unusedVariables false
/-- the sizes of all -/
theorem sumTo_eq (l : List ByteArray) : ∀ j, j ≤ l.length → sumTo l j = ((l.take j).map ByteArray.size).sum
  | 0, _ => by simp [sumTo]
  | j + 1, h => by
    rw [sumTo, sumTo_eq l j (by omega), List.take_succ_eq_append_getElem (by omega), nthS_lt (by omega), List.map_append, List.sum_append]
    simp only [List.map_cons, List.map_nil, List.sum_cons, List.sum_nil, Nat.add_zero]
def strSum (l : List ByteArray) : Nat := (l.map ByteArray.size).sum
theorem joinF_size (l : List ByteArray) (sep : ByteArray) : (joinF l sep).size ≤ strSum l + sep.size * l.length := by
  unfold joinF
  cases h : l.length with
  | zero => exact Nat.zero_le _
  | succ n =>
    rw [joinTo_size, sumTo_eq l _ (by omega), List.take_of_length_le (by omega), Nat.mul_succ]
    unfold strSum
    omega
theorem strSum_dot (l : List ByteArray) : strSum (l.map dotB) ≤ strSum l + l.length := by
  unfold strSum
  induction l with
  | nil => simp
  | cons a l ih =>
    have := dotB_size a
    simp only [List.map_cons, List.sum_cons, List.length_cons] at *
    omega
/-- the first j of them with full stops -/
def dotTo (l : List ByteArray) (j : Nat) : List ByteArray := (l.take j).map dotB
theorem dotTo_len {l : List ByteArray} {j : Nat} (h : j ≤ l.length) : (dotTo l j).length = j := by simp [dotTo]; omega
theorem dotTo_succ {l : List ByteArray} {j : Nat} (h : j < l.length) : dotTo l (j + 1) = dotTo l j ++ [dotB (nthS l j)] := by
  unfold dotTo; rw [List.take_succ_eq_append_getElem h, nthS_lt h, List.map_append]; rfl
theorem dotTo_all (l : List ByteArray) : dotTo l l.length = l.map dotB := by unfold dotTo; rw [List.take_of_length_le (Nat.le_refl _)]
/-- FormatWords as a function of plain data -/
def fmtWords (l : List ByteArray) : ByteArray := if l.length = 0 then ⟨#[45]⟩ else joinF (l.map dotB) ⟨#[44]⟩
theorem fmtWords_zero {l : List ByteArray} (h : l.length = 0) : fmtWords l = ⟨#[45]⟩ := by simp [fmtWords, h]
theorem fmtWords_pos {l : List ByteArray} (h : 0 < l.length) : fmtWords l = joinF (dotTo l l.length) ⟨#[44]⟩ := by rw [dotTo_all]; simp [fmtWords, show ¬ l.length = 0 by omega]
theorem fmtWords_size {l : List ByteArray} (h : l.length ≤ 2 ^ 40) (h2 : strSum l ≤ 2 ^ 40) : (joinF (dotTo l l.length) ⟨#[44]⟩).size ≤ 2 ^ 46 := by
  have h1 := joinF_size (dotTo l l.length) ⟨#[44]⟩
  have h3 := strSum_dot l
  rw [dotTo_len (Nat.le_refl _)] at h1
  rw [dotTo_all] at h1 ⊢
  have : (ByteArray.mk #[44]).size = 1 := rfl
  rw [this] at h1
  omega
end Go.Proofs.YtlldhmoiahcfpaaDoor
namespace Go.Proofs.YtlldhmoiahcfpaaDoor
open Go.ChangeShapes Go.WideShapes Go.ChangeAt Go.RowKit Go.Joins Go.Deep
set_option linter.unusedVariables false
/-- all arguments read as they did, if below the old heap's size nothing has turned -/
theorem trodAll_below {H : Type} {enc : TypeId × Value → H} {P : Program} (hl : laidOutB P = true) {W W' : World} (hb : Below W.heap.size W W') :
    ∀ (ts : List TypeId) (vs : List Value) (ds : List (DataW H)) (ps : List MemPlace), (∀ t ∈ ts, P.readableRec t = true ∧ t < P.types.size) → (∀ x ∈ ps, x.block < W.heap.size) →
      DataW.TrodAll enc P W 0 (fun _ => true) true ts vs ds ps → DataW.TrodAll enc P W' 0 (fun b => decide (b < W.heap.size)) true ts vs ds ps
  | [], vs, ds, ps, _, _, h => by
    cases vs <;> cases ds <;> simp_all [DataW.TrodAll]
  | t :: ts, vs, ds, ps, hr, hp, h => by
    cases vs with
    | nil => cases ds <;> simp [DataW.TrodAll] at h
    | cons v vs =>
      cases ds with
      | nil => simp [DataW.TrodAll] at h
      | cons d ds =>
        obtain ⟨p, p', h1, h2, rfl⟩ := h
        exact ⟨p, p', Below.trod hl (hr t (by simp)).1 (hr t (by simp)).2 h1 hb (fun x hx => hp x (by simp [hx])),
          trodAll_below hl hb ts vs ds p' (fun t' ht' => hr t' (by simp [ht'])) (fun x hx => hp x (by simp [hx])) h2, rfl⟩
/-- what a law's row asks behind the walk -/
theorem law_post {H : Type} {enc : TypeId × Value → H} {P : Program} {f : Func} {s : ChangeSpec} {W W' : World} {args : Array Value} {ds : List (DataW H)} {before : List MemPlace} {tb : TypeId}
    (hl : laidOutB P = true) (hr : ∀ t ∈ f.params.toList, P.readableRec t = true ∧ t < P.types.size) (hv : s.vars = [])
    (hW : DataW.Whole enc P f.params.toList s.vars false W args.toList ds [] before) (hft : f.resultTypes = #[tb]) (htb : P.underlying tb = some .bool)
    (hfn : s.fn H (ds ++ []) = { results := [.lit (.bool true)], args := ds }) (hb : Below W.heap.size W W') :
    s.post enc P f false true false false W args (.bool true) W' := by
  have hW' := hW
  obtain ⟨p, q, hA0, hV, hpq, hfz, hnd⟩ := hW'
  rw [hv] at hV
  obtain ⟨_, rfl⟩ := trodVars_none hV
  simp only [List.append_nil] at hpq
  subst hpq
  have hlt : ∀ x ∈ before, x.block < W.heap.size := fun x hx => hW.lt x hx
  refine ⟨ds, [], before, [], before, [], hW, ?_, ?_, ?_, ?_, fun h => by cases h⟩
  · rw [hfn, hft]
    exact trodAll_cons_mk (shut_bool htb _) trodAll_mk0
  · rw [hfn]
    exact trodAll_below hl hb _ _ _ _ hr hlt hA0
  · rw [hfn, hv]
    rfl
  · exact hb.frame _
/-- a slice of integers that came in -/
theorem open_intsIn {H : Type} {enc : TypeId × Value → H} {P : Program} {w : World} {t e : TypeId} {fuel : Nat} {cs : List Value} {x : DataW H × List MemPlace} (ht : P.underlying t = some (.slice e)) (he : P.underlying e = some (.int .i64)) (hc : P.cellsOf e = 1)
    (h : DataW.trod enc P w 0 (fun _ => true) true fuel t cs = some x) : ∃ a l cap, cs = [.slice a l.length cap] ∧ IntsIn w a l ∧ l.length ≤ 9223372036854775807 := by
  rcases open_ints ht he hc h with ⟨rfl, _⟩ | ⟨a, len, cap, zs, rfl, _, hl, hm, hz, _, hcell, _⟩
  · exact ⟨none, [], 0, rfl, .inl rfl, by simp⟩
  · simp only [if_true] at hz
    have hlen : (zs.take len).length = len := by rw [List.length_take]; omega
    refine ⟨some a, zs.take len, cap, by rw [hlen], ?_, by rw [hlen]; unfold maxLen at hm; omega⟩
    by_cases h0 : len = 0
    · left; subst h0; simp
    · obtain ⟨b, off, rfl, hc'⟩ := ints_at hcell (by omega)
      right
      refine ⟨b, off, rfl, fun i hi => ?_⟩
      rw [List.length_map, hlen] at hi
      rw [hc' i (by omega)]
      simp [List.getElem_take, List.getD_eq_getElem?_getD, show i < zs.length by omega]
/-- a table that came in -/
theorem open_tableIn {H : Type} {enc : TypeId × Value → H} {P : Program} {w : World} {r : Reach} {b0 : Nat} {t ti : TypeId} {f0 f1 : Field} {v : Value} {d : DataW H} {p : List MemPlace} (hs : P.underlying t = some (.struct #[f0, f1])) (hone : oneCellFields P #[f0, f1] = true) (hC : P.cellsOf t = 2)
    (h0 : P.underlying f0.type = some (.int .i64)) (h1 : P.underlying f1.type = some (.slice ti)) (hi : P.underlying ti = some (.int .i64)) (hci : P.cellsOf ti = 1)
    (hv : Value.okWide P w r b0 t v) (h : DataW.Trod enc P w 0 (fun _ => true) true t v d p) : ∃ n a l cap, v = .agg #[.int .i64 n, .slice a l.length cap] ∧ IntsIn w a l ∧ l.length ≤ 9223372036854775807 := by
  obtain ⟨c0, c1, y0, y1, m, rfl, _, _, hy0, hy1⟩ := open_agg2 hs hone hC hv h
  obtain ⟨n, e0, _, _⟩ := DataW.trod_int h0 hy0
  obtain ⟨a, l, cap, e1, hl, hn⟩ := open_intsIn h1 hi hci hy1
  simp only [List.cons.injEq, and_true] at e0 e1
  subst e0 e1
  exact ⟨n, a, l, cap, rfl, hl, hn⟩
end Go.Proofs.YtlldhmoiahcfpaaDoor
