/-
  The laws' own helpers over slices of strings.
-/
import Derived.Test.YtdpfgdckgchpdaaGreatDoorGrp06
import Derived.Test.YtdpfgdckgchpdaaGreatDoorGrp01
import Derived.ProofKit
import Derived.OpenShut
import Derived.Lib.SmallJoins
import Derived.SliceStrings
namespace Go.Proofs.YtdpfgdckgchpdaaGreatDoor
open Go.RowKit
set_option linter.unusedVariables false
/-- the sizes of all -/
theorem sumTo_eq (l : List ByteArray) : ∀ j, j ≤ l.length → sumTo l j = ((l.take j).map ByteArray.size).sum
  | 0, _ => by simp [sumTo]
  | j + 1, h => by
    rw [sumTo, sumTo_eq l j (by omega), List.take_succ_eq_append_getElem (by omega), nthS_lt (by omega), List.map_append, List.sum_append]
    simp only [List.map_cons, List.map_nil, List.sum_cons, List.sum_nil, Nat.add_zero]
def strSum (l : List ByteArray) : Nat := (l.map ByteArray.size).sum
theorem joinF_size (l : List ByteArray) (sep : ByteArray) : (joinF l sep).size ≤ strSum l + sep.size * l.length := by
  unfold joinF
  cases h : l.length with
  | zero => exact Nat.zero_le _
  | succ n =>
    rw [joinTo_size, sumTo_eq l _ (by omega), List.take_of_length_le (by omega), Nat.mul_succ]
    unfold strSum
    omega
theorem strSum_dot (l : List ByteArray) : strSum (l.map dotB) ≤ strSum l + l.length := by
  unfold strSum
  induction l with
  | nil => simp
  | cons a l ih =>
    have := dotB_size a
    simp only [List.map_cons, List.sum_cons, List.length_cons] at *
    omega
/-- the first j of them with full stops -/
def dotTo (l : List ByteArray) (j : Nat) : List ByteArray := (l.take j).map dotB
theorem dotTo_len {l : List ByteArray} {j : Nat} (h : j ≤ l.length) : (dotTo l j).length = j := by simp [dotTo]; omega
theorem dotTo_succ {l : List ByteArray} {j : Nat} (h : j < l.length) : dotTo l (j + 1) = dotTo l j ++ [dotB (nthS l j)] := by
  unfold dotTo; rw [List.take_succ_eq_append_getElem h, nthS_lt h, List.map_append]; rfl
theorem dotTo_all (l : List ByteArray) : dotTo l l.length = l.map dotB := by unfold dotTo; rw [List.take_of_length_le (Nat.le_refl _)]
/-- FormatWords as a function of plain data -/
def fmtWords (l : List ByteArray) : ByteArray := if l.length = 0 then ⟨#[45]⟩ else joinF (l.map dotB) ⟨#[44]⟩
theorem fmtWords_zero {l : List ByteArray} (h : l.length = 0) : fmtWords l = ⟨#[45]⟩ := by simp [fmtWords, h]
theorem fmtWords_pos {l : List ByteArray} (h : 0 < l.length) : fmtWords l = joinF (dotTo l l.length) ⟨#[44]⟩ := by rw [dotTo_all]; simp [fmtWords, show ¬ l.length = 0 by omega]
theorem fmtWords_size {l : List ByteArray} (h : l.length ≤ 2 ^ 40) (h2 : strSum l ≤ 2 ^ 40) : (joinF (dotTo l l.length) ⟨#[44]⟩).size ≤ 2 ^ 46 := by
  have h1 := joinF_size (dotTo l l.length) ⟨#[44]⟩
  have h3 := strSum_dot l
  rw [dotTo_len (Nat.le_refl _)] at h1
  rw [dotTo_all] at h1 ⊢
  have : (ByteArray.mk #[44]).size = 1 := rfl
  rw [this] at h1
  omega
set_option maxHeartbeats 1000000 in
theorem implFormatWords_any (l : List ByteArray) (a : Option Addr) (cap : Nat) (w : World) (hl : StrsIn w a l) (hlen : l.length ≤ 2 ^ 40) (hsz : strSum l ≤ 2 ^ 40) :
    Calls Tryz.prog 42 #[.slice a l.length cap] w fun e w' => e = .returned (.string (fmtWords l)) ∧ Below w.heap.size w w' := by
  have HL := Lib.hid hl
  have HZ := Lib.hid (fmtWords_size hlen hsz)
  clear hl
  rcases Nat.eq_zero_or_pos l.length with h0 | h0
  · have F := Lib.hid (fmtWords_zero h0)
    rw [h0]
    go_enter Tryz.func42, Tryz.ntmps42
    go_wp2_with fail
    go_ret
    exact ⟨ret_str F.out.symm, Below.refl _ _⟩
  have F := Lib.hid (fmtWords_pos h0)
  have HS := Lib.hid (Bld.nil 9 1 (Below.refl w.heap.size w))
  have hn0 : ((l.length : Int) == 0) = false := by rw [beq_eq_false_iff_ne]; omega
  go_enter Tryz.func42, Tryz.ntmps42
  go_wp2_with fail
  go_loopw [3, 11] (fun v i wr => ∃ j : Nat, j ≤ l.length ∧ i = .int .i64 j ∧ Bld 9 1 w wr v j (strVals (dotTo l j))) (fun _ i _ => l.length - (intOf i).toNat)
  case atStart => exact ⟨0, Nat.zero_le _, rfl, HS.out⟩
  case round =>
    clear HS
    obtain ⟨j, hj, rfl, hbd⟩ := hrel
    obtain ⟨a3, c3, rfl⟩ := owns_form hbd.1
    have HB := Lib.hid hbd
    have hbw := hbd.2
    clear hbd
    by_cases hlt : j < l.length
    · obtain ⟨b, off, rfl, hb, hc⟩ := (HL.out.later hbw).cell hlt
      have c1 := hc j hlt
      have F1 := Lib.hid (dotTo_succ hlt)
      clear hc
      go_wp2_with (first | (go_at_call 92; refine (dotted_any _ _).mono ?_; rintro e w' ⟨rfl, rfl⟩) | (at_builtin; refine wpList_app1 rfl _ _ rfl Tryz.underlying36 Tryz.infoStr rfl (by decide) rfl HB.out rfl rfl ?c1 ?c2 ?c3 ?c4))
      case c1 => simp [Value.oneCell']
      case c2 => unfold maxLen; omega
      case c3 => omega
      intro v2 w4 hb2
      have F2 : Hid (Bld 9 1 w w4 v2 (j + 1) (strVals (dotTo l (j + 1)))) := by
        rw [F1.out]; unfold strVals at *; rw [List.map_append]; exact Lib.hid hb2
      clear hb2
      go_wp2_with fail
      go_roundw
      case rel => exact ⟨j + 1, by omega, by go_num, F2.out⟩
      case measure => simp [intOf]; omega
    · obtain rfl : j = l.length := by omega
      have hdl := dotTo_len (l := l) (Nat.le_refl _)
      go_wp2_with fail
      have hJ := implJoin_any (dotTo l l.length) ⟨#[44]⟩ a3 c3 wr (owns_strs HB.out.1) (by decide) (by decide) (by omega) (by rw [hdl]; exact owns_capS HB.out.1) HZ.out
      rw [hdl] at hJ
      refine hJ.mono ?_
      rintro e w5 ⟨rfl, hb5⟩
      replace hbw := Below.now hbw hb5
      clear hb5 hJ
      go_wp2_with fail
      go_ret
      exact ⟨ret_str F.out.symm, hbw⟩
end Go.Proofs.YtdpfgdckgchpdaaGreatDoor
namespace Go.Proofs.YtdpfgdckgchpdaaGreatDoor
open Go.ChangeShapes Go.WideShapes Go.ChangeAt Go.RowKit Go.Joins Go.Deep
set_option linter.unusedVariables false
/-- all arguments read as they did, if below the old heap's size nothing has turned -/
theorem trodAll_below {H : Type} {enc : TypeId × Value → H} {P : Program} (hl : laidOutB P = true) {W W' : World} (hb : Below W.heap.size W W') :
    ∀ (ts : List TypeId) (vs : List Value) (ds : List (DataW H)) (ps : List MemPlace), (∀ t ∈ ts, P.readableRec t = true ∧ t < P.types.size) → (∀ x ∈ ps, x.block < W.heap.size) →
      DataW.TrodAll enc P W 0 (fun _ => true) true ts vs ds ps → DataW.TrodAll enc P W' 0 (fun b => decide (b < W.heap.size)) true ts vs ds ps
  | [], vs, ds, ps, _, _, h => by
    cases vs <;> cases ds <;> simp_all [DataW.TrodAll]
  | t :: ts, vs, ds, ps, hr, hp, h => by
    cases vs with
    | nil => cases ds <;> simp [DataW.TrodAll] at h
    | cons v vs =>
      cases ds with
      | nil => simp [DataW.TrodAll] at h
      | cons d ds =>
        obtain ⟨p, p', h1, h2, rfl⟩ := h
        exact ⟨p, p', Below.trod hl (hr t (by simp)).1 (hr t (by simp)).2 h1 hb (fun x hx => hp x (by simp [hx])),
          trodAll_below hl hb ts vs ds p' (fun t' ht' => hr t' (by simp [ht'])) (fun x hx => hp x (by simp [hx])) h2, rfl⟩
/-- what a law's row asks behind the walk -/
theorem law_post {H : Type} {enc : TypeId × Value → H} {P : Program} {f : Func} {s : ChangeSpec} {W W' : World} {args : Array Value} {ds : List (DataW H)} {before : List MemPlace} {tb : TypeId}
    (hl : laidOutB P = true) (hr : ∀ t ∈ f.params.toList, P.readableRec t = true ∧ t < P.types.size) (hv : s.vars = [])
    (hW : DataW.Whole enc P f.params.toList s.vars false W args.toList ds [] before) (hft : f.resultTypes = #[tb]) (htb : P.underlying tb = some .bool)
    (hfn : s.fn H (ds ++ []) = { results := [.lit (.bool true)], args := ds }) (hb : Below W.heap.size W W') :
    s.post enc P f false true false false W args (.bool true) W' := by
  have hW' := hW
  obtain ⟨p, q, hA0, hV, hpq, hfz, hnd⟩ := hW'
  rw [hv] at hV
  obtain ⟨_, rfl⟩ := trodVars_none hV
  simp only [List.append_nil] at hpq
  subst hpq
  have hlt : ∀ x ∈ before, x.block < W.heap.size := fun x hx => hW.lt x hx
  refine ⟨ds, [], before, [], before, [], hW, ?_, ?_, ?_, ?_, fun h => by cases h⟩
  · rw [hfn, hft]
    exact trodAll_cons_mk (shut_bool htb _) trodAll_mk0
  · rw [hfn]
    exact trodAll_below hl hb _ _ _ _ hr hlt hA0
  · rw [hfn, hv]
    rfl
  · exact hb.frame _
/-- a slice of integers that came in -/
theorem open_intsIn {H : Type} {enc : TypeId × Value → H} {P : Program} {w : World} {t e : TypeId} {fuel : Nat} {cs : List Value} {x : DataW H × List MemPlace} (ht : P.underlying t = some (.slice e)) (he : P.underlying e = some (.int .i64)) (hc : P.cellsOf e = 1)
    (h : DataW.trod enc P w 0 (fun _ => true) true fuel t cs = some x) : ∃ a l cap, cs = [.slice a l.length cap] ∧ IntsIn w a l ∧ l.length ≤ 9223372036854775807 := by
  rcases open_ints ht he hc h with ⟨rfl, _⟩ | ⟨a, len, cap, zs, rfl, _, hl, hm, hz, _, hcell, _⟩
  · exact ⟨none, [], 0, rfl, .inl rfl, by simp⟩
  · simp only [if_true] at hz
    have hlen : (zs.take len).length = len := by rw [List.length_take]; omega
    refine ⟨some a, zs.take len, cap, by rw [hlen], ?_, by rw [hlen]; unfold maxLen at hm; omega⟩
    by_cases h0 : len = 0
    · left; subst h0; simp
    · obtain ⟨b, off, rfl, hc'⟩ := ints_at hcell (by omega)
      right
      refine ⟨b, off, rfl, fun i hi => ?_⟩
      rw [List.length_map, hlen] at hi
      rw [hc' i (by omega)]
      simp [List.getElem_take, List.getD_eq_getElem?_getD, show i < zs.length by omega]
/-- a table that came in -/
theorem open_tableIn {H : Type} {enc : TypeId × Value → H} {P : Program} {w : World} {r : Reach} {b0 : Nat} {t ti : TypeId} {f0 f1 : Field} {v : Value} {d : DataW H} {p : List MemPlace} (hs : P.underlying t = some (.struct #[f0, f1])) (hone : oneCellFields P #[f0, f1] = true) (hC : P.cellsOf t = 2)
    (h0 : P.underlying f0.type = some (.int .i64)) (h1 : P.underlying f1.type = some (.slice ti)) (hi : P.underlying ti = some (.int .i64)) (hci : P.cellsOf ti = 1)
    (hv : Value.okWide P w r b0 t v) (h : DataW.Trod enc P w 0 (fun _ => true) true t v d p) : ∃ n a l cap, v = .agg #[.int .i64 n, .slice a l.length cap] ∧ IntsIn w a l ∧ l.length ≤ 9223372036854775807 := by
  obtain ⟨c0, c1, y0, y1, m, rfl, _, _, hy0, hy1⟩ := open_agg2 hs hone hC hv h
  obtain ⟨n, e0, _, _⟩ := DataW.trod_int h0 hy0
  obtain ⟨a, l, cap, e1, hl, hn⟩ := open_intsIn h1 hi hci hy1
  simp only [List.cons.injEq, and_true] at e0 e1
  subst e0 e1
  exact ⟨n, a, l, cap, rfl, hl, hn⟩
end Go.Proofs.YtdpfgdckgchpdaaGreatDoor
namespace Go.Proofs.YtdpfgdckgchpdaaGreatDoor
open Go.RowKit Go.ChangeShapes Go.WideShapes Go.ChangeAt
set_option linter.unusedVariables false
theorem strSum_take (l : List ByteArray) {j : Nat} (h : j ≤ l.length) : sumTo l j ≤ strSum l := by
  have := sumTo_mono l h
  rw [sumTo_eq l l.length (Nat.le_refl _), List.take_of_length_le (Nat.le_refl _)] at this
  exact this
theorem strSum_all (l : List ByteArray) : sumTo l l.length = strSum l := by
  rw [sumTo_eq l l.length (Nat.le_refl _), List.take_of_length_le (Nat.le_refl _)]; rfl
/-- what szStringS hands back -/
def szF (left : Int) (l : List ByteArray) : Int := if left < (l.length : Int) + strSum l then -1 else left - l.length - strSum l
theorem szF_big {left : Int} {l : List ByteArray} (h : left < (l.length : Int) + strSum l) : szF left l = -1 := by simp [szF, h]
theorem szF_ok {left : Int} {l : List ByteArray} (h : ¬ left < (l.length : Int) + strSum l) : szF left l = left - l.length - strSum l := by simp only [szF, if_neg h]
set_option maxHeartbeats 400000 in
/-- eqStringS of two slices that hold the same strings -/
theorem eqStringS_same (l : List ByteArray) (a1 a2 : Option Addr) (c1 c2 : Nat) (w : World) (h1 : StrsIn w a1 l) (h2 : StrsIn w a2 l) (hlen : l.length ≤ 2 ^ 47) :
    Calls Tryz.prog 17 #[.slice a1 l.length c1, .slice a2 l.length c2] w fun e w' => e = .returned (.bool true) ∧ Below w.heap.size w w' := by
  go_enter Tryz.func17, Tryz.ntmps17
  go_wp2
  go_loopw [5] (fun i wr => ∃ j : Nat, j ≤ l.length ∧ i = .int .i64 j ∧ Below w.heap.size w wr) (fun i _ => l.length - (intOf i).toNat)
  case atStart => exact ⟨0, Nat.zero_le _, rfl, Below.refl _ _⟩
  case round =>
    obtain ⟨j, hj, rfl, hbel⟩ := hrel
    by_cases hlt : j < l.length
    · obtain ⟨b1, o1, rfl, hb1, hc1⟩ := (h1.later hbel).cell hlt
      obtain ⟨b2, o2, rfl, hb2, hc2⟩ := (h2.later hbel).cell hlt
      have g1 := hc1 j hlt
      have g2 := hc2 j hlt
      clear hc1 hc2
      go_wp2
      go_quiet (fail)
      have hbel2 : Below w.heap.size w (wr.drewN nq) := below_drewN hbel _
      clear hbel g1 g2
      go_wp2
      go_roundw
      case rel => exact ⟨j + 1, by omega, by go_num, hbel2⟩
      case measure => simp [intOf]; omega
    · go_wp2
      go_ret
      exact ⟨rfl, hbel⟩
/-- a slice of strings that came in -/
theorem open_strsIn {H : Type} {enc : TypeId × Value → H} {P : Program} {w : World} {r : Reach} {b0 : Nat} {t e : TypeId} {v : Value} {d : DataW H} {p : List MemPlace} (ht : P.underlying t = some (.slice e)) (he : P.underlying e = some .string) (hc : P.cellsOf e = 1)
    (hv : Value.okWide P w r b0 t v) (h : DataW.Trod enc P w 0 (fun _ => true) true t v d p) : ∃ a l cap, v = .slice a l.length cap ∧ StrsIn w a l ∧ l.length ≤ 9223372036854775807 ∧ ∀ j, j < l.length → (nthS l j).size ≤ maxLen := by
  obtain ⟨a0, len0, cap0, rfl⟩ := okWide_slice ht hv
  obtain ⟨fuel, hf⟩ := h
  rcases open_strings ht he hc hf with ⟨hcs, _⟩ | ⟨a, len, cap, ss, hcs, _, hl, hm, hz, _, hcell, hsz⟩
  · have e : (Value.slice a0 len0 cap0) = .slice none 0 0 := by simpa [Value.cells] using hcs
    rw [e]
    exact ⟨none, [], 0, rfl, .inl rfl, by simp, fun j hj => absurd hj (by simp)⟩
  · have e : (Value.slice a0 len0 cap0) = .slice (some a) len cap := by simpa [Value.cells] using hcs
    rw [e]
    simp only [if_true] at hz
    have hlen : (ss.take len).length = len := by rw [List.length_take]; omega
    have hat : ∀ j, j < len → nthS (ss.take len) j = ss.getD j ByteArray.empty := fun j hj => by
      rw [nthS_lt (by omega), List.getD_eq_getElem?_getD, List.getElem?_eq_getElem (by omega)]
      simp
    refine ⟨some a, ss.take len, cap, by rw [hlen], ?_, by rw [hlen]; unfold maxLen at hm; omega, fun j hj => ?_⟩
    · by_cases h0 : len = 0
      · left; subst h0; simp
      · obtain ⟨b, off, spot⟩ := a
        have hspot : spot = none := by simpa [Addr.add] using World.cell?_spot (hcell 0 (by omega))
        subst hspot
        right
        refine ⟨b, off, rfl, fun i hi => ?_⟩
        rw [List.length_map, hlen] at hi
        have := hcell i (by omega)
        rw [add_plain] at this
        rw [this, List.getElem_map, ← nthS_lt (by omega), hat i hi]
    · rw [hlen] at hj
      rw [hat j hj, List.getD_eq_getElem?_getD, List.getElem?_eq_getElem (by omega)]
      exact hsz _ (List.getElem_mem _)
end Go.Proofs.YtdpfgdckgchpdaaGreatDoor
