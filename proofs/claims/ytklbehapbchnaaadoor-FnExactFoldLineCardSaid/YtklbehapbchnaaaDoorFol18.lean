/-
  slices.Compact of arcs, of the program: equal neighbours are left out.
-/
import Derived.Test.YtklbehapbchnaaaDoorFol17
import Derived.Test.YtklbehapbchnaaaDoorFol10
import Derived.Lib.SliceRun
namespace Go.Proofs.YtklbehapbchnaaaDoor
open Go.RowKit
set_option linter.unusedVariables false
theorem eqA_not {p q r x1 x2 x3 : Nat} {w : World} : (if (p : Int) = (x1 : Int) then (if (q : Int) = (x2 : Int) then (if (r : Int) = (x3 : Int) then Result.ok (Next.value (Value.bool false)) w else Result.ok (Next.value (Value.bool true)) w) else Result.ok (Next.value (Value.bool true)) w) else Result.ok (Next.value (Value.bool true)) w) = Result.ok (Next.value (Value.bool (!eqAB p q r x1 x2 x3))) w := by
  unfold eqAB
  by_cases h1 : p = x1
  · by_cases h2 : q = x2
    · by_cases h3 : r = x3
      · simp [h1, h2, h3]
      · have h3' : ¬ (r : Int) = (x3 : Int) := by omega
        simp [h1, h2, h3, h3']
    · have h2' : ¬ (q : Int) = (x2 : Int) := by omega
      simp [h1, h2, h2']
  · have h1' : ¬ (p : Int) = (x1 : Int) := by omega
    simp [h1, h1']
/-- clear of a part of a slice whose elements have several cells -/
theorem run_clear_arcs {P : Program} (w : World) (t e ty : TypeId) (z : Value) (ht : P.underlying t = some (.slice e)) (hv : ∀ w, (zeroValue e).run P w = .ok z w) (b o n c : Nat) (hn : 0 < n) (zs : List Value) (hzs : (Builtin.zeroCells z.cells n).toList = zs) (h1 : ∀ v ∈ zs, v.oneCell' = true)
    (hc : ∀ j, j < zs.length → (w.cell? ⟨b, o + j, none⟩).isSome = true) (hf : ∀ j, j < zs.length → w.frozen? ⟨b, o + j, none⟩ = false) :
    (Builtin.clear_ #[t] ty #[.slice (some ⟨b, o, none⟩) n c]).run P w = .ok (.tuple #[]) (w.setCells b o zs) := by
  have hst := run_storeCells_cells (P := P) b o zs 0 w (by simpa using hc) (by simpa using hf) h1
  simp only [Nat.add_zero] at hst
  obtain ⟨m, rfl⟩ : ∃ m, n = m + 1 := ⟨n - 1, by omega⟩
  simp [Builtin.clear_, run_underlying ht, hv, hzs, hst]
theorem Tryd.zeroArc (w : World) : (zeroValue 66).run Tryd.prog w = .ok (.agg #[.int .i64 0, .int .i64 0, .int .i64 0]) w := by kernel_rfl
theorem zeroA_one (n : Nat) : ((Builtin.zeroCells #[.int .i64 0, .int .i64 0, .int .i64 0] n).toList.length = n * 3) ∧ ∀ v ∈ (Builtin.zeroCells #[.int .i64 0, .int .i64 0, .int .i64 0] n).toList, v.oneCell' = true := by
  unfold Builtin.zeroCells
  refine ⟨by simp, fun v hv => ?_⟩
  simp only [Array.toList_map, List.mem_map] at hv
  obtain ⟨i, _, rfl⟩ := hv
  have h : i % 3 = 0 ∨ i % 3 = 1 ∨ i % 3 = 2 := by omega
  have e : (#[Value.int .i64 0, .int .i64 0, .int .i64 0] : Array Value).size = 3 := rfl
  rw [e]
  rcases h with h | h | h <;> rw [h] <;> rfl
theorem own_caps2 {w : World} {base g n cap k : Nat} {T : TypeId} {xs : List Value} (h : w.ownsRow base T k (.slice (some ⟨g, 0, none⟩) n cap) n xs) : n ≤ cap ∧ cap ≤ maxLen := by
  obtain ⟨_, _, _, h3, h4, _⟩ := own_blockA h
  exact ⟨h3, h4⟩
theorem owns_cut {w : World} {base g n cap k : Nat} {T : TypeId} {xs : List Value} (h : w.ownsRow base T k (.slice (some ⟨g, 0, none⟩) n cap) n xs) {m : Nat} (hm : m ≤ n) : w.ownsRow base T k (.slice (some ⟨g, 0, none⟩) m cap) m (xs.take (m * k)) := by
  obtain ⟨cur, h1, h2, h3, h4, h5, h6⟩ := own_blockA h
  have hl := h.1
  have hmk : m * k ≤ n * k := Nat.mul_le_mul_right k hm
  refine ⟨by rw [List.length_take]; omega, .inr ⟨g, cap, cur, rfl, h1, h2, by omega, h4, h5, ?_⟩⟩
  rw [← h6, List.take_take, Nat.min_eq_left hmk]
/-- while neighbours are left out: j of them have been seen -/
def CpA (w wr : World) (base g n cap : Nat) (L : List Arc3) (j : Nat) : Prop :=
  ∃ xs, wr.ownsRow base 66 3 (.slice (some ⟨g, 0, none⟩) n cap) n xs ∧ xs.take ((ddN L j).length * 3) = arcC (ddN L j) ∧ xs.drop ((j - 1) * 3) = (arcC L).drop ((j - 1) * 3) ∧ Below base w wr ∧ n = L.length
theorem CpA.cell {w wr : World} {base g n cap : Nat} {L : List Arc3} {j : Nat} (h : CpA w wr base g n cap L j) {i : Nat} (hi : i < L.length) (hji : j ≤ i + 1) {c : Nat} {v : Value} (hv : (arcV L[i])[c]? = some v) : wr.cell? ⟨g, i * 3 + c, none⟩ = some v := by
  obtain ⟨xs, ho, ht, hd, hb, rfl⟩ := h
  have h1 := ho.1
  have hc : c < 3 := (List.getElem?_eq_some_iff.1 hv).1
  rw [ho.cellAt (i * 3 + c) (by omega)]
  have h2 : (xs.drop ((j - 1) * 3))[i * 3 + c - (j - 1) * 3]? = ((arcC L).drop ((j - 1) * 3))[i * 3 + c - (j - 1) * 3]? := by rw [hd]
  rw [List.getElem?_drop, List.getElem?_drop, show (j - 1) * 3 + (i * 3 + c - (j - 1) * 3) = i * 3 + c by omega] at h2
  have h3 := cellsL_at arcV_len L i hi c hc
  rw [hv] at h3
  rw [h2]; exact h3
theorem CpA.there {w wr : World} {base g n cap : Nat} {L : List Arc3} {j : Nat} (h : CpA w wr base g n cap L j) {i : Nat} (hi : i < n * 3) : ∃ v, wr.cell? ⟨g, i, none⟩ = some v := by
  obtain ⟨xs, ho, _⟩ := h
  have h1 := ho.1
  exact ⟨xs[i]'(by omega), by rw [ho.cellAt i (by omega), List.getElem?_eq_getElem]⟩
theorem CpA.frozen {w wr : World} {base g n cap : Nat} {L : List Arc3} {j : Nat} (h : CpA w wr base g n cap L j) (i : Nat) : wr.frozen? ⟨g, i, none⟩ = false := by
  obtain ⟨xs, ho, _⟩ := h
  exact ho.frozenAt i
theorem CpA.later {w wr wr' : World} {base g n cap : Nat} {L : List Arc3} {j : Nat} (h : CpA w wr base g n cap L j) (hb' : Below wr.heap.size wr wr') (hbase : base ≤ w.heap.size) : CpA w wr' base g n cap L j := by
  obtain ⟨xs, ho, ht, hd, hb, hn⟩ := h
  exact ⟨xs, owns_later ho hb', ht, hd, hb.trans (hb'.mono (Nat.le_trans hbase hb.size)), hn⟩
theorem CpA.same {w wr : World} {base g n cap : Nat} {L : List Arc3} {j : Nat} (h : CpA w wr base g n cap L j) (h0 : 0 < j) (he : L[j]? = L[j - 1]?) : CpA w wr base g n cap L (j + 1) := by
  obtain ⟨xs, ho, ht, hd, hb, hn⟩ := h
  refine ⟨xs, ho, by rw [ddN_same h0 he]; exact ht, ?_, hb, hn⟩
  have e : (j + 1 - 1) * 3 = (j - 1) * 3 + 3 := by omega
  rw [e, ← List.drop_drop, ← List.drop_drop, hd]
theorem arcs_set3 {xs ys : List Value} {m : Nat} {v : Value} (h : xs.take m = ys) (hm : m < xs.length) : (xs.set m v).take (m + 1) = ys ++ [v] := by
  rw [List.take_succ_eq_append_getElem (by simpa using hm), List.take_set_of_le (Nat.le_refl _), h]
  simp
theorem CpA.put {w wr : World} {base g n cap : Nat} {L : List Arc3} {j : Nat} (h : CpA w wr base g n cap L j) (hj : j < L.length) (hne : ¬ (0 < j ∧ L[j]? = L[j - 1]?)) (hk : (ddN L j).length < j) {a1 a2 a3 : Nat} (ha : L[j] = (a1, a2, a3)) {k : Nat} (hkk : (ddN L j).length = k) :
    CpA w (((wr.setCell ⟨g, k * 3, none⟩ (.int .i64 ((a1 : Nat) : Int))).setCell ⟨g, k * 3 + 1, none⟩ (.int .i64 ((a2 : Nat) : Int))).setCell ⟨g, k * 3 + 2, none⟩ (.int .i64 ((a3 : Nat) : Int))) base g n cap L (j + 1) := by
  obtain ⟨xs, ho, ht, hd, hb, rfl⟩ := h
  have hbg := (ho.lt g rfl).1
  have hl := ho.1
  rw [hkk] at ht hk
  refine ⟨((xs.set (k * 3) (.int .i64 ((a1 : Nat) : Int))).set (k * 3 + 1) (.int .i64 ((a2 : Nat) : Int))).set (k * 3 + 2) (.int .i64 ((a3 : Nat) : Int)), (((ho.stored _ _).1).stored _ _).1.stored _ _ |>.1, ?_, ?_, ((hb.setCell hbg _).setCell hbg _).setCell hbg _, rfl⟩
  · rw [ddN_new hj hne, List.length_append, hkk, ha, arcC_app]
    have e : (k + [(a1, a2, a3)].length) * 3 = k * 3 + 1 + 1 + 1 := by simp; omega
    rw [e]
    have h1 := arcs_set3 (v := .int .i64 ((a1 : Nat) : Int)) ht (by omega)
    have h2 := arcs_set3 (v := .int .i64 ((a2 : Nat) : Int)) h1 (by rw [List.length_set]; omega)
    have h3 := arcs_set3 (v := .int .i64 ((a3 : Nat) : Int)) h2 (by rw [List.length_set, List.length_set]; omega)
    rw [show k * 3 + 1 + 1 = k * 3 + 2 from rfl] at h3 ⊢
    rw [h3]
    simp [arcV]
  · have e : (j + 1 - 1) * 3 = (j - 1) * 3 + 3 := by omega
    rw [List.drop_set_of_lt (by omega), List.drop_set_of_lt (by omega), List.drop_set_of_lt (by omega), e, ← List.drop_drop, ← List.drop_drop, hd]
/-- a row whose first m cells are known -/
def HeadA (w wr : World) (base g n cap m : Nat) (ys : List Value) : Prop := ∃ xs, wr.ownsRow base 66 3 (.slice (some ⟨g, 0, none⟩) n cap) n xs ∧ xs.take m = ys ∧ Below base w wr
theorem HeadA.fill {w : World} {base g n cap m : Nat} {ys : List Value} : ∀ (zs : List Value) (o : Nat) (wr : World), HeadA w wr base g n cap m ys → m ≤ o → HeadA w (wr.setCells g o zs) base g n cap m ys
  | [], o, wr, h, _ => h
  | z :: zs, o, wr, h, ho => by
    obtain ⟨xs, h1, h2, h3⟩ := h
    have hbg := (h1.lt g rfl).1
    exact HeadA.fill zs (o + 1) _ ⟨xs.set o z, (h1.stored _ _).1, by rw [List.take_set_of_le ho]; exact h2, h3.setCell hbg _⟩ (by omega)
/-- what Compact hands back -/
def RetCo (L : List Arc3) (base g cap : Nat) (w : World) (e : Ending) (w' : World) : Prop := e = .returned (.slice (some ⟨g, 0, none⟩) (ddN L L.length).length cap) ∧ w'.ownsRow base 66 3 (.slice (some ⟨g, 0, none⟩) (ddN L L.length).length cap) (ddN L L.length).length (arcC (ddN L L.length)) ∧ Below base w w'
theorem CpA.ret {w wr : World} {base g n cap : Nat} {L : List Arc3} {j : Nat} (h : CpA w wr base g n cap L j) (hj : ¬ j < L.length) (hjn : j ≤ L.length) {zs : List Value} {k : Nat} (hk : (ddN L j).length = k) (hkn : k ≤ n) : RetCo L base g cap w (.returned (.slice (some ⟨g, 0, none⟩) k cap)) (wr.setCells g (k * 3) zs) := by
  obtain rfl : j = L.length := by omega
  obtain ⟨xs, ho, ht, hd, hb, hn⟩ := h
  rw [hk] at ht
  obtain ⟨ys, y1, y2, y3⟩ := HeadA.fill zs (k * 3) wr ⟨xs, ho, ht, hb⟩ (Nat.le_refl _)
  refine ⟨by rw [hk], ?_, y3⟩
  rw [hk]
  have := owns_cut y1 hkn
  rwa [y2] at this
theorem dd_first {L : List Arc3} {k : Nat} (hd : ddN L k = L.take k) (hk : k < L.length) (hne : ¬ (0 < k ∧ L[k]? = L[k - 1]?)) : ddN L (k + 1) = L.take (k + 1) := by
  rw [ddN_new hk hne, hd, List.take_succ_eq_append_getElem hk]
set_option maxRecDepth 20000 in
set_option maxHeartbeats 4000000 in
theorem compactArcs_any (L : List Arc3) (base g cap : Nat) (w : World) (ho : w.ownsRow base 66 3 (.slice (some ⟨g, 0, none⟩) L.length cap) L.length (arcC L)) (hbase : base ≤ w.heap.size) (hl : L.length ≤ 1000) :
    Calls Tryd.prog 69 #[.slice (some ⟨g, 0, none⟩) L.length cap] w (RetCo L base g cap w) := by
  obtain ⟨hnc, hcm⟩ := own_caps2 ho
  unfold maxLen at hcm
  have HO := Lib.hid ho
  have HB0 : Hid (Below base w w) := Lib.hid (Below.refl _ _)
  clear ho
  by_cases h2 : L.length < 2
  · have hd : ddN L L.length = L := by
      rcases L with _ | ⟨a, _ | ⟨b, L⟩⟩
      · rfl
      · rfl
      · exfalso
        have e : (a :: b :: L).length = L.length + 2 := by simp
        omega
    have F : Hid (RetCo L base g cap w (.returned (.slice (some ⟨g, 0, none⟩) L.length cap)) w) := Lib.hid (by unfold RetCo; rw [hd]; exact ⟨rfl, HO.out, HB0.out⟩)
    have h2i : (L.length : Int) < 2 := by omega
    clear hd
    go_enter Tryd.func69, Tryd.ntmps69
    go_wp2_with fail
    go_ret
    exact F.out
  · have h2i : ¬ (L.length : Int) < 2 := by omega
    go_enter Tryd.func69, Tryd.ntmps69
    go_wp2_with fail
    have HD1 : Hid (ddN L 1 = L.take 1) := Lib.hid (dd_first (k := 0) (by simp [ddN]) (by omega) (by omega))
    go_loopw [3] (fun v3 wr => ∃ k : Nat, 1 ≤ k ∧ k ≤ L.length ∧ v3 = .int .i64 (k : Nat) ∧ Hid (ddN L k = L.take k) ∧ Hid (wr.ownsRow base 66 3 (.slice (some ⟨g, 0, none⟩) L.length cap) L.length (arcC L)) ∧ Hid (Below base w wr)) (fun v3 _ => L.length - (intOf v3).toNat)
    case atStart => exact ⟨1, by omega, by omega, rfl, HD1, HO, HB0⟩
    case round =>
      clear HD1 HO HB0
      obtain ⟨k, hk1, hk, rfl, HD, HO, HB⟩ := hrel
      by_cases hkl : k < L.length
      · obtain ⟨m, hm⟩ : ∃ m, k = m + 1 := ⟨k - 1, by omega⟩
        have hkm : (k : Int) - 1 = (m : Int) := by omega
        have hwm : IntKind.i64.wrap (m : Int) = (m : Int) := IntWalk.i64_in _ ⟨by omega, by omega⟩
        have hki : (k : Int) < (L.length : Int) := by omega
        have hmi : (m : Int) < (L.length : Int) := by omega
        have hml : m < L.length := by omega
        have HCL : Hid (∀ W, Below wr.heap.size wr W → ∀ i (hi : i < L.length), W.cell? ⟨g, i * 3, none⟩ = some (.int .i64 ((L[i].1 : Nat) : Int)) ∧ W.cell? ⟨g, i * 3 + 1, none⟩ = some (.int .i64 ((L[i].2.1 : Nat) : Int)) ∧ W.cell? ⟨g, i * 3 + 2, none⟩ = some (.int .i64 ((L[i].2.2 : Nat) : Int))) := Lib.hid (fun W hW i hi => by
          obtain ⟨b1, o1, e, _, hc1⟩ := arc_cells (owns_cells (owns_later HO.out hW) : ArcsIn W (some ⟨g, 0, none⟩) L) hi
          simp only [Option.some.injEq, Addr.mk.injEq, and_true] at e
          obtain ⟨rfl, rfl⟩ := e
          have := hc1 i hi
          rwa [Nat.zero_add] at this)
        have HC1 := Lib.hid (fun W hW => HCL.out W hW k hkl)
        have HC2 := Lib.hid (fun W hW => HCL.out W hW m hml)
        obtain ⟨⟨x1, x2, x3⟩, hx⟩ : ∃ x, L[k] = x := ⟨_, rfl⟩
        obtain ⟨⟨y1, y2, y3⟩, hy⟩ : ∃ y, L[m] = y := ⟨_, rfl⟩
        rw [hx] at HC1
        rw [hy] at HC2
        have HEQ : Hid (L[k]? = L[k - 1]? ↔ (x1 = y1 ∧ x2 = y2 ∧ x3 = y3)) := Lib.hid (by
          rw [show k - 1 = m by omega, List.getElem?_eq_getElem hkl, List.getElem?_eq_getElem hml, hx, hy]
          simp)
        have HMK := Lib.hid hm
        clear hx hy hm
        go_upto_region 6 with fail
        refine region_each (fun W => Below wr.heap.size wr W) (fun W W2 => Below W.heap.size W W2) (fun u => by simp only [fPut, Act.put, List.setIfInBounds_toArray, List.set_cons_succ, List.set_cons_zero, Nat.zero_add, Nat.reduceAdd]; rfl) (by kernel_rfl) (by kernel_rfl) (by kernel_rfl) (Below.drew (Below.refl _ _)) ?_
        apply each_read (fun _ => Below.refl _ _) rfl
        · intro u wv hC hf
          obtain ⟨z0, z1, z2⟩ := HC1.out _ hC
          obtain ⟨b0, b1, b2⟩ := HC2.out _ hC
          clear hf
          go_simp
          try rfl
        apply each_read (fun _ => Below.refl _ _) rfl
        · intro u wv hC hf
          obtain ⟨z0, z1, z2⟩ := HC1.out _ hC
          obtain ⟨b0, b1, b2⟩ := HC2.out _ hC
          clear hf
          go_simp
          try rfl
        apply each_read (fun _ => Below.refl _ _) rfl
        · intro u wv hC hf
          obtain ⟨z0, z1, z2⟩ := HC1.out _ hC
          obtain ⟨b0, b1, b2⟩ := HC2.out _ hC
          obtain ⟨d0_0, d1_1, -⟩ := hf
          have e0 : u 0 = _ := d0_0 rfl
          clear d0_0
          have e1 : u 1 = _ := d1_1 rfl
          clear d1_1
          go_simp
          try rfl
        apply each_read (fun _ => Below.refl _ _) rfl
        · intro u wv hC hf
          obtain ⟨z0, z1, z2⟩ := HC1.out _ hC
          obtain ⟨b0, b1, b2⟩ := HC2.out _ hC
          obtain ⟨d2_0, -⟩ := hf
          have e2 : u 2 = _ := d2_0 rfl
          clear d2_0
          go_simp
          try rfl
        apply each_read (fun _ => Below.refl _ _) rfl
        · intro u wv hC hf
          obtain ⟨z0, z1, z2⟩ := HC1.out _ hC
          obtain ⟨b0, b1, b2⟩ := HC2.out _ hC
          clear hf
          go_simp
          try rfl
        apply each_read (fun _ => Below.refl _ _) rfl
        · intro u wv hC hf
          obtain ⟨z0, z1, z2⟩ := HC1.out _ hC
          obtain ⟨b0, b1, b2⟩ := HC2.out _ hC
          clear hf
          go_simp
          try rfl
        apply each_read (fun _ => Below.refl _ _) rfl
        · intro u wv hC hf
          obtain ⟨z0, z1, z2⟩ := HC1.out _ hC
          obtain ⟨b0, b1, b2⟩ := HC2.out _ hC
          obtain ⟨d5_0, -⟩ := hf
          have e5 : u 5 = _ := d5_0 rfl
          clear d5_0
          go_simp
          try rfl
        apply each_read (fun _ => Below.refl _ _) rfl
        · intro u wv hC hf
          obtain ⟨z0, z1, z2⟩ := HC1.out _ hC
          obtain ⟨b0, b1, b2⟩ := HC2.out _ hC
          obtain ⟨d4_0, d6_1, -⟩ := hf
          have e4 : u 4 = _ := d4_0 rfl
          clear d4_0
          have e6 : u 6 = _ := d6_1 rfl
          clear d6_1
          go_simp
          try rfl
        apply each_read (fun _ => Below.refl _ _) rfl
        · intro u wv hC hf
          obtain ⟨z0, z1, z2⟩ := HC1.out _ hC
          obtain ⟨b0, b1, b2⟩ := HC2.out _ hC
          obtain ⟨d7_0, -⟩ := hf
          have e7 : u 7 = _ := d7_0 rfl
          clear d7_0
          go_simp
          try rfl
        apply each_read (fun _ => Below.refl _ _) rfl
        · intro u wv hC hf
          obtain ⟨z0, z1, z2⟩ := HC1.out _ hC
          obtain ⟨b0, b1, b2⟩ := HC2.out _ hC
          obtain ⟨d3_0, d8_1, -⟩ := hf
          have e3 : u 3 = _ := d3_0 rfl
          clear d3_0
          have e8 : u 8 = _ := d8_1 rfl
          clear d8_1
          go_simp
          exact eqA_val
        intro u wx hD hall
        obtain ⟨a0, a1, a2, a3, a4, a5, a6, a7, a8, a9, -⟩ := hall
        have e0 : u 0 = _ := a0
        clear a0
        have e1 : u 1 = _ := a1
        clear a1
        have e2 : u 2 = _ := a2
        clear a2
        have e3 : u 3 = _ := a3
        clear a3
        have e4 : u 4 = _ := a4
        clear a4
        have e5 : u 5 = _ := a5
        clear a5
        have e6 : u 6 = _ := a6
        clear a6
        have e7 : u 7 = _ := a7
        clear a7
        have e8 : u 8 = _ := a8
        clear a8
        have e9 : u 9 = _ := a9
        clear a9
        simp only [e0, e1, e2, e3, e4, e5, e6, e7, e8, e9]
        clear e0 e1 e2 e3 e4 e5 e6 e7 e8 e9
        have HO2 := Lib.hid (owns_later HO.out hD)
        have HB2 := Lib.hid (HB.out.trans (hD.mono (Nat.le_trans hbase HB.out.size)))
        clear hD HCL HC1 HC2
        obtain ⟨bq, hbq⟩ : ∃ bq, eqAB x1 x2 x3 y1 y2 y3 = bq := ⟨_, rfl⟩
        rw [hbq]
        have HBQ := Lib.hid hbq
        clear hbq
        cases bq
        case' false =>
          have HD2 : Hid (ddN L (k + 1) = L.take (k + 1)) := Lib.hid (dd_first HD.out hkl (fun h => of_decide_eq_false HBQ.out (HEQ.out.1 h.2)))
          go_wp2_with fail
          go_roundw
          case rel => exact ⟨k + 1, by omega, by omega, by go_num, HD2, HO2, HB2⟩
          case measure => simp [intOf]; omega
        case' true =>
          have HE : Hid (L[k]? = L[k - 1]?) := Lib.hid (HEQ.out.2 (of_decide_eq_true HBQ.out))
          have HLK : Hid ((ddN L k).length = k) := Lib.hid (by rw [HD.out, List.length_take]; omega)
          have HCP : Hid (CpA w wx base g L.length cap L (k + 1)) := Lib.hid (CpA.same ⟨arcC L, HO2.out, by rw [HLK.out, HD.out, arcC_take], rfl, HB2.out, rfl⟩ (by omega) HE.out)
          have HLK2 : Hid ((ddN L (k + 1)).length = k) := Lib.hid (by rw [ddN_same (by omega) HE.out]; exact HLK.out)
          have hkc : ¬ cap = k := by omega
          have hkci : (k : Int) ≤ (cap : Int) := by omega
          have hne : ¬ k = cap := by omega
          obtain ⟨d, hd⟩ : ∃ d, L.length - k = d := ⟨_, rfl⟩
          have HDD := Lib.hid hd
          have hd0 : 0 < d := by omega
          have hdk : k + d = L.length := by omega
          clear HE HLK HO HB HO2 HB2 HD
          go_wp2_with fail
          go_loopw [3, 5] (fun v3 v5 wr => ∃ kk t : Nat, 1 ≤ t ∧ t ≤ d ∧ kk < k + t ∧ v3 = .int .i64 (kk : Nat) ∧ v5 = .int .i64 (t : Nat) ∧ Hid ((ddN L (k + t)).length = kk) ∧ Hid (CpA w wr base g L.length cap L (k + t))) (fun _ v5 _ => d - (intOf v5).toNat)
          case atStart => exact ⟨k, 1, Nat.le_refl _, by omega, by omega, rfl, rfl, HLK2, HCP⟩
          case round =>
            clear HLK2 HCP
            obtain ⟨kk, t, ht1, htd, hkt, rfl, rfl, HLK, HCP⟩ := hrel
            by_cases htl : t < d
            · obtain ⟨m, hm⟩ : ∃ m, t = m + 1 := ⟨t - 1, by omega⟩
              have hkm : (t : Int) - 1 = (m : Int) := by omega
              have hwm : IntKind.i64.wrap (m : Int) = (m : Int) := IntWalk.i64_in _ ⟨by omega, by omega⟩
              have hki : (t : Int) < (d : Int) := by omega
              have hmi : (m : Int) < (d : Int) := by omega
              have hkl2 : k + t < L.length := by omega
              have hml : k + m < L.length := by omega
              have HCL : Hid (∀ W, Below wr.heap.size wr W → ∀ i (hi : k + i < L.length), m ≤ i → W.cell? ⟨g, k * 3 + i * 3, none⟩ = some (.int .i64 ((L[k + i].1 : Nat) : Int)) ∧ W.cell? ⟨g, k * 3 + i * 3 + 1, none⟩ = some (.int .i64 ((L[k + i].2.1 : Nat) : Int)) ∧ W.cell? ⟨g, k * 3 + i * 3 + 2, none⟩ = some (.int .i64 ((L[k + i].2.2 : Nat) : Int))) := Lib.hid (fun W hW i hi him => by
                have h := HCP.out.later hW hbase
                have e : k * 3 + i * 3 = (k + i) * 3 := by omega
                rw [e]
                exact ⟨h.cell hi (by omega) (c := 0) rfl, h.cell hi (by omega) (c := 1) rfl, h.cell hi (by omega) (c := 2) rfl⟩)
              have HC1 := Lib.hid (fun W hW => HCL.out W hW t hkl2 (by omega))
              have HC2 := Lib.hid (fun W hW => HCL.out W hW m hml (Nat.le_refl _))
              obtain ⟨⟨x1, x2, x3⟩, hx⟩ : ∃ x, L[k + t] = x := ⟨_, rfl⟩
              obtain ⟨⟨y1, y2, y3⟩, hy⟩ : ∃ y, L[k + m] = y := ⟨_, rfl⟩
              rw [hx] at HC1
              rw [hy] at HC2
              have HEQ : Hid (L[k + t]? = L[k + t - 1]? ↔ (x1 = y1 ∧ x2 = y2 ∧ x3 = y3)) := Lib.hid (by
                rw [show k + t - 1 = k + m by omega, List.getElem?_eq_getElem hkl2, List.getElem?_eq_getElem hml, hx, hy]
                simp)
              have HX := Lib.hid hx
              clear hx hy hm
              go_upto_region 11 with fail
              refine region_each (fun W => Below wr.heap.size wr W) (fun W W2 => Below W.heap.size W W2) (fun u => by simp only [fPut, Act.put, List.setIfInBounds_toArray, List.set_cons_succ, List.set_cons_zero, Nat.zero_add, Nat.reduceAdd]; rfl) (by kernel_rfl) (by kernel_rfl) (by kernel_rfl) (Below.drew (Below.refl _ _)) ?_
              apply each_read (fun _ => Below.refl _ _) rfl
              · intro u wv hC hf
                obtain ⟨z0, z1, z2⟩ := HC1.out _ hC
                obtain ⟨b0, b1, b2⟩ := HC2.out _ hC
                clear hf
                go_simp
                try rfl
              apply each_read (fun _ => Below.refl _ _) rfl
              · intro u wv hC hf
                obtain ⟨z0, z1, z2⟩ := HC1.out _ hC
                obtain ⟨b0, b1, b2⟩ := HC2.out _ hC
                clear hf
                go_simp
                try rfl
              apply each_read (fun _ => Below.refl _ _) rfl
              · intro u wv hC hf
                obtain ⟨z0, z1, z2⟩ := HC1.out _ hC
                obtain ⟨b0, b1, b2⟩ := HC2.out _ hC
                obtain ⟨d0_0, d1_1, -⟩ := hf
                have e0 : u 0 = _ := d0_0 rfl
                clear d0_0
                have e1 : u 1 = _ := d1_1 rfl
                clear d1_1
                go_simp
                try rfl
              apply each_read (fun _ => Below.refl _ _) rfl
              · intro u wv hC hf
                obtain ⟨z0, z1, z2⟩ := HC1.out _ hC
                obtain ⟨b0, b1, b2⟩ := HC2.out _ hC
                obtain ⟨d2_0, -⟩ := hf
                have e2 : u 2 = _ := d2_0 rfl
                clear d2_0
                go_simp
                try rfl
              apply each_read (fun _ => Below.refl _ _) rfl
              · intro u wv hC hf
                obtain ⟨z0, z1, z2⟩ := HC1.out _ hC
                obtain ⟨b0, b1, b2⟩ := HC2.out _ hC
                clear hf
                go_simp
                try rfl
              apply each_read (fun _ => Below.refl _ _) rfl
              · intro u wv hC hf
                obtain ⟨z0, z1, z2⟩ := HC1.out _ hC
                obtain ⟨b0, b1, b2⟩ := HC2.out _ hC
                clear hf
                go_simp
                try rfl
              apply each_read (fun _ => Below.refl _ _) rfl
              · intro u wv hC hf
                obtain ⟨z0, z1, z2⟩ := HC1.out _ hC
                obtain ⟨b0, b1, b2⟩ := HC2.out _ hC
                obtain ⟨d5_0, -⟩ := hf
                have e5 : u 5 = _ := d5_0 rfl
                clear d5_0
                go_simp
                try rfl
              apply each_read (fun _ => Below.refl _ _) rfl
              · intro u wv hC hf
                obtain ⟨z0, z1, z2⟩ := HC1.out _ hC
                obtain ⟨b0, b1, b2⟩ := HC2.out _ hC
                obtain ⟨d4_0, d6_1, -⟩ := hf
                have e4 : u 4 = _ := d4_0 rfl
                clear d4_0
                have e6 : u 6 = _ := d6_1 rfl
                clear d6_1
                go_simp
                try rfl
              apply each_read (fun _ => Below.refl _ _) rfl
              · intro u wv hC hf
                obtain ⟨z0, z1, z2⟩ := HC1.out _ hC
                obtain ⟨b0, b1, b2⟩ := HC2.out _ hC
                obtain ⟨d7_0, -⟩ := hf
                have e7 : u 7 = _ := d7_0 rfl
                clear d7_0
                go_simp
                try rfl
              apply each_read (fun _ => Below.refl _ _) rfl
              · intro u wv hC hf
                obtain ⟨z0, z1, z2⟩ := HC1.out _ hC
                obtain ⟨b0, b1, b2⟩ := HC2.out _ hC
                obtain ⟨d3_0, d8_1, -⟩ := hf
                have e3 : u 3 = _ := d3_0 rfl
                clear d3_0
                have e8 : u 8 = _ := d8_1 rfl
                clear d8_1
                go_simp
                exact eqA_not
              intro u wx hD hall
              obtain ⟨a0, a1, a2, a3, a4, a5, a6, a7, a8, a9, -⟩ := hall
              have e0 : u 0 = _ := a0
              clear a0
              have e1 : u 1 = _ := a1
              clear a1
              have e2 : u 2 = _ := a2
              clear a2
              have e3 : u 3 = _ := a3
              clear a3
              have e4 : u 4 = _ := a4
              clear a4
              have e5 : u 5 = _ := a5
              clear a5
              have e6 : u 6 = _ := a6
              clear a6
              have e7 : u 7 = _ := a7
              clear a7
              have e8 : u 8 = _ := a8
              clear a8
              have e9 : u 9 = _ := a9
              clear a9
              simp only [e0, e1, e2, e3, e4, e5, e6, e7, e8, e9]
              clear e0 e1 e2 e3 e4 e5 e6 e7 e8 e9
              have HCP2 := Lib.hid (HCP.out.later hD hbase)
              have HD2 := Lib.hid hD
              clear hD HCL HC2
              obtain ⟨bq, hbq⟩ : ∃ bq, eqAB x1 x2 x3 y1 y2 y3 = bq := ⟨_, rfl⟩
              rw [hbq]
              have HBQ := Lib.hid hbq
              clear hbq
              cases bq
              case' false =>
                have HNE : Hid (¬ (0 < k + t ∧ L[k + t]? = L[k + t - 1]?)) := Lib.hid (fun h => of_decide_eq_false HBQ.out (HEQ.out.1 h.2))
                have HCP3 := Lib.hid (HCP2.out.put hkl2 HNE.out (by rw [HLK.out]; exact hkt) HX.out HLK.out)
                have HLK3 : Hid ((ddN L (k + (t + 1))).length = kk + 1) := Lib.hid (by
                  show (ddN L (k + t + 1)).length = _
                  rw [ddN_new hkl2 HNE.out, List.length_append, HLK.out]; rfl)
                obtain ⟨z0, z1, z2⟩ := HC1.out wx HD2.out
                have hkki : (kk : Int) < (L.length : Int) := by omega
                obtain ⟨v0, m0⟩ := HCP2.out.there (i := kk * 3) (by omega)
                obtain ⟨v1, m1⟩ := HCP2.out.there (i := kk * 3 + 1) (by omega)
                obtain ⟨v2, m2⟩ := HCP2.out.there (i := kk * 3 + 2) (by omega)
                have f0 := HCP2.out.frozen (kk * 3)
                have f1 := HCP2.out.frozen (kk * 3 + 1)
                have f2 := HCP2.out.frozen (kk * 3 + 2)
                go_wp2_with fail
                go_roundw
                case rel => exact ⟨kk + 1, t + 1, by omega, by omega, by omega, by go_num, by go_num, HLK3, HCP3⟩
                case measure => simp [intOf]; omega
              case' true =>
                have HE : Hid (L[k + t]? = L[k + t - 1]?) := Lib.hid (HEQ.out.2 (of_decide_eq_true HBQ.out))
                have HCP3 : Hid (CpA w wx base g L.length cap L (k + (t + 1))) := Lib.hid (HCP2.out.same (by omega) HE.out)
                have HLK3 : Hid ((ddN L (k + (t + 1))).length = kk) := Lib.hid (by
                  show (ddN L (k + t + 1)).length = _
                  rw [ddN_same (by omega) HE.out]; exact HLK.out)
                go_wp2_with fail
                go_roundw
                case rel => exact ⟨kk, t + 1, by omega, by omega, by omega, rfl, by go_num, HLK3, HCP3⟩
                case measure => simp [intOf]; omega
            · have hte : k + t = L.length := by omega
              have htd2 : t = d := by omega
              have hkn : kk < L.length := by omega
              obtain ⟨hz1, hz2⟩ := zeroA_one (L.length - kk)
              generalize hzs : (Builtin.zeroCells #[.int .i64 0, .int .i64 0, .int .i64 0] (L.length - kk)).toList = zs at *
              have hcl := fun ty => run_clear_arcs (P := Tryd.prog) wr 46 66 ty (.agg #[.int .i64 0, .int .i64 0, .int .i64 0]) Tryd.underlying46 Tryd.zeroArc g (kk * 3) (L.length - kk) (cap - kk) (by omega) zs hzs hz2 (fun t ht => by obtain ⟨v, hv⟩ := HCP.out.there (i := kk * 3 + t) (by omega); rw [hv]; rfl) (fun t ht => HCP.out.frozen _)
              have HF : Hid (RetCo L base g cap w (.returned (.slice (some ⟨g, 0, none⟩) kk cap)) (wr.setCells g (kk * 3) zs)) := Lib.hid (HCP.out.ret (by omega) (by omega) HLK.out (by omega))
              have hne2 : ¬ cap = kk := by omega
              have hkki : (kk : Int) ≤ (cap : Int) := by omega
              have hkli : (kk : Int) ≤ (L.length : Int) := by omega
              have HZS := Lib.hid hzs
              clear hzs hz1 hz2 hte htd2
              go_wp2_with fail
              go_ret
              exact HF.out
      · have hke : k = L.length := by omega
        have F : Hid (RetCo L base g cap w (.returned (.slice (some ⟨g, 0, none⟩) L.length cap)) wr) := Lib.hid (by
          have hd := HD.out
          rw [hke, List.take_length] at hd
          unfold RetCo; rw [hd]; exact ⟨rfl, HO.out, HB.out⟩)
        go_wp2_with fail
        go_ret
        exact F.out
end Go.Proofs.YtklbehapbchnaaaDoor
