/-
  OpenPairs, CountPairs and IsComplete of the program.
-/
import Derived.Test.YtgoeadgpbidgiaaGreatDoorCpl31
import Derived.Lib.SliceRun
import Derived.Test.YtgoeadgpbidgiaaGreatDoorCpl14
namespace Go.Proofs.YtgoeadgpbidgiaaGreatDoor
open Go.RowKit
set_option linter.unusedVariables false
/-- clear of a part of a slice whose elements have several cells -/
theorem run_clear_rows {P : Program} (w : World) (t e ty : TypeId) (z : Value) (ht : P.underlying t = some (.slice e)) (hv : ∀ w, (zeroValue e).run P w = .ok z w) (b o n c : Nat) (hn : 0 < n) (zs : List Value) (hzs : (Builtin.zeroCells z.cells n).toList = zs) (h1 : ∀ v ∈ zs, v.oneCell' = true)
    (hc : ∀ j, j < zs.length → (w.cell? ⟨b, o + j, none⟩).isSome = true) (hf : ∀ j, j < zs.length → w.frozen? ⟨b, o + j, none⟩ = false) :
    (Builtin.clear_ #[t] ty #[.slice (some ⟨b, o, none⟩) n c]).run P w = .ok (.tuple #[]) (w.setCells b o zs) := by
  have hst := run_storeCells_cells (P := P) b o zs 0 w (by simpa using hc) (by simpa using hf) h1
  simp only [Nat.add_zero] at hst
  obtain ⟨m, rfl⟩ : ∃ m, n = m + 1 := ⟨n - 1, by omega⟩
  simp [Builtin.clear_, run_underlying ht, hv, hzs, hst]
/-- what is asked of the function -/
def PredP (R : List RulD) (g : Nat) (caps : Array Value) (S : List PairD) (B : Nat) (w : World) : Prop := ∀ j (h : j < S.length), ∀ W, Below B w W → Calls Tryz.prog g (#[pairVal S[j]] ++ caps) W (RetP (Joined R S[j]) W)
/-- what IndexFunc hands back -/
def RetIxP (R : List RulD) (S : List PairD) (w : World) (e : Ending) (w' : World) : Prop :=
  Below w.heap.size w w' ∧ ((openL R S = S ∧ e = .returned (.int .i64 (-1))) ∨ ∃ (i : Nat) (h : i < S.length), openL R (S.take i) = S.take i ∧ Joined R S[i] ∧ e = .returned (.int .i64 (i : Nat)))
set_option maxRecDepth 100000 in
set_option maxHeartbeats 2000000 in
theorem indexPairs_any (R : List RulD) (g : Nat) (caps : Array Value) (S : List PairD) (a : Option Addr) (cap : Nat) (w : World) (hl : RowsIn prV w a S) (hlen : S.length ≤ 5000) (B : Nat) (hB : B ≤ w.heap.size) (hf : PredP R g caps S B w) (eg : ∀ args w, (callFunc g args).run Tryz.prog w = .ok (.enter g args) w) :
    Calls Tryz.prog 136 #[.slice a S.length cap, .func (.func g) #[] caps] w (RetIxP R S w) := by
  have HF := Lib.hid hf
  have HL := Lib.hid hl
  clear hf hl
  go_enter Tryz.func136, Tryz.ntmps136
  go_wp2_with fail
  go_loopw [8] (fun i wr => ∃ j : Nat, j ≤ S.length ∧ i = .int .i64 j ∧ Hid (openL R (S.take j) = S.take j) ∧ Below w.heap.size w wr) (fun i _ => S.length - (intOf i).toNat)
  case atStart => exact ⟨0, Nat.zero_le _, rfl, Lib.hid rfl, Below.refl _ _⟩
  case round =>
    obtain ⟨j, hj, rfl, HNO, hbw⟩ := hrel
    have HBW := Lib.hid hbw
    by_cases hlt : j < S.length
    · obtain ⟨b2, off2, rfl, hb2, hcs⟩ := RowsIn.cell prV_len (by omega) (HL.out.later hbw) hlt
      have c0 : wr.cell? ⟨b2, off2 + j * 5, none⟩ = some (.string S[j].1) := hcs j hlt 0 _ rfl
      have c1 : wr.cell? ⟨b2, off2 + j * 5 + 1, none⟩ = some (.int .i64 (S[j].2.1 : Nat)) := hcs j hlt 1 _ rfl
      have c2 : wr.cell? ⟨b2, off2 + j * 5 + 2, none⟩ = some (.int .i64 0) := hcs j hlt 2 _ rfl
      have c3 : wr.cell? ⟨b2, off2 + j * 5 + 3, none⟩ = some (.int .i64 (S[j].2.2.1 : Nat)) := hcs j hlt 3 _ rfl
      have c4 : wr.cell? ⟨b2, off2 + j * 5 + 4, none⟩ = some (.int .i64 (S[j].2.2.2 : Nat)) := hcs j hlt 4 _ rfl
      have HC := Lib.hid (HF.out j hlt wr (hbw.mono hB))
      have HYES : Hid (Joined R S[j] → RetIxP R S w (.returned (.int .i64 (j : Nat))) = RetIxP R S w (.returned (.int .i64 (j : Nat)))) := Lib.hid (fun _ => rfl)
      have HT := Lib.hid (openL_take (R := R) hlt)
      have HTS : Hid (S.take (j + 1) = S.take j ++ [S[j]]) := Lib.hid (List.take_succ_eq_append_getElem hlt)
      have HRI : Hid (∀ W, Joined R S[j] → Below w.heap.size w W → RetIxP R S w (.returned (.int .i64 (j : Nat))) W) := Lib.hid (fun W h hb => ⟨hb, .inr ⟨j, hlt, HNO.out, h, rfl⟩⟩)
      unfold pairVal at HC
      clear hcs hbw HYES
      generalize S[j] = p at *
      obtain ⟨u, x, y, z⟩ := p
      go_wp2_with fail
      refine HC.out.mono ?_
      rintro e w5 ⟨bb, hbb, rfl, hb5⟩
      have HB5 := Lib.hid (Below.now HBW.out hb5)
      have HBB := Lib.hid hbb
      clear hb5 hbb c0 c1 c2 c3 c4 HC
      cases bb
      · have HNY : Hid (openL R (S.take (j + 1)) = S.take (j + 1)) := Lib.hid (by
          rw [HT.out, HNO.out, openL_no (fun h => by have := HBB.out.2 h; cases this), HTS.out])
        go_wp2_with fail
        go_roundw
        case rel => exact ⟨j + 1, by omega, by go_num, HNY, HB5.out⟩
        case measure => simp [intOf]; omega
      · have F := Lib.hid (HRI.out _ (HBB.out.1 rfl) HB5.out)
        go_wp2_with fail
        go_ret
        exact F.out
    · obtain rfl : j = S.length := by omega
      have F : Hid (RetIxP R S w (.returned (.int .i64 (-1))) wr) := Lib.hid ⟨hbw, .inl ⟨by have h := HNO.out; rw [List.take_length] at h; exact h, rfl⟩⟩
      go_wp2_with fail
      go_ret
      exact F.out
/-- a row of pairs of which some are being deleted: those from j on are as they were -/
def DelP (w wr : World) (base g n cap : Nat) (S : List PairD) (j : Nat) : Prop :=
  ∃ xs, wr.ownsRow base 122 5 (.slice (some ⟨g, 0, none⟩) n cap) n xs ∧ xs.drop (j * 5) = (cellsL prV S).drop (j * 5) ∧ Below base w wr ∧ n = S.length
theorem DelP.cell {w wr : World} {base g n cap : Nat} {S : List PairD} {j : Nat} (h : DelP w wr base g n cap S j) (hj : j < S.length) {c : Nat} {v : Value} (hv : (prV S[j])[c]? = some v) : wr.cell? ⟨g, j * 5 + c, none⟩ = some v := by
  obtain ⟨xs, ho, hd, hb, rfl⟩ := h
  have h1 := ho.1
  have hc : c < 5 := (List.getElem?_eq_some_iff.1 hv).1
  rw [ho.cellAt (j * 5 + c) (by omega)]
  have h2 : (xs.drop (j * 5))[c]? = ((cellsL prV S).drop (j * 5))[c]? := by rw [hd]
  rw [List.getElem?_drop, List.getElem?_drop, cellsL_at prV_len S j hj c hc, hv] at h2
  exact h2
theorem DelP.there {w wr : World} {base g n cap : Nat} {S : List PairD} {j : Nat} (h : DelP w wr base g n cap S j) {i : Nat} (hi : i < n * 5) : ∃ v, wr.cell? ⟨g, i, none⟩ = some v := by
  obtain ⟨xs, ho, _⟩ := h
  have h1 := ho.1
  exact ⟨xs[i]'(by omega), by rw [ho.cellAt i (by omega), List.getElem?_eq_getElem]⟩
theorem DelP.frozen {w wr : World} {base g n cap : Nat} {S : List PairD} {j : Nat} (h : DelP w wr base g n cap S j) (i : Nat) : wr.frozen? ⟨g, i, none⟩ = false := by
  obtain ⟨xs, ho, _⟩ := h
  exact ho.frozenAt i
theorem DelP.base {w wr : World} {base g n cap : Nat} {S : List PairD} {j : Nat} (h : DelP w wr base g n cap S j) : base ≤ g := by
  obtain ⟨xs, ho, _⟩ := h
  exact (ho.lt g rfl).1
theorem DelP.later {w wr wr' : World} {base g n cap : Nat} {S : List PairD} {j : Nat} (h : DelP w wr base g n cap S j) (hb' : Below wr.heap.size wr wr') (hbase : base ≤ w.heap.size) : DelP w wr' base g n cap S j := by
  obtain ⟨xs, ho, hd, hb, hn⟩ := h
  exact ⟨xs, owns_later ho hb', hd, hb.trans (hb'.mono (Nat.le_trans hbase hb.size)), hn⟩
theorem DelP.skip {w wr : World} {base g n cap : Nat} {S : List PairD} {j : Nat} (h : DelP w wr base g n cap S j) : DelP w wr base g n cap S (j + 1) := by
  obtain ⟨xs, ho, hd, hb, hn⟩ := h
  refine ⟨xs, ho, ?_, hb, hn⟩
  rw [Nat.succ_mul, ← List.drop_drop, ← List.drop_drop, hd]
theorem DelP.set {w wr : World} {base g n cap : Nat} {S : List PairD} {j : Nat} (h : DelP w wr base g n cap S j) {i : Nat} (hi : i < j * 5) (u : Value) : DelP w (wr.setCell ⟨g, i, none⟩ u) base g n cap S j := by
  have hbg := h.base
  obtain ⟨xs, ho, hd, hb, hn⟩ := h
  refine ⟨xs.set i u, (ho.stored _ _).1, ?_, hb.setCell hbg _, hn⟩
  rw [List.drop_set_of_lt (by omega), hd]
theorem DelP.fill {w : World} {base g n cap : Nat} {S : List PairD} {j : Nat} : ∀ (zs : List Value) (o : Nat) (wr : World), DelP w wr base g n cap S j → o + zs.length ≤ j * 5 → Below base w (wr.setCells g o zs)
  | [], o, wr, h, _ => by obtain ⟨xs, ho, hd, hb, hn⟩ := h; exact hb
  | z :: zs, o, wr, h, hz => DelP.fill zs (o + 1) _ (h.set (by simp at hz; omega) z) (by simp at hz; omega)
theorem Tryz.zeroPair (w : World) : (zeroValue 122).run Tryz.prog w = .ok (.agg #[.string ⟨#[]⟩, .int .i64 0, .int .i64 0, .int .i64 0, .int .i64 0]) w := by kernel_rfl
theorem zero_one (n : Nat) : ((Builtin.zeroCells #[.string ⟨#[]⟩, .int .i64 0, .int .i64 0, .int .i64 0, .int .i64 0] n).toList.length = n * 5) ∧ ∀ v ∈ (Builtin.zeroCells #[.string ⟨#[]⟩, .int .i64 0, .int .i64 0, .int .i64 0, .int .i64 0] n).toList, v.oneCell' = true := by
  unfold Builtin.zeroCells
  refine ⟨by simp, fun v hv => ?_⟩
  simp only [Array.toList_map, List.mem_map] at hv
  obtain ⟨i, _, rfl⟩ := hv
  have h : i % 5 = 0 ∨ i % 5 = 1 ∨ i % 5 = 2 ∨ i % 5 = 3 ∨ i % 5 = 4 := by omega
  have e : (#[Value.string ⟨#[]⟩, .int .i64 0, .int .i64 0, .int .i64 0, .int .i64 0] : Array Value).size = 5 := rfl
  rw [e]
  rcases h with h | h | h | h | h <;> rw [h] <;> rfl
end Go.Proofs.YtgoeadgpbidgiaaGreatDoor
namespace Go.Proofs.YtgoeadgpbidgiaaGreatDoor
open Go.RowKit
set_option linter.unusedVariables false
/-- what DeleteFunc hands back: a slice of so many pairs -/
def RetDel (R : List RulD) (S : List PairD) (base : Nat) (w : World) (e : Ending) (w' : World) : Prop := ∃ a cap, e = .returned (.slice a (openL R S).length cap) ∧ Below base w w'
set_option maxRecDepth 100000 in
set_option maxHeartbeats 2000000 in
theorem deletePairs_any (R : List RulD) (g0 : Nat) (caps : Array Value) (S : List PairD) (a : Option Addr) (cap base : Nat) (w : World) (ho : w.ownsRow base 122 5 (.slice a S.length cap) S.length (cellsL prV S)) (hlen : S.length ≤ 5000) (hbase : base ≤ w.heap.size) (hf : PredP R g0 caps S base w) (eg : ∀ args w, (callFunc g0 args).run Tryz.prog w = .ok (.enter g0 args) w) :
    Calls Tryz.prog 90 #[.slice a S.length cap, .func (.func g0) #[] caps] w (RetDel R S base w) := by
  have HI := Lib.hid (indexPairs_any R g0 caps S a cap w (owns_rows ho) hlen base hbase hf eg)
  have HF := Lib.hid hf
  have HO := Lib.hid ho
  clear hf ho
  go_enter Tryz.func90, Tryz.ntmps90
  go_wp2_with fail
  refine HI.out.mono ?_
  rintro e w2 ⟨hb2, ⟨hk, rfl⟩ | ⟨i, hi, hk, hj, rfl⟩⟩
  · have F : Hid (RetDel R S base w (.returned (.slice a S.length cap)) w2) := Lib.hid ⟨a, cap, by rw [hk], hb2.mono hbase⟩
    clear hk hb2
    go_wp2_with fail
    go_ret
    exact F.out
  · rcases HO.out.2 with ⟨hv, h0⟩ | ⟨g, cap', cur, hv, hbg, hg, hnc, hcm, hs, ht⟩
    · omega
    simp only [Value.slice.injEq] at hv
    obtain ⟨rfl, _, rfl⟩ := hv
    have HD0 : Hid (DelP w w2 base g S.length cap S (i + 1)) := Lib.hid (DelP.skip ⟨cellsL prV S, owns_later HO.out hb2, rfl, hb2.mono hbase, rfl⟩)
    have hkl : (openL R (S.take (i + 1))).length = i := by
      rw [openL_take hi, hk, openL_yes hj, List.append_nil, List.length_take]; omega
    have HKL := Lib.hid hkl
    unfold maxLen at hcm
    clear hk hj hb2 hg ht hs hkl
    have hi1 : (((i : Nat) : Int) == -1) = false := by rw [beq_eq_false_iff_ne]; omega
    go_wp2_with fail
    go_loopw [5, 6] (fun x y wr => ∃ (j kn : Nat), j ≤ S.length ∧ y = .int .i64 (j : Nat) ∧ x = .int .i64 (kn : Nat) ∧ kn < j ∧ Hid (kn = (openL R (S.take j)).length) ∧ DelP w wr base g S.length cap S j) (fun _ y _ => S.length - (intOf y).toNat)
    case atStart => exact ⟨i + 1, i, by omega, by go_num, rfl, by omega, Lib.hid HKL.out.symm, HD0.out⟩
    case round =>
      clear HD0 HKL
      obtain ⟨j, kn, hj, rfl, rfl, hkj, HK, hd⟩ := hrel
      have HD := Lib.hid hd
      by_cases hlt : j < S.length
      · have c0 : wr.cell? ⟨g, j * 5, none⟩ = some (.string S[j].1) := hd.cell hlt (c := 0) rfl
        have c1 : wr.cell? ⟨g, j * 5 + 1, none⟩ = some (.int .i64 (S[j].2.1 : Nat)) := hd.cell hlt (c := 1) rfl
        have c2 : wr.cell? ⟨g, j * 5 + 2, none⟩ = some (.int .i64 0) := hd.cell hlt (c := 2) rfl
        have c3 : wr.cell? ⟨g, j * 5 + 3, none⟩ = some (.int .i64 (S[j].2.2.1 : Nat)) := hd.cell hlt (c := 3) rfl
        have c4 : wr.cell? ⟨g, j * 5 + 4, none⟩ = some (.int .i64 (S[j].2.2.2 : Nat)) := hd.cell hlt (c := 4) rfl
        have hbw : Below base w wr := by obtain ⟨_, _, _, hb, _⟩ := hd; exact hb
        have HC := Lib.hid (fun o => HF.out j hlt (wr.alloc o) (hbw.trans ((alloc_belowS wr o).mono (Nat.le_trans hbase hbw.size))))
        have HT := Lib.hid (openL_take (R := R) hlt)
        unfold pairVal at HC
        clear hd
        generalize S[j] = p at *
        obtain ⟨u, x, y, z⟩ := p
        go_wp2_with fail
        refine (HC.out _).mono ?_
        rintro e w5 ⟨bb, hbb, rfl, hb5⟩
        have HD5 := Lib.hid (HD.out.later (Below.now (alloc_belowS wr _) hb5) hbase)
        obtain ⟨k0, k1, k2, k3, k4⟩ := pairAt_box (p := (u, x, y, z)) hb5
        have HBB := Lib.hid hbb
        clear hb5 hbb c0 c1 c2 c3 c4 HC hbw
        cases bb
        · have HK2 : Hid (kn + 1 = (openL R (S.take (j + 1))).length) := Lib.hid (by
            rw [HT.out, openL_no (fun h => by have := HBB.out.2 h; cases this), List.length_append, ← HK.out]; rfl)
          have hd5 := HD5.out
          obtain ⟨v0, m0⟩ := hd5.there (i := kn * 5) (by omega)
          obtain ⟨v1, m1⟩ := hd5.there (i := kn * 5 + 1) (by omega)
          obtain ⟨v2, m2⟩ := hd5.there (i := kn * 5 + 2) (by omega)
          obtain ⟨v3, m3⟩ := hd5.there (i := kn * 5 + 3) (by omega)
          obtain ⟨v4, m4⟩ := hd5.there (i := kn * 5 + 4) (by omega)
          have z0 := hd5.frozen (kn * 5)
          have z1 := hd5.frozen (kn * 5 + 1)
          have z2 := hd5.frozen (kn * 5 + 2)
          have z3 := hd5.frozen (kn * 5 + 3)
          have z4 := hd5.frozen (kn * 5 + 4)
          have HD6 := Lib.hid (((((hd5.set (i := kn * 5) (by omega) (.string u)).set (i := kn * 5 + 1) (by omega) (.int .i64 (x : Nat))).set (i := kn * 5 + 2) (by omega) (.int .i64 0)).set (i := kn * 5 + 3) (by omega) (.int .i64 (y : Nat))).set (i := kn * 5 + 4) (by omega) (.int .i64 (z : Nat))).skip
          clear hd5
          go_wp2_with fail
          go_roundw
          case rel => exact ⟨j + 1, kn + 1, by omega, by go_num, by go_num, by omega, HK2, HD6.out⟩
          case measure => simp [intOf]; omega
        · have HK2 : Hid (kn = (openL R (S.take (j + 1))).length) := Lib.hid (by
            rw [HT.out, openL_yes (HBB.out.1 rfl), List.append_nil]; exact HK.out)
          have HD6 := Lib.hid HD5.out.skip
          clear k0 k1 k2 k3 k4
          go_wp2_with fail
          go_roundw
          case rel => exact ⟨j + 1, kn, by omega, by go_num, rfl, by omega, HK2, HD6.out⟩
          case measure => simp [intOf]; omega
      · obtain rfl : j = S.length := by omega
        obtain ⟨hz1, hz2⟩ := zero_one (S.length - kn)
        generalize hzs : (Builtin.zeroCells #[.string ⟨#[]⟩, .int .i64 0, .int .i64 0, .int .i64 0, .int .i64 0] (S.length - kn)).toList = zs at *
        have hcl := fun ty => run_clear_rows (P := Tryz.prog) wr 77 122 ty (.agg #[.string ⟨#[]⟩, .int .i64 0, .int .i64 0, .int .i64 0, .int .i64 0]) Tryz.underlying77 Tryz.zeroPair g (kn * 5) (S.length - kn) (cap - kn) (by omega) zs hzs hz2 (fun t ht => by obtain ⟨v, hv⟩ := hd.there (i := kn * 5 + t) (by omega); rw [hv]; rfl) (fun t ht => hd.frozen _)
        have HF2 : Hid (RetDel R S base w (.returned (.slice (some ⟨g, 0, none⟩) kn cap)) (wr.setCells g (kn * 5) zs)) := Lib.hid ⟨_, _, by
          have h := HK.out
          rw [List.take_length] at h
          rw [h], DelP.fill zs (kn * 5) wr hd (by omega)⟩
        have hne : ¬ cap = kn := by omega
        have HZS := Lib.hid hzs
        clear hd hzs hz1 hz2
        go_wp2_with fail
        go_ret
        exact HF2.out
end Go.Proofs.YtgoeadgpbidgiaaGreatDoor
namespace Go.Proofs.YtgoeadgpbidgiaaGreatDoor
open Go.RowKit
set_option linter.unusedVariables false
set_option maxHeartbeats 1000000 in
theorem openPairs1_any (k : Int) (R : List RulD) (a : Option Addr) (cap : Nat) (bx : Nat) (p : PairD) (w : World) (hl : RulesIn w a R) (hs : sysP k R) (hp : PairOk R k p) (hb : w.cell? ⟨bx, 0, none⟩ = some (.int .i64 k) ∧ w.cell? ⟨bx, 1, none⟩ = some (.slice a R.length cap)) :
    Calls Tryz.prog 92 #[pairVal p, .pointer (some ⟨bx, 0, none⟩)] w (RetP (Joined R p) w) := by
  have HIJ := Lib.hid (fun W h => implIsJoined_any k R a cap p W h hs hp)
  have HL := Lib.hid hl
  have HPO : Hid (Obj.cells #[.string p.1, .int .i64 (p.2.1 : Nat), .int .i64 0, .int .i64 (p.2.2.1 : Nat), .int .i64 (p.2.2.2 : Nat)] 122 = pairObj p) := Lib.hid rfl
  have HA := Lib.hid (fun o => alloc_belowS w o)
  have s0 := fun o => by have h := (alloc_belowS w o).cell (World.block_lt_of_cell? w _ hb.1); exact h.trans hb.1
  have s1 := fun o => by have h := (alloc_belowS w o).cell (World.block_lt_of_cell? w _ hb.2); exact h.trans hb.2
  clear hl hs hp hb
  unfold pairVal at HIJ
  unfold pairVal
  obtain ⟨u, x, y, z⟩ := p
  go_enter Tryz.func92, Tryz.ntmps92
  go_wp2_with fail
  refine (HIJ.out _ (HL.out.later (HA.out _))).mono ?_
  rintro e w2 ⟨bb, hbb, rfl, hb2⟩
  have F : Hid (RetP (Joined R (u, x, y, z)) w (.returned (.bool bb)) w2) := Lib.hid ⟨bb, hbb, rfl, Below.now (HA.out _) hb2⟩
  clear hbb hb2 s0 s1
  go_wp2_with fail
  go_ret
  exact F.out
set_option maxRecDepth 100000 in
set_option maxHeartbeats 1000000 in
theorem implOpenPairs_any (k : Int) (R : List RulD) (a : Option Addr) (cap : Nat) (w : World) (hl : RulesIn w a R) (hs : sysP k R) :
    Calls Tryz.prog 46 #[.agg #[.int .i64 k, .slice a R.length cap]] w fun e w' => ∃ a2 c2, e = .returned (.slice a2 (openF R).length c2) ∧ Below w.heap.size w w' := by
  have HPF := Lib.hid (fun W h => implPairsOf_any k R a cap W h hs)
  have HSZ : (pairsF R).length ≤ 2496 := by
    have h := pairTo_len (left8 hs) hs.1.1.2 (i := R.length) (j := 0) hs.1.1.2 (by omega)
    rw [pairTo_done] at h
    exact h
  have hb1 := alloc_belowS w (.cells #[.int .i64 k, .slice a R.length cap] 33)
  have HBX := Lib.hid (fun W2 (h : Below (w.alloc (.cells #[.int .i64 k, .slice a R.length cap] 33)).heap.size (w.alloc (.cells #[.int .i64 k, .slice a R.length cap] 33)) W2) => box_two h)
  have HW1 := Lib.hid hb1
  have HL := Lib.hid (hl.later hb1)
  have e1 : (w.alloc (.cells #[.int .i64 k, .slice a R.length cap] 33)).heap.size = w.heap.size + 1 := by simp
  have HPR : Hid (PredP R 92 #[.pointer (some ⟨w.heap.size, 0, none⟩)] (pairsF R) (w.heap.size + 1) (w.alloc (.cells #[.int .i64 k, .slice a R.length cap] 33))) := Lib.hid (fun j h W hW => openPairs1_any k R a cap w.heap.size _ W (HL.out.later (by rw [e1]; exact hW)) hs (pairOk hs (List.getElem_mem h)) (HBX.out W (by rw [e1]; exact hW)))
  have HDF := Lib.hid (fun a5 c5 W h1 h2 h3 => deletePairs_any R 92 #[.pointer (some ⟨w.heap.size, 0, none⟩)] (pairsF R) a5 c5 (w.heap.size + 1) W h1 (by omega) h2 h3 (enters_of Tryz.func92 (by kernel_rfl) rfl))
  clear hl hs hb1
  go_enter Tryz.func46, Tryz.ntmps46
  go_wp2_with fail
  generalize w.alloc (.cells #[.int .i64 k, .slice a R.length cap] 33) = w1 at *
  refine (HPF.out _ HL.out).mono ?_
  rintro e w2 ⟨a2, c2, rfl, ho, hb2⟩
  have HO := Lib.hid ho
  have HB2 := Lib.hid hb2
  have HDC := Lib.hid (HDF.out a2 c2 w2 (owns_mono ho (by omega)) (by have := hb2.size; omega) (fun j h W hW => HPR.out j h W (by
    have h4 : Below (w.heap.size + 1) w1 w2 := by rw [← e1]; exact hb2
    exact h4.trans hW)))
  clear ho hb2 HPF HDF
  go_wp2_with fail
  refine HDC.out.mono ?_
  rintro e w3 ⟨a3, c3, rfl, hb3⟩
  have F : Hid (Below w.heap.size w w3) := Lib.hid (HW1.out.trans ((Below.trans (by have h := HB2.out; rw [e1] at h; exact h) hb3).mono (by omega)))
  clear hb3
  go_wp2_with fail
  go_ret
  exact ⟨a3, c3, rfl, F.out⟩
set_option maxRecDepth 100000 in
set_option maxHeartbeats 2000000 in
theorem implIsComplete_any (k : Int) (R : List RulD) (a : Option Addr) (cap : Nat) (w : World) (hl : RulesIn w a R) (hlen : R.length ≤ 2 ^ 40) (hz : SzR R) :
    Calls Tryz.prog 16 #[.agg #[.int .i64 k, .slice a R.length cap]] w (RetP (ComplP k R) w) := by
  have HSO := Lib.hid (fun W h => implSystemOk_any k R a cap W h hlen hz)
  have HO := Lib.hid (fun W h hs => implOpenPairs_any k R a cap W h hs)
  have hb1 := alloc_belowS w (.cells #[.int .i64 k, .slice a R.length cap] 33)
  have HBX := Lib.hid (fun W2 (h : Below (w.alloc (.cells #[.int .i64 k, .slice a R.length cap] 33)).heap.size (w.alloc (.cells #[.int .i64 k, .slice a R.length cap] 33)) W2) => box_two h)
  have HW1 := Lib.hid hb1
  have HL := Lib.hid (hl.later hb1)
  clear hl hb1 hz
  go_enter Tryz.func16, Tryz.ntmps16
  go_wp2_with fail
  generalize w.alloc (.cells #[.int .i64 k, .slice a R.length cap] 33) = w1 at *
  refine (HSO.out _ HL.out).mono ?_
  rintro e w2 ⟨bb, hbb, rfl, hb2⟩
  have HBB := Lib.hid hbb
  have HB2 := Lib.hid hb2
  obtain ⟨s0, s1⟩ := HBX.out w2 hb2
  clear hbb hb2
  cases bb
  · have F : Hid (RetP (ComplP k R) w (.returned (.bool false)) w2) := Lib.hid (RetP.no (fun h => by have := HBB.out.2 h.1; cases this) (Below.now HW1.out HB2.out))
    go_wp2_with fail
    go_ret
    exact F.out
  · have HSP := Lib.hid (HBB.out.1 rfl)
    go_wp2_with fail
    refine (HO.out _ (HL.out.later HB2.out) HSP.out).mono ?_
    rintro e w3 ⟨a3, c3, rfl, hb3⟩
    have HB3 := Lib.hid (Below.now HW1.out (Below.now HB2.out hb3))
    clear hb3 s0 s1
    by_cases h0 : (openF R).length = 0
    · have F : Hid (RetP (ComplP k R) w (.returned (.bool true)) w3) := Lib.hid (RetP.yes ⟨HSP.out, List.length_eq_zero_iff.1 h0⟩ HB3.out)
      have hb : (((openF R).length : Int) == 0) = true := by rw [h0]; rfl
      clear h0
      go_wp2_with fail
      go_ret
      exact F.out
    · have F : Hid (RetP (ComplP k R) w (.returned (.bool false)) w3) := Lib.hid (RetP.no (fun h => h0 (by rw [h.2]; rfl)) HB3.out)
      have hb : (((openF R).length : Int) == 0) = false := by rw [beq_eq_false_iff_ne]; omega
      clear h0
      go_wp2_with fail
      go_ret
      exact F.out
end Go.Proofs.YtgoeadgpbidgiaaGreatDoor
