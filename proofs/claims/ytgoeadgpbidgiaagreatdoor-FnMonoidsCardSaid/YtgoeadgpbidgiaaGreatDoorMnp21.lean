/-
  Sorting and collecting a list of integers of the call's own.
-/
import Derived.Test.YtgoeadgpbidgiaaGreatDoorMnp20
import Derived.Test.YtgoeadgpbidgiaaGreatDoorMnp13
import Derived.Test.YtgoeadgpbidgiaaGreatDoorMnp18
import Derived.Test.YtgoeadgpbidgiaaGreatDoorMnp19
import Derived.Lib.SlicesS
import Derived.Test.YtgoeadgpbidgiaaGreatDoorMnp03
import Derived.Test.YtgoeadgpbidgiaaGreatDoorMnp07
import Derived.Test.YtgoeadgpbidgiaaGreatDoorMnp16
import Derived.Test.YtgoeadgpbidgiaaGreatDoorMnp02
import Derived.Sort.OwnSortedInts
namespace Go.Proofs.YtgoeadgpbidgiaaGreatDoor
open Go.RowKit
set_option linter.unusedVariables false
/-- what DeleteFunc hands back: a slice of so many pairs -/
def RetDel (R : List RulD) (S : List PairD) (base : Nat) (w : World) (e : Ending) (w' : World) : Prop := ∃ a cap, e = .returned (.slice a (openL R S).length cap) ∧ Below base w w'
set_option maxRecDepth 100000 in
set_option maxHeartbeats 2000000 in
theorem deletePairs_any (R : List RulD) (g0 : Nat) (caps : Array Value) (S : List PairD) (a : Option Addr) (cap base : Nat) (w : World) (ho : w.ownsRow base 122 5 (.slice a S.length cap) S.length (cellsL prV S)) (hlen : S.length ≤ 5000) (hbase : base ≤ w.heap.size) (hf : PredP R g0 caps S base w) (eg : ∀ args w, (callFunc g0 args).run Tryz.prog w = .ok (.enter g0 args) w) :
    Calls Tryz.prog 90 #[.slice a S.length cap, .func (.func g0) #[] caps] w (RetDel R S base w) := by
  have HI := Lib.hid (indexPairs_any R g0 caps S a cap w (owns_rows ho) hlen base hbase hf eg)
  have HF := Lib.hid hf
  have HO := Lib.hid ho
  clear hf ho
  go_enter Tryz.func90, Tryz.ntmps90
  go_wp2_with fail
  refine HI.out.mono ?_
  rintro e w2 ⟨hb2, ⟨hk, rfl⟩ | ⟨i, hi, hk, hj, rfl⟩⟩
  · have F : Hid (RetDel R S base w (.returned (.slice a S.length cap)) w2) := Lib.hid ⟨a, cap, by rw [hk], hb2.mono hbase⟩
    clear hk hb2
    go_wp2_with fail
    go_ret
    exact F.out
  · rcases HO.out.2 with ⟨hv, h0⟩ | ⟨g, cap', cur, hv, hbg, hg, hnc, hcm, hs, ht⟩
    · omega
    simp only [Value.slice.injEq] at hv
    obtain ⟨rfl, _, rfl⟩ := hv
    have HD0 : Hid (DelP w w2 base g S.length cap S (i + 1)) := Lib.hid (DelP.skip ⟨cellsL prV S, owns_later HO.out hb2, rfl, hb2.mono hbase, rfl⟩)
    have hkl : (openL R (S.take (i + 1))).length = i := by
      rw [openL_take hi, hk, openL_yes hj, List.append_nil, List.length_take]; omega
    have HKL := Lib.hid hkl
    unfold maxLen at hcm
    clear hk hj hb2 hg ht hs hkl
    have hi1 : (((i : Nat) : Int) == -1) = false := by rw [beq_eq_false_iff_ne]; omega
    go_wp2_with fail
    go_loopw [5, 6] (fun x y wr => ∃ (j kn : Nat), j ≤ S.length ∧ y = .int .i64 (j : Nat) ∧ x = .int .i64 (kn : Nat) ∧ kn < j ∧ Hid (kn = (openL R (S.take j)).length) ∧ DelP w wr base g S.length cap S j) (fun _ y _ => S.length - (intOf y).toNat)
    case atStart => exact ⟨i + 1, i, by omega, by go_num, rfl, by omega, Lib.hid HKL.out.symm, HD0.out⟩
    case round =>
      clear HD0 HKL
      obtain ⟨j, kn, hj, rfl, rfl, hkj, HK, hd⟩ := hrel
      have HD := Lib.hid hd
      by_cases hlt : j < S.length
      · have c0 : wr.cell? ⟨g, j * 5, none⟩ = some (.string S[j].1) := hd.cell hlt (c := 0) rfl
        have c1 : wr.cell? ⟨g, j * 5 + 1, none⟩ = some (.int .i64 (S[j].2.1 : Nat)) := hd.cell hlt (c := 1) rfl
        have c2 : wr.cell? ⟨g, j * 5 + 2, none⟩ = some (.int .i64 0) := hd.cell hlt (c := 2) rfl
        have c3 : wr.cell? ⟨g, j * 5 + 3, none⟩ = some (.int .i64 (S[j].2.2.1 : Nat)) := hd.cell hlt (c := 3) rfl
        have c4 : wr.cell? ⟨g, j * 5 + 4, none⟩ = some (.int .i64 (S[j].2.2.2 : Nat)) := hd.cell hlt (c := 4) rfl
        have hbw : Below base w wr := by obtain ⟨_, _, _, hb, _⟩ := hd; exact hb
        have HC := Lib.hid (fun o => HF.out j hlt (wr.alloc o) (hbw.trans ((alloc_belowS wr o).mono (Nat.le_trans hbase hbw.size))))
        have HT := Lib.hid (openL_take (R := R) hlt)
        unfold pairVal at HC
        clear hd
        generalize S[j] = p at *
        obtain ⟨u, x, y, z⟩ := p
        go_wp2_with fail
        refine (HC.out _).mono ?_
        rintro e w5 ⟨bb, hbb, rfl, hb5⟩
        have HD5 := Lib.hid (HD.out.later (Below.now (alloc_belowS wr _) hb5) hbase)
        obtain ⟨k0, k1, k2, k3, k4⟩ := pairAt_box (p := (u, x, y, z)) hb5
        have HBB := Lib.hid hbb
        clear hb5 hbb c0 c1 c2 c3 c4 HC hbw
        cases bb
        · have HK2 : Hid (kn + 1 = (openL R (S.take (j + 1))).length) := Lib.hid (by
            rw [HT.out, openL_no (fun h => by have := HBB.out.2 h; cases this), List.length_append, ← HK.out]; rfl)
          have hd5 := HD5.out
          obtain ⟨v0, m0⟩ := hd5.there (i := kn * 5) (by omega)
          obtain ⟨v1, m1⟩ := hd5.there (i := kn * 5 + 1) (by omega)
          obtain ⟨v2, m2⟩ := hd5.there (i := kn * 5 + 2) (by omega)
          obtain ⟨v3, m3⟩ := hd5.there (i := kn * 5 + 3) (by omega)
          obtain ⟨v4, m4⟩ := hd5.there (i := kn * 5 + 4) (by omega)
          have z0 := hd5.frozen (kn * 5)
          have z1 := hd5.frozen (kn * 5 + 1)
          have z2 := hd5.frozen (kn * 5 + 2)
          have z3 := hd5.frozen (kn * 5 + 3)
          have z4 := hd5.frozen (kn * 5 + 4)
          have HD6 := Lib.hid (((((hd5.set (i := kn * 5) (by omega) (.string u)).set (i := kn * 5 + 1) (by omega) (.int .i64 (x : Nat))).set (i := kn * 5 + 2) (by omega) (.int .i64 0)).set (i := kn * 5 + 3) (by omega) (.int .i64 (y : Nat))).set (i := kn * 5 + 4) (by omega) (.int .i64 (z : Nat))).skip
          clear hd5
          go_wp2_with fail
          go_roundw
          case rel => exact ⟨j + 1, kn + 1, by omega, by go_num, by go_num, by omega, HK2, HD6.out⟩
          case measure => simp [intOf]; omega
        · have HK2 : Hid (kn = (openL R (S.take (j + 1))).length) := Lib.hid (by
            rw [HT.out, openL_yes (HBB.out.1 rfl), List.append_nil]; exact HK.out)
          have HD6 := Lib.hid HD5.out.skip
          clear k0 k1 k2 k3 k4
          go_wp2_with fail
          go_roundw
          case rel => exact ⟨j + 1, kn, by omega, by go_num, rfl, by omega, HK2, HD6.out⟩
          case measure => simp [intOf]; omega
      · obtain rfl : j = S.length := by omega
        obtain ⟨hz1, hz2⟩ := zero_one (S.length - kn)
        generalize hzs : (Builtin.zeroCells #[.string ⟨#[]⟩, .int .i64 0, .int .i64 0, .int .i64 0, .int .i64 0] (S.length - kn)).toList = zs at *
        have hcl := fun ty => run_clear_rows (P := Tryz.prog) wr 77 122 ty (.agg #[.string ⟨#[]⟩, .int .i64 0, .int .i64 0, .int .i64 0, .int .i64 0]) Tryz.underlying77 Tryz.zeroPair g (kn * 5) (S.length - kn) (cap - kn) (by omega) zs hzs hz2 (fun t ht => by obtain ⟨v, hv⟩ := hd.there (i := kn * 5 + t) (by omega); rw [hv]; rfl) (fun t ht => hd.frozen _)
        have HF2 : Hid (RetDel R S base w (.returned (.slice (some ⟨g, 0, none⟩) kn cap)) (wr.setCells g (kn * 5) zs)) := Lib.hid ⟨_, _, by
          have h := HK.out
          rw [List.take_length] at h
          rw [h], DelP.fill zs (kn * 5) wr hd (by omega)⟩
        have hne : ¬ cap = kn := by omega
        have HZS := Lib.hid hzs
        clear hd hzs hz1 hz2
        go_wp2_with fail
        go_ret
        exact HF2.out
end Go.Proofs.YtgoeadgpbidgiaaGreatDoor
namespace Go.Proofs.YtgoeadgpbidgiaaGreatDoor
open Go.RowKit
set_option linter.unusedVariables false
set_option maxHeartbeats 1000000 in
theorem openPairs1_any (k : Int) (R : List RulD) (a : Option Addr) (cap : Nat) (bx : Nat) (p : PairD) (w : World) (hl : RulesIn w a R) (hs : sysP k R) (hp : PairOk R k p) (hb : w.cell? ⟨bx, 0, none⟩ = some (.int .i64 k) ∧ w.cell? ⟨bx, 1, none⟩ = some (.slice a R.length cap)) :
    Calls Tryz.prog 92 #[pairVal p, .pointer (some ⟨bx, 0, none⟩)] w (RetP (Joined R p) w) := by
  have HIJ := Lib.hid (fun W h => implIsJoined_any k R a cap p W h hs hp)
  have HL := Lib.hid hl
  have HPO : Hid (Obj.cells #[.string p.1, .int .i64 (p.2.1 : Nat), .int .i64 0, .int .i64 (p.2.2.1 : Nat), .int .i64 (p.2.2.2 : Nat)] 122 = pairObj p) := Lib.hid rfl
  have HA := Lib.hid (fun o => alloc_belowS w o)
  have s0 := fun o => by have h := (alloc_belowS w o).cell (World.block_lt_of_cell? w _ hb.1); exact h.trans hb.1
  have s1 := fun o => by have h := (alloc_belowS w o).cell (World.block_lt_of_cell? w _ hb.2); exact h.trans hb.2
  clear hl hs hp hb
  unfold pairVal at HIJ
  unfold pairVal
  obtain ⟨u, x, y, z⟩ := p
  go_enter Tryz.func92, Tryz.ntmps92
  go_wp2_with fail
  refine (HIJ.out _ (HL.out.later (HA.out _))).mono ?_
  rintro e w2 ⟨bb, hbb, rfl, hb2⟩
  have F : Hid (RetP (Joined R (u, x, y, z)) w (.returned (.bool bb)) w2) := Lib.hid ⟨bb, hbb, rfl, Below.now (HA.out _) hb2⟩
  clear hbb hb2 s0 s1
  go_wp2_with fail
  go_ret
  exact F.out
set_option maxRecDepth 100000 in
set_option maxHeartbeats 1000000 in
theorem implOpenPairs_any (k : Int) (R : List RulD) (a : Option Addr) (cap : Nat) (w : World) (hl : RulesIn w a R) (hs : sysP k R) :
    Calls Tryz.prog 46 #[.agg #[.int .i64 k, .slice a R.length cap]] w fun e w' => ∃ a2 c2, e = .returned (.slice a2 (openF R).length c2) ∧ Below w.heap.size w w' := by
  have HPF := Lib.hid (fun W h => implPairsOf_any k R a cap W h hs)
  have HSZ : (pairsF R).length ≤ 2496 := by
    have h := pairTo_len (left8 hs) hs.1.1.2 (i := R.length) (j := 0) hs.1.1.2 (by omega)
    rw [pairTo_done] at h
    exact h
  have hb1 := alloc_belowS w (.cells #[.int .i64 k, .slice a R.length cap] 33)
  have HBX := Lib.hid (fun W2 (h : Below (w.alloc (.cells #[.int .i64 k, .slice a R.length cap] 33)).heap.size (w.alloc (.cells #[.int .i64 k, .slice a R.length cap] 33)) W2) => box_two h)
  have HW1 := Lib.hid hb1
  have HL := Lib.hid (hl.later hb1)
  have e1 : (w.alloc (.cells #[.int .i64 k, .slice a R.length cap] 33)).heap.size = w.heap.size + 1 := by simp
  have HPR : Hid (PredP R 92 #[.pointer (some ⟨w.heap.size, 0, none⟩)] (pairsF R) (w.heap.size + 1) (w.alloc (.cells #[.int .i64 k, .slice a R.length cap] 33))) := Lib.hid (fun j h W hW => openPairs1_any k R a cap w.heap.size _ W (HL.out.later (by rw [e1]; exact hW)) hs (pairOk hs (List.getElem_mem h)) (HBX.out W (by rw [e1]; exact hW)))
  have HDF := Lib.hid (fun a5 c5 W h1 h2 h3 => deletePairs_any R 92 #[.pointer (some ⟨w.heap.size, 0, none⟩)] (pairsF R) a5 c5 (w.heap.size + 1) W h1 (by omega) h2 h3 (enters_of Tryz.func92 (by kernel_rfl) rfl))
  clear hl hs hb1
  go_enter Tryz.func46, Tryz.ntmps46
  go_wp2_with fail
  generalize w.alloc (.cells #[.int .i64 k, .slice a R.length cap] 33) = w1 at *
  refine (HPF.out _ HL.out).mono ?_
  rintro e w2 ⟨a2, c2, rfl, ho, hb2⟩
  have HO := Lib.hid ho
  have HB2 := Lib.hid hb2
  have HDC := Lib.hid (HDF.out a2 c2 w2 (owns_mono ho (by omega)) (by have := hb2.size; omega) (fun j h W hW => HPR.out j h W (by
    have h4 : Below (w.heap.size + 1) w1 w2 := by rw [← e1]; exact hb2
    exact h4.trans hW)))
  clear ho hb2 HPF HDF
  go_wp2_with fail
  refine HDC.out.mono ?_
  rintro e w3 ⟨a3, c3, rfl, hb3⟩
  have F : Hid (Below w.heap.size w w3) := Lib.hid (HW1.out.trans ((Below.trans (by have h := HB2.out; rw [e1] at h; exact h) hb3).mono (by omega)))
  clear hb3
  go_wp2_with fail
  go_ret
  exact ⟨a3, c3, rfl, F.out⟩
set_option maxRecDepth 100000 in
set_option maxHeartbeats 2000000 in
theorem implIsComplete_any (k : Int) (R : List RulD) (a : Option Addr) (cap : Nat) (w : World) (hl : RulesIn w a R) (hlen : R.length ≤ 2 ^ 40) (hz : SzR R) :
    Calls Tryz.prog 16 #[.agg #[.int .i64 k, .slice a R.length cap]] w (RetP (ComplP k R) w) := by
  have HSO := Lib.hid (fun W h => implSystemOk_any k R a cap W h hlen hz)
  have HO := Lib.hid (fun W h hs => implOpenPairs_any k R a cap W h hs)
  have hb1 := alloc_belowS w (.cells #[.int .i64 k, .slice a R.length cap] 33)
  have HBX := Lib.hid (fun W2 (h : Below (w.alloc (.cells #[.int .i64 k, .slice a R.length cap] 33)).heap.size (w.alloc (.cells #[.int .i64 k, .slice a R.length cap] 33)) W2) => box_two h)
  have HW1 := Lib.hid hb1
  have HL := Lib.hid (hl.later hb1)
  clear hl hb1 hz
  go_enter Tryz.func16, Tryz.ntmps16
  go_wp2_with fail
  generalize w.alloc (.cells #[.int .i64 k, .slice a R.length cap] 33) = w1 at *
  refine (HSO.out _ HL.out).mono ?_
  rintro e w2 ⟨bb, hbb, rfl, hb2⟩
  have HBB := Lib.hid hbb
  have HB2 := Lib.hid hb2
  obtain ⟨s0, s1⟩ := HBX.out w2 hb2
  clear hbb hb2
  cases bb
  · have F : Hid (RetP (ComplP k R) w (.returned (.bool false)) w2) := Lib.hid (RetP.no (fun h => by have := HBB.out.2 h.1; cases this) (Below.now HW1.out HB2.out))
    go_wp2_with fail
    go_ret
    exact F.out
  · have HSP := Lib.hid (HBB.out.1 rfl)
    go_wp2_with fail
    refine (HO.out _ (HL.out.later HB2.out) HSP.out).mono ?_
    rintro e w3 ⟨a3, c3, rfl, hb3⟩
    have HB3 := Lib.hid (Below.now HW1.out (Below.now HB2.out hb3))
    clear hb3 s0 s1
    by_cases h0 : (openF R).length = 0
    · have F : Hid (RetP (ComplP k R) w (.returned (.bool true)) w3) := Lib.hid (RetP.yes ⟨HSP.out, List.length_eq_zero_iff.1 h0⟩ HB3.out)
      have hb : (((openF R).length : Int) == 0) = true := by rw [h0]; rfl
      clear h0
      go_wp2_with fail
      go_ret
      exact F.out
    · have F : Hid (RetP (ComplP k R) w (.returned (.bool false)) w3) := Lib.hid (RetP.no (fun h => h0 (by rw [h.2]; rfl)) HB3.out)
      have hb : (((openF R).length : Int) == 0) = false := by rw [beq_eq_false_iff_ne]; omega
      clear h0
      go_wp2_with fail
      go_ret
      exact F.out
end Go.Proofs.YtgoeadgpbidgiaaGreatDoor
namespace Go.Proofs.YtgoeadgpbidgiaaGreatDoor
open Go.RowKit
set_option linter.unusedVariables false
theorem toList_ba {a b : ByteArray} : (a.toList == b.toList) = true ↔ a = b := bytes_eq
theorem idxB_lib (L : List ByteArray) (v : ByteArray) : idxB L v = Lib.idxOfS L v := by
  unfold idxB
  cases h : idxTo L v L.length with
  | none =>
    have h1 := Lib.idxOfS_miss L L.length v (fun j hj he => by
      unfold idxTo at h
      have := List.find?_eq_none.1 h j (List.mem_range.2 hj)
      exact this (toList_ba.2 he))
    rw [List.take_length] at h1
    exact h1.symm
  | some i =>
    unfold idxTo at h
    have h0 := List.mem_range.1 (List.mem_of_find?_eq_some h)
    have h2 := List.find?_some h
    have h1 := Lib.idxOfS_hit L L.length i v h0 (Nat.le_refl _) (toList_ba.1 h2) (fun j hj he => by
      have := List.find?_range_eq_some.1 h
      have h3 := this.2.2 j hj
      rw [Bool.not_eq_true'] at h3
      have h4 := toList_ba.2 he
      exact absurd (h4.symm.trans h3) (by decide))
    rw [List.take_length] at h1
    exact h1.symm
theorem indexS_any (v : ByteArray) (l : List ByteArray) (a : Option Addr) (cap : Nat) (w : World) (hl : StrsIn w a l) (hlen : l.length ≤ 2 ^ 47) :
    Calls Tryz.prog 55 #[.slice a l.length cap, .string v] w fun e w' => e = .returned (.int .i64 (idxB l v)) ∧ Below w.heap.size w w' := by
  rw [idxB_lib]
  by_cases h : l = []
  · subst h
    exact (Tryz.slices_Index_string_empty a cap v w).mono fun e w' ⟨h1, h2⟩ => ⟨h1, h2 ▸ Below.refl _ _⟩
  · obtain ⟨b, off, rfl, hb, hc⟩ := hl.cell (i := 0) (List.length_pos_iff.2 h)
    refine (Tryz.slices_Index_string b off l.length cap l v w (Nat.le_refl _) (by omega) hc).mono fun e w' ⟨h1, h2⟩ => ⟨?_, h2 ▸ Below.refl _ _⟩
    rw [List.take_length] at h1
    exact h1
theorem implNormal_c (k : Int) (R : List RulD) (a : Option Addr) (cap : Nat) (w0 : ByteArray) (w : World) (hl : RulesIn w a R) (hs : sysP k R) (hw : wordOkB k w0 = true) :
    Calls Tryz.prog 45 #[.agg #[.int .i64 k, .slice a R.length cap], .string w0] w fun e w' => e = .returned (.string (nfC R w0)) ∧ Below w.heap.size w w' :=
  (implNormal_any k R a cap w0 w hl hs hw).mono fun e w' ⟨x, hx, he, hb⟩ => ⟨by rw [nfC_eq hx]; exact he, hb⟩
set_option maxRecDepth 100000 in
set_option maxHeartbeats 4000000 in
theorem implMonoidOf_any (k : Int) (R : List RulD) (a : Option Addr) (cap : Nat) (w : World) (hl : RulesIn w a R) (hlen : R.length ≤ 2 ^ 40) (hz : SzR R) (ht : Tab10 w) :
    Calls Tryz.prog 20 #[.agg #[.int .i64 k, .slice a R.length cap]] w (RetMon k R w) := by
  have HIC := Lib.hid (fun W h => implIsComplete_any k R a cap W h hlen hz)
  have HCA := Lib.hid (fun W h => implCountAll_any k R a cap W h hlen hz)
  have HLR := Lib.hid (fun W h => implLongestReduced_any k R a cap W h hlen hz)
  have HAR := Lib.hid (fun W h hT => implAllReduced_fn k R a cap W h hlen hz hT)
  have HNF := Lib.hid (fun w0 W h hs hw => implNormal_c k R a cap w0 W h hs hw)
  have HT := Lib.hid ht
  have HL := Lib.hid hl
  have e1 : (w.alloc (.cells #[.int .i64 k, .slice a R.length cap] 33)).heap.size = w.heap.size + 1 := by simp
  have HW1 : Hid (Below w.heap.size w ((w.alloc (.cells #[.int .i64 k, .slice a R.length cap] 33)).alloc (.cells #[.int .i64 0, .slice none 0 0] 47))) := Lib.hid (Below.now (alloc_belowS w _) (alloc_belowS _ _))
  have HBX := Lib.hid (fun W2 (h : Below ((w.alloc (.cells #[.int .i64 k, .slice a R.length cap] 33)).alloc (.cells #[.int .i64 0, .slice none 0 0] 47)).heap.size ((w.alloc (.cells #[.int .i64 k, .slice a R.length cap] 33)).alloc (.cells #[.int .i64 0, .slice none 0 0] 47)) W2) => And.intro (box_two (Below.now (alloc_belowS (w.alloc (.cells #[.int .i64 k, .slice a R.length cap] 33)) _) h)) (box_facts h))
  rw [e1] at HBX
  have HZ : Hid (w.heap.size + 1 < ((w.alloc (.cells #[.int .i64 k, .slice a R.length cap] 33)).alloc (.cells #[.int .i64 0, .slice none 0 0] 47)).heap.size) := Lib.hid (by simp)
  clear hl hz e1 ht
  go_enter Tryz.func20, Tryz.ntmps20
  go_wp2_with fail
  generalize (w.alloc (.cells #[.int .i64 k, .slice a R.length cap] 33)).alloc (.cells #[.int .i64 0, .slice none 0 0] 47) = w1 at *
  refine (HIC.out _ (HL.out.later HW1.out)).mono ?_
  rintro e w2 ⟨bb, hbb, rfl, hb2⟩
  have HBB := Lib.hid hbb
  have HB2 := Lib.hid hb2
  obtain ⟨⟨s0, s1⟩, ⟨u0, u1⟩, z0, z1⟩ := HBX.out _ hb2
  clear hbb hb2
  cases bb
  · have F : Hid (RetMon k R w (.returned (.tuple #[.agg #[.int .i64 0, .slice none 0 0], .slice none 0 0, .bool false])) ((w2.setCell ⟨w.heap.size + 1, 0, none⟩ (.int .i64 0)).setCell ⟨w.heap.size + 1, 1, none⟩ (.slice none 0 0))) := Lib.hid (RetMon.no (fun h => by have := HBB.out.2 h.1; cases this) (((Below.now HW1.out HB2.out).setCell (by simp; try omega) _).setCell (by simp; try omega) _))
    go_wp2_with fail
    refine bodyPost_ret (v := .tuple #[.agg #[.int .i64 0, .slice none 0 0], .slice none 0 0, .bool false]) ?_ rfl F.out
    simp [results, Tryz.results20, go_sem, u0, u1]
  · have HCP := Lib.hid (HBB.out.1 rfl)
    go_wp2_with fail
    refine (HCA.out _ (HL.out.later (Below.now HW1.out HB2.out))).mono ?_
    rintro e w3 ⟨c, hc, rfl, hb3⟩
    have HC := Lib.hid hc
    have HB3 := Lib.hid (Below.now HB2.out hb3)
    have HR0 := Lib.hid (fun W => within_any c 0 40 W)
    clear hc hb3 s0 s1 u0 u1 z0 z1 HB2 HBB
    obtain ⟨⟨s0, s1⟩, ⟨u0, u1⟩, z0, z1⟩ := HBX.out _ HB3.out
    cases hin : inB c 0 40
    · have HIN := Lib.hid hin
      rw [hin] at HR0
      have F : Hid (RetMon k R w (.returned (.tuple #[.agg #[.int .i64 0, .slice none 0 0], .slice none 0 0, .bool false])) ((w3.setCell ⟨w.heap.size + 1, 0, none⟩ (.int .i64 0)).setCell ⟨w.heap.size + 1, 1, none⟩ (.slice none 0 0))) := Lib.hid (RetMon.no (fun h => by
        obtain ⟨_, ⟨c2, h1, h2, h3⟩, _⟩ := h
        obtain rfl := h1.uniq HC.out
        have h4 := HIN.out
        unfold inB at h4
        simp at h4
        omega) (((Below.now HW1.out HB3.out).setCell (by simp; try omega) _).setCell (by simp; try omega) _))
      clear hin
      go_wp2_with (go_at_call 53; refine (HR0.out _).mono ?_; rintro e w' ⟨rfl, rfl⟩)
      refine bodyPost_ret (v := .tuple #[.agg #[.int .i64 0, .slice none 0 0], .slice none 0 0, .bool false]) ?_ rfl F.out
      simp [results, Tryz.results20, go_sem, u0, u1]
    · have HIN := Lib.hid hin
      rw [hin] at HR0
      clear hin
      go_wp2_with (go_at_call 53; refine (HR0.out _).mono ?_; rintro e w' ⟨rfl, rfl⟩)
      refine (HLR.out _ (HL.out.later (Below.now HW1.out HB3.out))).mono ?_
      rintro e w4 ⟨h, hh, rfl, hb4⟩
      have HH := Lib.hid hh
      have HB4 := Lib.hid (Below.now HB3.out hb4)
      clear hh hb4 s0 s1 u0 u1 z0 z1 HR0
      obtain ⟨⟨s0, s1⟩, ⟨u0, u1⟩, z0, z1⟩ := HBX.out _ HB4.out
      by_cases h8 : 8 < h
      · have F : Hid (RetMon k R w (.returned (.tuple #[.agg #[.int .i64 0, .slice none 0 0], .slice none 0 0, .bool false])) ((w4.setCell ⟨w.heap.size + 1, 0, none⟩ (.int .i64 0)).setCell ⟨w.heap.size + 1, 1, none⟩ (.slice none 0 0))) := Lib.hid (RetMon.no (fun hg => by
          obtain ⟨_, _, h2, h3, h4⟩ := hg
          obtain rfl := h3.uniq HH.out
          omega) (((Below.now HW1.out HB4.out).setCell (by simp; try omega) _).setCell (by simp; try omega) _))
        go_wp2_with fail
        refine bodyPost_ret (v := .tuple #[.agg #[.int .i64 0, .slice none 0 0], .slice none 0 0, .bool false]) ?_ rfl F.out
        simp [results, Tryz.results20, go_sem, u0, u1]
      · have HGO : Hid (GoM k R) := Lib.hid ⟨HCP.out, ⟨c, HC.out, HC.out.one (inB_bounds HIN.out).1, (inB_bounds HIN.out).2⟩, h, HH.out, by omega⟩
        go_wp2_with fail
        refine (HAR.out _ (HL.out.later (Below.now HW1.out HB4.out)) (HT.out.later (Below.now HW1.out HB4.out))).mono ?_
        rintro e w5 ⟨L, f, aL, cL, hal, rfl, hol, hb5⟩
        obtain rfl : f = true := by
          rcases hal with ⟨h1, _⟩ | ⟨_, _, _, _, _, _, h1, _⟩
          · exact absurd ⟨c, HC.out, by have := inB_bounds HIN.out; omega, by have := inB_bounds HIN.out; omega⟩ h1
          · exact h1
        have HAL := Lib.hid hal
        have HMW := Lib.hid (HGO.out.words hal)
        have hlen40 := HMW.out.few
        have HB5 := Lib.hid (Below.now HB4.out hb5)
        have HOL : Hid (w5.ownsRow (w.heap.size + 2) 9 1 (.slice aL L.length cL) L.length (strVals L)) := Lib.hid (owns_mono hol (by have := HB4.out.size; have := HZ.out; omega))
        have HSL : Hid (StrsIn w5 aL L) := Lib.hid (owns_cells hol)
        have HST : Hid (MonSt w5 (w5.alloc (.cells #[.int .i64 (L.length : Nat), .slice none 0 0] 47)) w5.heap.size L (prodTo R L 0 0)) := Lib.hid ⟨_, Rec2.start _ _ 1 (Below.refl _ _) _⟩
        clear hal hol hb5 s0 s1 u0 u1 z0 z1 h8 HB3 HB4
        go_wp2_with fail
        generalize w5.alloc (.cells #[.int .i64 (L.length : Nat), .slice none 0 0] 47) = w6 at *
        generalize hg : w5.heap.size = g at *
        have HG := Lib.hid hg
        clear hg
        go_loopw [37] (fun vi wr => ∃ i : Nat, i ≤ L.length ∧ vi = .int .i64 i ∧ Hid (MonSt w5 wr g L (prodTo R L i 0))) (fun vi _ => L.length - (intOf vi).toNat)
        case atStart => exact ⟨0, Nat.zero_le _, rfl, HST⟩
        case round =>
          clear HST
          obtain ⟨i, hi, rfl, HST⟩ := hrel
          obtain ⟨vt, HR⟩ := HST.out
          have HRH := Lib.hid HR
          have hbw := HR.below
          by_cases hlt : i < L.length
          · obtain ⟨b, off, rfl, hb, hc⟩ := (HSL.out.later hbw).cell hlt
            have c1 := hc i hlt
            clear hc hbw HR
            have HWP : Hid (∀ j, j < L.length → wordOkB k (nthS L i ++ nthS L j) = true ∧ (nthS L i).size + (nthS L j).size ≤ 16) := Lib.hid (fun j hj => HMW.out.pair hlt hj)
            have HPS := Lib.hid (fun j => prodTo_step R L i j)
            generalize hu : nthS L i = u at *
            have HU := Lib.hid hu
            clear hu
            go_wp2_with fail
            generalize hW : wr = wr0 at *
            clear hW
            go_loopw [43] (fun vj wr => ∃ j : Nat, j ≤ L.length ∧ vj = .int .i64 j ∧ Hid (MonSt w5 wr g L (prodTo R L i j))) (fun vj _ => L.length - (intOf vj).toNat)
            case atStart => exact ⟨0, Nat.zero_le _, rfl, HST⟩
            case round =>
              clear HST HRH
              obtain ⟨j, hj, rfl, HST⟩ := hrel
              obtain ⟨v0, HR⟩ := HST.out
              have HRH := Lib.hid HR
              have hbw := HR.below
              by_cases hjl : j < L.length
              · obtain ⟨b2, off2, ha2, hb2, hc2⟩ := (HSL.out.later hbw).cell hjl
                cases ha2
                have c2 := hc2 j hjl
                obtain ⟨hwok, hsz⟩ := HWP.out j hjl
                have HWO := Lib.hid hwok
                obtain ⟨⟨s0, s1⟩, _, _, _⟩ := HBX.out wr (Below.now HB5.out hbw)
                have hx1 : ¬ 9223372036854775807 < u.size + (nthS L j).size := by omega
                have HNC := Lib.hid (fun W (hW : Below wr.heap.size wr W) => HNF.out (u ++ nthS L j) W (HL.out.later (Below.now HW1.out (Below.now HB5.out (Below.now HRH.out.below hW)))) HCP.out.1 HWO.out)
                have HP1 := Lib.hid (HPS.out j)
                obtain ⟨_, t1, _, f1⟩ := HR.facts
                have HS7 := Lib.hid (fun W (hW : Below wr.heap.size wr W) => HSL.out.later (Below.now HRH.out.below hW))
                have hgl := HR.lt
                have hxl := prodTo_few hlen40 (R := R) hi hj
                clear hc2 hbw HR hwok
                generalize nthS L j = y at *
                generalize nfC R (u ++ y) = x at *
                have HIX := Lib.hid (fun W h => indexS_any x L (some ⟨b, off, none⟩) cL W h (by omega))
                generalize idxB L x = z at *
                have HXS : Hid (∃ xs, xs = prodTo R L i j) := Lib.hid ⟨_, rfl⟩
                generalize prodTo R L i j = xs at *
                have M1 : Hid (∀ u ∈ [Value.int .i64 z], u.oneCell' = true) := Lib.hid (fun u hu => by rw [List.mem_singleton.1 hu]; rfl)
                have N3 : Hid (xs.length + 1 ≤ maxLen) := Lib.hid (by unfold maxLen; omega)
                have N4 : Hid ((xs.length + 1) * 8 ≤ 140737488355328) := Lib.hid (by omega)
                clear hxl HXS
                have kr := Below.refl wr.heap.size wr
                go_wp2_with fail
                go_region_law (first
                  | (go_simp; go_at_call 45; refine (HNC.out _ (by repeat (first | exact kr | refine Below.drew ?_ | refine below_drewN ?_ _))).mono ?_; rintro e w7 ⟨rfl, hb7⟩; replace kr : Below wr.heap.size wr w7 := Below.now (by repeat (first | exact kr | refine Below.drew ?_ | refine below_drewN ?_ _)) hb7; have o0 := (HRH.out.later kr).facts.2.1; clear hb7)
                  | (go_simp; go_at_call 55; refine (HIX.out _ (HS7.out _ (by repeat (first | exact kr | refine Below.drew ?_ | refine below_drewN ?_ _)))).mono ?_; rintro e w8 ⟨rfl, hb8⟩; replace kr : Below wr.heap.size wr w8 := Below.now (by repeat (first | exact kr | refine Below.drew ?_ | refine below_drewN ?_ _)) hb8; have HR8 := Lib.hid (HRH.out.later kr); have q0 := HR8.out.facts.2.1; have q2 : ∀ ob, (w8.alloc ob).cell? ⟨g, 1, none⟩ = some v0 := fun ob => (HR8.out.later (alloc_belowS w8 ob)).facts.2.1; clear hb8)
                  | (refine step_appH rfl (.tmp 48) (.tmp 56) (by rfl) Tryz.underlying45 Tryz.infoInt rfl (by decide) (by rfl) HR8.out.own HR8.out.lt (by rfl) (by rfl) M1.out N3.out N4.out ?_; intro g4 c4 w9 hn9 hg9; have P9 := Lib.hid (HR8.out.put (Below.refl _ _) hg9 hn9); have q9 := rec_cells (HR8.out.grown (Below.refl _ _) hg9); obtain ⟨_, q1, _, q3⟩ := q9; clear hn9 hg9))
                all_goals
                  have F : Hid (MonSt w5 (w9.setCell ⟨g, 1, none⟩ (.slice (some ⟨g4, 0, none⟩) (xs.length + 1) c4)) g L (prodTo R L i (j + 1))) := Lib.hid ⟨_, by rw [HP1.out, intVals_one, List.length_append]; exact P9.out⟩
                  clear o0 q0 q1 q2 q3 t1 f1 s0 s1 c1 c2
                  go_wp2_with fail
                  go_roundw
                  case rel => exact ⟨j + 1, by omega, by go_num, F⟩
                  case measure => simp [intOf]; omega
              · obtain rfl : j = L.length := by omega
                have F : Hid (MonSt w5 wr g L (prodTo R L (i + 1) 0)) := Lib.hid (by rw [← prodTo_next]; exact HST.out)
                clear HR hbw
                go_wp2_with fail
                go_roundw
                case rel => exact ⟨i + 1, by omega, by go_num, F⟩
                case measure => simp [intOf]; omega
          · obtain rfl : i = L.length := by omega
            obtain ⟨aP, cP, hv⟩ := owns_form HR.own
            subst hv
            obtain ⟨t0, t1, _, _⟩ := HR.facts
            obtain ⟨_, ⟨u0, u1⟩, z0, z1⟩ := HBX.out wr (Below.now HB5.out hbw)
            have hg1 : w.heap.size + 2 ≤ g := by have := HB5.out.size; have := HZ.out; have := HG.out; omega
            have hPL : prodTo R L L.length 0 = prodF R L := prodTo_done R L
            rw [hPL] at HRH t1 HR
            have F : Hid (RetMon k R w (.returned (.tuple #[.agg #[.int .i64 (L.length : Nat), .slice aP (prodF R L).length cP], .slice aL L.length cL, .bool true])) ((wr.setCell ⟨w.heap.size + 1, 0, none⟩ (.int .i64 (L.length : Nat))).setCell ⟨w.heap.size + 1, 1, none⟩ (.slice aP (prodF R L).length cP))) :=
              Lib.hid ⟨L, prodF R L, true, aP, aL, cP, cL, .inr ⟨HGO.out, HAL.out, rfl, rfl⟩, rfl,
                owns_mono (ownsRow_setCell_below (ownsRow_setCell_below HRH.out.own (by show w.heap.size + 1 < g + 1; omega) _) (by show w.heap.size + 1 < g + 1; omega) _) (by omega),
                owns_mono (ownsRow_setCell_below (ownsRow_setCell_below (owns_later HOL.out HRH.out.below) (by show w.heap.size + 1 < w.heap.size + 2; omega) _) (by show w.heap.size + 1 < w.heap.size + 2; omega) _) (by omega),
                ((Below.now HW1.out (Below.now HB5.out hbw)).setCell (by simp; try omega) _).setCell (by simp; try omega) _⟩
            clear hPL hbw HR
            go_wp2_with fail
            refine bodyPost_ret (v := .tuple #[.agg #[.int .i64 (L.length : Nat), .slice aP (prodF R L).length cP], .slice aL L.length cL, .bool true]) ?_ rfl F.out
            simp [results, Tryz.results20, go_sem, u0, u1]
end Go.Proofs.YtgoeadgpbidgiaaGreatDoor
namespace Go.Proofs.YtgoeadgpbidgiaaGreatDoor
open Go.RowKit Go.Sort
set_option linter.unusedVariables false
theorem owns_block_of {w : World} {base g cap n : Nat} {T : TypeId} {xs : List Value} (h : w.ownsRow base T 1 (.slice (some ⟨g, 0, none⟩) n cap) n xs) : ∃ cur, base ≤ g ∧ w.heap[g]? = some (.cells cur T (0, 0)) ∧ n ≤ cap ∧ cap ≤ maxLen ∧ cur.size = cap * 1 ∧ cur.toList.take n = xs := by
  rcases h.2 with ⟨hv, _⟩ | ⟨g', cap', cur, hv, hb, hg, hn, hc, hs, ht⟩
  · cases hv
  · simp only [Value.slice.injEq, Option.some.injEq, Addr.mk.injEq, and_true, true_and] at hv
    obtain ⟨rfl, rfl⟩ := hv
    exact ⟨cur, hb, hg, hn, hc, hs, by simpa using ht⟩
theorem owns_shrink {w : World} {base g cap n k : Nat} {T : TypeId} {xs : List Value} (h : w.ownsRow base T 1 (.slice (some ⟨g, 0, none⟩) n cap) n xs) (hk : k ≤ n) : w.ownsRow base T 1 (.slice (some ⟨g, 0, none⟩) k cap) k (xs.take k) := by
  have hl := h.1
  obtain ⟨cur, h1, h2, h3, h4, h5, h6⟩ := owns_block_of h
  refine ⟨by rw [List.length_take]; omega, .inr ⟨g, cap, cur, rfl, h1, h2, by omega, h4, h5, ?_⟩⟩
  rw [← h6, List.take_take]
  congr 1; omega
theorem grow_none (w : World) : grow w #[] = w := by simp [grow]
theorem sortOwn_any (l : List Int) (base g cap : Nat) (w : World) (h : w.ownsRow base 3 1 (.slice (some ⟨g, 0, none⟩) l.length cap) l.length (intVals l)) (hlen : l.length ≤ 2 ^ 47) :
    Calls Tryz.prog 115 #[.slice (some ⟨g, 0, none⟩) l.length cap] w fun e w' => e = .returned (.tuple #[]) ∧ w'.ownsRow base 3 1 (.slice (some ⟨g, 0, none⟩) l.length cap) l.length (intVals (sortL l)) ∧ w.grownBy w' (some g) := by
  obtain ⟨cur, h1, h2, h3, h4, h5, h6⟩ := owns_block_of h
  refine (Tryz.slices_Sort_int g 0 cap l w (holds_of_blockI h2 h6) (Array.getElem?_eq_some_iff.1 h2).1 (by omega)).mono ?_
  rintro e w' ⟨rfl, n, os, rfl⟩
  exact ⟨rfl, ownsRow_sortedI (by simp) h1 h2 h3 h4 h5, grownBy_sortedI _⟩
theorem compactOwn_any (l : List Int) (base g cap : Nat) (w : World) (h : w.ownsRow base 3 1 (.slice (some ⟨g, 0, none⟩) l.length cap) l.length (intVals l)) (hlen : l.length ≤ 2 ^ 47) :
    Calls Tryz.prog 116 #[.slice (some ⟨g, 0, none⟩) l.length cap] w fun e w' => e = .returned (.slice (some ⟨g, 0, none⟩) (Lib.compact l).length cap) ∧ w'.ownsRow base 3 1 (.slice (some ⟨g, 0, none⟩) (Lib.compact l).length cap) (Lib.compact l).length (intVals (Lib.compact l)) ∧ w.grownBy w' (some g) := by
  obtain ⟨cur, h1, h2, h3, h4, h5, h6⟩ := owns_block_of h
  have hle : (Lib.compact l).length ≤ l.length := by
    unfold Lib.compact Lib.compactUpTo
    rw [List.length_map]
    exact Nat.le_trans (List.length_filter_le _ _) (by simp)
  refine (Tryz.slices_Compact_int g 0 cap l w (holds_of_blockI h2 h6) (by omega) h3).mono ?_
  rintro e w' ⟨rfl, q, rfl⟩
  have k1 := ownsRow_sortedI (n := q) (os := #[]) (ss := l) (ts := Lib.compact l ++ List.replicate (l.length - (Lib.compact l).length) 0) (by simp; omega) h1 h2 h3 h4 h5
  have k2 := grownBy_sortedI (w := w) (g := g) (n := q) (os := #[]) (Lib.compact l ++ List.replicate (l.length - (Lib.compact l).length) 0).toArray
  rw [grow_none] at k1 k2
  refine ⟨rfl, ?_, k2⟩
  have k3 := owns_shrink k1 hle
  rw [List.map_append, List.take_left' (by simp)] at k3
  exact k3
set_option maxHeartbeats 800000 in
theorem collected_any (l : List Int) (a : Option Addr) (cap : Nat) (w : World) (hl : IntsIn w a l) (h0 : 0 < l.length) (hlen : l.length ≤ 1000000) :
    Calls Tryz.prog 70 #[.slice a l.length cap] w (RetSl 3 1 (collL l).length (intVals (collL l)) w) := by
  have HC : Hid (∀ W, Below w.heap.size w W → Calls Tryz.prog 114 #[.slice a l.length cap] W fun e W' => ∃ v', e = .returned v' ∧ W'.ownsRow W.heap.size 3 1 v' l.length (intVals l) ∧ v' ≠ .slice none 0 0 ∧ Below W.heap.size W W') := fun W hW => by
    obtain ⟨b, off, rfl, _, hc⟩ := (hl.later hW).cell h0
    have := Tryz.slices_Clone_int b off l.length cap l W (Nat.le_refl _) (by omega) (fun j hj => by have := hc j hj; unfold nthZ at this; exact this)
    rw [List.take_length] at this
    exact this
  clear hl
  go_enter Tryz.func70, Tryz.ntmps70
  go_wp2_with fail
  refine (HC.out _ (Below.refl _ _)).mono ?_
  rintro e w1 ⟨v1, rfl, ho1, hne, hb1⟩
  obtain ⟨g, cap1, rfl⟩ : ∃ g cap1, v1 = .slice (some ⟨g, 0, none⟩) l.length cap1 := by
    rcases ho1.2 with ⟨hv, _⟩ | ⟨g, cap', cur, hv, _⟩
    · exact absurd hv hne
    · exact ⟨g, cap', hv⟩
  have HO := Lib.hid ho1
  have HB := Lib.hid hb1
  clear ho1 hb1 hne HC
  go_wp2_with fail
  refine (sortOwn_any l _ g cap1 _ HO.out (by omega)).mono ?_
  rintro e w2 ⟨rfl, ho2, hg2⟩
  have HO2 : Hid (w2.ownsRow w.heap.size 3 1 (.slice (some ⟨g, 0, none⟩) (sortL l).length cap1) (sortL l).length (intVals (sortL l))) := by rw [sortL_len]; exact ho2
  have HB2 : Hid (Below w.heap.size w w2) := HB.out.grown hg2 HB.out.size (fun k hk => (HO.out.lt k hk).1)
  clear ho2 hg2
  go_wp2_with fail
  have hC := compactOwn_any (sortL l) _ g cap1 w2 HO2.out (by rw [sortL_len]; omega)
  rw [sortL_len] at hC
  refine hC.mono ?_
  rintro e w3 ⟨rfl, ho3, hg3⟩
  have HB3 : Hid (Below w.heap.size w w3) := HB2.out.grown hg3 HB2.out.size (fun k hk => (HO2.out.lt k hk).1)
  have HO3 := Lib.hid ho3
  clear ho3 hg3 hC
  go_wp2_with fail
  go_ret
  exact ⟨_, _, rfl, HO3.out, HB3.out⟩
end Go.Proofs.YtgoeadgpbidgiaaGreatDoor
