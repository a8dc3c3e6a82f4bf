/-
  'FnExactFoldLine' holds: whatever the arguments, the program's FoldLine answers as the reference's does, and leaves its arguments as they were. No condition.
-/
import Derived.Test.YtklbehapbchnaaaDoorFol14
import Derived.Test.YtklbehapbchnaaaDoorFol16
import Derived.Test.YtklbehapbchnaaaDoorFol21
import Derived.Test.YtklbehapbchnaaaDoorFol08
import Derived.Test.YtklbehapbchnaaaDoorFol02
import Derived.Test.YtklbehapbchnaaaDoorFol06
import Derived.Deep.RegionHeld3
import Derived.Test.YtklbehapbchnaaaDoorTie
import Derived.Test.YtklbehapbchnaaaDoorCards
import Derived.LaidMore
import Derived.Lib.LaidTab
import Derived.Stop.Joined
import Derived.Stop.LaidErr
import Derived.SevenTiedAt
import Derived.ChangeSame
namespace Go.Proofs.YtklbehapbchnaaaDoor
open Go.RowKit
set_option linter.unusedVariables false
theorem ba_extG {a b : ByteArray} (h : a.data.toList = b.data.toList) : a = b := by
  cases a; cases b; exact congrArg ByteArray.mk (Array.toList_inj.1 h)
/-- the parts of the line -/
def joinG (a b c : ByteArray) : List ByteArray := [⟨#[118, 101, 114, 116, 105, 99, 101, 115]⟩, a, ⟨#[114, 97, 110, 107]⟩, b, ⟨#[105, 110, 100, 101, 120]⟩, c]
theorem join_lineG (a b c : ByteArray) : joinF (joinG a b c) ⟨#[32]⟩ = foldLineF a b c := by
  show joinTo (joinG a b c) ⟨#[32]⟩ 6 = _
  rw [joinTo_succ _ _ (show 0 < 5 by omega), joinTo_succ _ _ (show 0 < 4 by omega), joinTo_succ _ _ (show 0 < 3 by omega), joinTo_succ _ _ (show 0 < 2 by omega), joinTo_succ _ _ (show 0 < 1 by omega), joinTo_one]
  apply ba_extG
  unfold foldLineF joinG nthS
  simp [ByteArray.data_append]
theorem lineG_size (a b c : ByteArray) : (foldLineF a b c).size = 22 + a.size + b.size + c.size := by
  have e : ∀ x : Array UInt8, (ByteArray.mk x).size = x.size := fun _ => rfl
  unfold foldLineF
  simp only [e]
  simp
  omega
theorem joinG_cap (a b c : ByteArray) : (joinG a b c).length ≤ 6 ∧ 6 ≤ maxLen := ⟨Nat.le_refl 6, by unfold maxLen; omega⟩
theorem strs_litG {T : TypeId} (W : World) (l : List ByteArray) : StrsIn (W.alloc (.cells (strVals l).toArray T)) (some ⟨W.heap.size, 0, none⟩) l := .inr ⟨_, _, rfl, fun i hi => by
  rw [Nat.zero_add, World.cell?_alloc_new]
  simp [strVals] at hi ⊢⟩
set_option maxRecDepth 20000 in
set_option maxHeartbeats 1000000 in
theorem implRankOf_any (g V : Nat) (M : List Arc3) (av : Option Addr) (cap : Nat) (w : World) (hL : ArcsIn w av M) (hcap : M.length ≤ cap) (hl : M.length ≤ 96) (hf : FokP g V M) :
    Calls Tryd.prog 30 #[.agg #[.int .i64 (g : Nat), .int .i64 (V : Nat), .slice av M.length cap]] w fun e w' => e = .returned (.int .i64 (rankZ V M)) ∧ Below w.heap.size w w' := by
  have HB1 := Lib.hid (alloc_belT w (.cells #[.int .i64 ((g : Nat) : Int), .int .i64 ((V : Nat) : Int), .slice av M.length cap] 48))
  have HF1 := Lib.hid (alloc_at w (.cells #[.int .i64 ((g : Nat) : Int), .int .i64 ((V : Nat) : Int), .slice av M.length cap] 48))
  have HFO := Lib.hid (fun W h => implFoldedOk_any g V M av cap W h hcap (by omega) hf)
  have HL1 := Lib.hid (RowsIn.later hL HB1.out)
  have h2 := hf.v2
  have HR : Hid (rankZ V M = (M.length : Int) - (V : Int) + 1) := Lib.hid rfl
  clear hL hf
  go_enter Tryd.func30, Tryd.ntmps30
  go_wp2_with fail
  generalize hW1 : w.alloc (.cells #[.int .i64 ((g : Nat) : Int), .int .i64 ((V : Nat) : Int), .slice av M.length cap] 48) = w1 at *
  clear hW1
  refine (HFO.out _ HL1.out).mono ?_
  rintro e w2 ⟨rfl, hb2⟩
  have HB2 := Lib.hid (Below.now HB1.out hb2)
  obtain ⟨z0, z1, z2, _⟩ := fold_cells ((hb2.block w.heap.size (Array.getElem?_eq_some_iff.1 HF1.out).1).trans HF1.out)
  clear hb2
  go_wp2_with fail
  go_ret
  exact ⟨ret_int HR.out.symm, HB2.out⟩
set_option maxRecDepth 20000 in
set_option maxHeartbeats 1000000 in
theorem implIndexOf_any (g V : Nat) (M : List Arc3) (av : Option Addr) (cap : Nat) (w : World) (hL : ArcsIn w av M) (hcap : M.length ≤ cap) (hl : M.length ≤ 96) (hf : FokP g V M) :
    Calls Tryd.prog 31 #[.agg #[.int .i64 (g : Nat), .int .i64 (V : Nat), .slice av M.length cap]] w fun e w' => e = .returned (.int .i64 (indexZ g V M)) ∧ Below w.heap.size w w' := by
  have HB1 := Lib.hid (alloc_belT w (.cells #[.int .i64 ((g : Nat) : Int), .int .i64 ((V : Nat) : Int), .slice av M.length cap] 48))
  have HF1 := Lib.hid (alloc_at w (.cells #[.int .i64 ((g : Nat) : Int), .int .i64 ((V : Nat) : Int), .slice av M.length cap] 48))
  have HFO := Lib.hid (fun W h => implFoldedOk_any g V M av cap W h hcap (by omega) hf)
  have HL1 := Lib.hid (RowsIn.later hL HB1.out)
  have h2 := hf.v2
  have hg2 := hf.g2
  have hvg : V * g ≤ 192 := by
    have := Nat.mul_le_mul h2 hg2
    omega
  obtain ⟨p, hp⟩ : ∃ p, V * g = p := ⟨_, rfl⟩
  have hmul : (g : Int) * (V : Int) = (p : Int) := by rw [← hp, Nat.mul_comm]; exact (Int.natCast_mul g V).symm
  have hwp : IntKind.i64.wrap (p : Int) = (p : Int) := IntWalk.i64_in _ ⟨by omega, by omega⟩
  have HM := Lib.hid hp
  have hp192 : p ≤ 192 := by omega
  clear hL hf hp hvg
  by_cases hq : M.length = p
  · have HR : Hid (indexZ g V M = (V : Int)) := Lib.hid (by unfold indexZ; rw [if_pos (by rw [HM.out]; exact hq)])
    have hn : (((M.length : Nat) : Int) != ((p : Nat) : Int)) = false := by rw [bne_eq_false_iff_eq]; omega
    clear hq
    go_enter Tryd.func31, Tryd.ntmps31
    go_wp2_with fail
    generalize hW1 : w.alloc (.cells #[.int .i64 ((g : Nat) : Int), .int .i64 ((V : Nat) : Int), .slice av M.length cap] 48) = w1 at *
    clear hW1
    refine (HFO.out _ HL1.out).mono ?_
    rintro e w2 ⟨rfl, hb2⟩
    have HB2 := Lib.hid (Below.now HB1.out hb2)
    obtain ⟨z0, z1, z2, _⟩ := fold_cells ((hb2.block w.heap.size (Array.getElem?_eq_some_iff.1 HF1.out).1).trans HF1.out)
    clear hb2
    go_wp2_with fail
    go_ret
    exact ⟨ret_int HR.out.symm, HB2.out⟩
  · have HR : Hid (indexZ g V M = 0) := Lib.hid (by unfold indexZ; rw [if_neg (by rw [HM.out]; exact hq)])
    have hn : (((M.length : Nat) : Int) != ((p : Nat) : Int)) = true := by rw [bne_iff_ne]; omega
    clear hq
    go_enter Tryd.func31, Tryd.ntmps31
    go_wp2_with fail
    generalize hW1 : w.alloc (.cells #[.int .i64 ((g : Nat) : Int), .int .i64 ((V : Nat) : Int), .slice av M.length cap] 48) = w1 at *
    clear hW1
    refine (HFO.out _ HL1.out).mono ?_
    rintro e w2 ⟨rfl, hb2⟩
    have HB2 := Lib.hid (Below.now HB1.out hb2)
    obtain ⟨z0, z1, z2, _⟩ := fold_cells ((hb2.block w.heap.size (Array.getElem?_eq_some_iff.1 HF1.out).1).trans HF1.out)
    clear hb2
    go_wp2_with fail
    go_ret
    exact ⟨ret_int HR.out.symm, HB2.out⟩
set_option maxRecDepth 100000 in
set_option maxHeartbeats 4000000 in
theorem implFoldLine_any (g : Int) (ws : List ByteArray) (a : Option Addr) (cap : Nat) (w : World) (hL : StrsIn w a ws) (hl : ws.length ≤ maxLen) (hz : ∀ j, j < ws.length → (nthS ws j).size ≤ maxLen) (ht : Tab10 w) :
    Calls Tryd.prog 13 #[.int .i64 g, .slice a ws.length cap] w (RetFL g ws w) := by
  by_cases hin : inB g 1 2 = true ∧ ws.length ≤ 6
  · obtain ⟨hg, h6⟩ := hin
    obtain ⟨hg1, hg2⟩ := inB_bounds hg
    obtain ⟨n, rfl⟩ : ∃ n : Nat, g = (n : Int) := ⟨g.toNat, by omega⟩
    have HY := Lib.hid (implFoldWords_in n ws a cap w hL hz (by omega) (by omega) h6)
    have HT := Lib.hid ht
    clear hL hl hz ht hg h6 hg1 hg2
    go_enter Tryd.func13, Tryd.ntmps13
    go_wp2_with fail
    refine HY.out.mono ?_
    rintro e w2 (⟨ho, V, M, av, c, rfl, hA, hc, hR, hb2⟩ | ⟨hno, rfl, hb2⟩)
    · have hfk := hR.fok ho
      have hml := hR.len ho
      obtain ⟨r1, r2⟩ := rank_rng hfk hml
      obtain ⟨r3, r4⟩ := index_rng hfk
      have hv2 := hfk.v2
      have HF : Hid (∀ W, Below w2.heap.size w2 W → RetFL (n : Int) ws w (.returned (.string (foldLineF (numB (V : Int)) (numB (rankZ V M)) (numB (indexZ n V M))))) W) := Lib.hid (fun W hW => ⟨_, .inl ⟨n, rfl, ho, V, M, hR, rfl⟩, rfl, Below.now hb2 hW⟩)
      have HT2 := Lib.hid (HT.out.later hb2)
      have HA := Lib.hid hA
      have hal := alloc_belT w2 (.cells #[.int .i64 ((n : Nat) : Int), .int .i64 ((V : Nat) : Int), .slice av M.length c] 48)
      have HBX := Lib.hid (alloc_at w2 (.cells #[.int .i64 ((n : Nat) : Int), .int .i64 ((V : Nat) : Int), .slice av M.length c] 48))
      have HAL := Lib.hid hal
      have HRK := Lib.hid (fun W (h : ArcsIn W av M) => implRankOf_any n V M av c W h hc hml hfk)
      have HIX := Lib.hid (fun W (h : ArcsIn W av M) => implIndexOf_any n V M av c W h hc hml hfk)
      have l1 := itoa_len (n := (V : Int)) (by omega) (by omega)
      have l2 := itoa_len (n := rankZ V M) (by omega) (by omega)
      have l3 := itoa_len (n := indexZ n V M) (by omega) (by omega)
      have HFA : Hid (∀ W, Tab10 W → Calls Tryd.prog 29 #[.int .i64 (V : Nat)] W fun e w' => e = .returned (.string (numB (V : Int))) ∧ Below W.heap.size W w') := Lib.hid (fun W h => implFormatInt_any _ W (by omega) (by omega) h)
      have HFB : Hid (∀ W, Tab10 W → Calls Tryd.prog 29 #[.int .i64 (rankZ V M)] W fun e w' => e = .returned (.string (numB (rankZ V M))) ∧ Below W.heap.size W w') := Lib.hid (fun W h => implFormatInt_any _ W (by omega) (by omega) h)
      have HFC : Hid (∀ W, Tab10 W → Calls Tryd.prog 29 #[.int .i64 (indexZ n V M)] W fun e w' => e = .returned (.string (numB (indexZ n V M))) ∧ Below W.heap.size W w') := Lib.hid (fun W h => implFormatInt_any _ W (by omega) (by omega) h)
      clear hA hc hR hb2 hfk ho r1 r2 r3 r4 hal
      go_wp2_with fail
      generalize hw3 : w2.alloc (.cells #[.int .i64 ((n : Nat) : Int), .int .i64 ((V : Nat) : Int), .slice av M.length c] 48) = w3 at *
      clear hw3
      have HX : Hid (∀ W, Below w3.heap.size w3 W → W.cell? ⟨w2.heap.size, 0, none⟩ = some (.int .i64 ((n : Nat) : Int)) ∧ W.cell? ⟨w2.heap.size, 1, none⟩ = some (.int .i64 ((V : Nat) : Int)) ∧ W.cell? ⟨w2.heap.size, 2, none⟩ = some (.slice av M.length c)) := Lib.hid (fun W hW => by
        obtain ⟨h0, h1, h2, _⟩ := fold_cells ((hW.block w2.heap.size (Array.getElem?_eq_some_iff.1 HBX.out).1).trans HBX.out)
        exact ⟨h0, h1, h2⟩)
      have HA3 : Hid (∀ W, Below w3.heap.size w3 W → ArcsIn W av M) := Lib.hid (fun W hW => RowsIn.later HA.out (Below.now HAL.out hW))
      have HT3 := Lib.hid (HT2.out.later HAL.out)
      generalize numB (V : Int) = A1 at *
      generalize numB (rankZ V M) = A2 at *
      generalize numB (indexZ n V M) = A3 at *
      generalize rankZ V M = rz at *
      generalize indexZ n V M = iz at *
      have HJN := Lib.hid (fun W a2 c2 h hc => implJoin_any (joinG A1 A2 A3) ⟨#[32]⟩ a2 c2 W h (by decide) (by decide) (by show 6 ≤ 2 ^ 40; omega) hc (by rw [join_lineG]; have := lineG_size A1 A2 A3; omega))
      rw [join_lineG] at HJN
      generalize foldLineF A1 A2 A3 = ln at *
      have kr := Below.refl w3.heap.size w3
      obtain ⟨q0, q1, q2⟩ := HX.out w3 kr
      go_region_held3 (fun w' => w'.cell? ⟨w2.heap.size, 0, none⟩ = some (.int .i64 ((n : Nat) : Int)) ∧ w'.cell? ⟨w2.heap.size, 1, none⟩ = some (.int .i64 ((V : Nat) : Int)) ∧ w'.cell? ⟨w2.heap.size, 2, none⟩ = some (.slice av M.length c)) (go_keep) (first
        | (go_at_call 29; (first | (with_reducible refine (HFA.out _ (HT3.out.later (by repeat (first | exact kr | refine Below.drew ?_ | refine below_drewN ?_ _ | refine Below.alloc ?_ (by first | (simp; done) | (simp; omega) | exact kr.size) _)))).mono ?_) | (with_reducible refine (HFB.out _ (HT3.out.later (by repeat (first | exact kr | refine Below.drew ?_ | refine below_drewN ?_ _ | refine Below.alloc ?_ (by first | (simp; done) | (simp; omega) | exact kr.size) _)))).mono ?_) | (with_reducible refine (HFC.out _ (HT3.out.later (by repeat (first | exact kr | refine Below.drew ?_ | refine below_drewN ?_ _ | refine Below.alloc ?_ (by first | (simp; done) | (simp; omega) | exact kr.size) _)))).mono ?_)); rintro e w5 ⟨rfl, hb5⟩; replace kr : Below w3.heap.size w3 w5 := Below.now (by repeat (first | exact kr | refine Below.drew ?_ | refine below_drewN ?_ _ | refine Below.alloc ?_ (by first | (simp; done) | (simp; omega) | exact kr.size) _)) hb5; have t0 := (HX.out w5 kr).1; have t1 := (HX.out w5 kr).2.1; have t2 := (HX.out w5 kr).2.2; clear hb5)
        | (go_at_call 30; refine (HRK.out _ (HA3.out _ (by repeat (first | exact kr | refine Below.drew ?_ | refine below_drewN ?_ _ | refine Below.alloc ?_ (by first | (simp; done) | (simp; omega) | exact kr.size) _)))).mono ?_; rintro e w5 ⟨rfl, hb5⟩; replace kr : Below w3.heap.size w3 w5 := Below.now (by repeat (first | exact kr | refine Below.drew ?_ | refine below_drewN ?_ _ | refine Below.alloc ?_ (by first | (simp; done) | (simp; omega) | exact kr.size) _)) hb5; have t0 := (HX.out w5 kr).1; have t1 := (HX.out w5 kr).2.1; have t2 := (HX.out w5 kr).2.2; clear hb5)
        | (go_at_call 31; refine (HIX.out _ (HA3.out _ (by repeat (first | exact kr | refine Below.drew ?_ | refine below_drewN ?_ _ | refine Below.alloc ?_ (by first | (simp; done) | (simp; omega) | exact kr.size) _)))).mono ?_; rintro e w5 ⟨rfl, hb5⟩; replace kr : Below w3.heap.size w3 w5 := Below.now (by repeat (first | exact kr | refine Below.drew ?_ | refine below_drewN ?_ _ | refine Below.alloc ?_ (by first | (simp; done) | (simp; omega) | exact kr.size) _)) hb5; have t0 := (HX.out w5 kr).1; have t1 := (HX.out w5 kr).2.1; have t2 := (HX.out w5 kr).2.2; clear hb5)
        | (go_at_call 28; refine (HJN.out _ _ 6 (strs_litG _ (joinG A1 A2 A3)) (joinG_cap _ _ _)).mono ?_; rintro e w5 ⟨rfl, hb5⟩; replace kr : Below w3.heap.size w3 w5 := Below.now (by repeat (first | exact kr | refine Below.drew ?_ | refine below_drewN ?_ _ | refine Below.alloc ?_ (by first | (simp; done) | (simp; omega) | exact kr.size) _)) hb5; have t0 := (HX.out w5 kr).1; have t1 := (HX.out w5 kr).2.1; have t2 := (HX.out w5 kr).2.2; clear hb5))
      all_goals
        go_wp2_with fail
        go_ret
        exact HF.out _ (Below.now HAL.out kr)
    · have hnn : ∀ m : Nat, (n : Int) = (m : Int) → ¬ OkFW m ws := fun m e ho => by
        obtain rfl : n = m := by omega
        exact hno ho
      have HF : Hid (∀ W, Below w.heap.size w W → RetFL (n : Int) ws w (.returned (.string ⟨#[110, 111, 110, 101]⟩)) W) := Lib.hid (fun W hW => ⟨_, .inr ⟨hnn, rfl⟩, rfl, hW⟩)
      have HB2 := Lib.hid (Below.now hb2 (alloc_belT w2 (.cells #[.int .i64 0, .int .i64 0, .slice none 0 0] 48)))
      unfold noFold
      clear hb2 hno hnn
      go_wp2_with fail
      go_ret
      exact HF.out _ HB2.out
  · have hno : ∀ n : Nat, g = (n : Int) → ¬ OkFW n ws := fun n e ho => hin (by subst e; exact ⟨inB_mk (by have := ho.g1; omega) (by have := ho.g2; omega), ho.len⟩)
    have hout : inB g 1 2 = false ∨ 6 < ws.length := by
      cases e : inB g 1 2
      · exact .inl rfl
      · exact .inr (by have : ¬ ws.length ≤ 6 := fun h => hin ⟨e, h⟩; omega)
    have HN := Lib.hid (implFoldWords_out g ws a cap w hl hout)
    have HF : Hid (∀ W, Below w.heap.size w W → RetFL g ws w (.returned (.string ⟨#[110, 111, 110, 101]⟩)) W) := Lib.hid (fun W hW => ⟨_, .inr ⟨hno, rfl⟩, rfl, hW⟩)
    unfold noFold at HN
    clear hL hl hz hin hno hout ht
    go_enter Tryd.func13, Tryd.ntmps13
    go_wp2_with fail
    refine HN.out.mono ?_
    rintro e w2 ⟨rfl, hb2⟩
    have HB2 := Lib.hid (Below.now hb2 (alloc_belT w2 (.cells #[.int .i64 0, .int .i64 0, .slice none 0 0] 48)))
    clear hb2
    go_wp2_with fail
    go_ret
    exact HF.out _ HB2.out
end Go.Proofs.YtklbehapbchnaaaDoor
namespace Go.Proofs.YtklbehapbchnaaaDoor
open Go.RowKit
set_option linter.unusedVariables false
/-- the line of the words -/
noncomputable def lineG (g : Int) (ws : List ByteArray) : ByteArray :=
  open Classical in if h : ∃ v, FlIs g ws v then Classical.choose h else ⟨#[]⟩
theorem RetFL.fn {g : Int} {ws : List ByteArray} {w : World} {e : Ending} {w' : World} (h : RetFL g ws w e w') : e = .returned (.string (lineG g ws)) ∧ Below w.heap.size w w' := by
  obtain ⟨v, hv, rfl, hb⟩ := h
  have hex : ∃ v, FlIs g ws v := ⟨v, hv⟩
  refine ⟨?_, hb⟩
  unfold lineG
  rw [dif_pos hex, hv.uniq (Classical.choose_spec hex)]
theorem nth_sum {l : List ByteArray} {n : Nat} (h : strSum l ≤ n) {j : Nat} (hj : j < l.length) : (nthS l j).size ≤ n := by
  have h1 := strSum_take l (show j + 1 ≤ l.length by omega)
  have h2 : sumTo l (j + 1) = sumTo l j + (nthS l j).size := rfl
  omega
theorem specFoldLine_fn (g : Int) (ws : List ByteArray) (a : Option Addr) (cap : Nat) (w : World) (hl : StrsIn w a ws) (hn : ws.length ≤ 1048576) (hs : strSum ws ≤ 1048576) :
    Calls Tryd.prog 11 #[.int .i64 g, .slice a ws.length cap] w fun e w' => e = .returned (.string (lineG g ws)) ∧ Below w.heap.size w w' :=
  (specFoldLine_any g ws a cap w hl (by unfold maxLen; omega) (fun j hj => Nat.le_trans (nth_sum hs hj) (by unfold maxLen; omega))).mono fun _ _ h => h.fn
theorem implFoldLine_fn (g : Int) (ws : List ByteArray) (a : Option Addr) (cap : Nat) (w : World) (hl : StrsIn w a ws) (hn : ws.length ≤ 1048576) (hs : strSum ws ≤ 1048576) (ht : Tab10 w) :
    Calls Tryd.prog 13 #[.int .i64 g, .slice a ws.length cap] w fun e w' => e = .returned (.string (lineG g ws)) ∧ Below w.heap.size w w' :=
  (implFoldLine_any g ws a cap w hl (by unfold maxLen; omega) (fun j hj => Nat.le_trans (nth_sum hs hj) (by unfold maxLen; omega)) ht).mono fun _ _ h => h.fn
end Go.Proofs.YtklbehapbchnaaaDoor
namespace Go.Proofs.YtklbehapbchnaaaDoor
open Go.RowKit
set_option linter.unusedVariables false
end Go.Proofs.YtklbehapbchnaaaDoor
namespace Go.Proofs.YtklbehapbchnaaaDoor
open Go.RowKit
set_option linter.unusedVariables false
/-- marks: the numbers from k on -/
def markVals (k : Nat) (n : Nat) : List Int := (List.range n).map fun (i : Nat) => ((k + i : Nat) : Int)
theorem markVals_at {k n j : Nat} (h : j < n) : ((markVals k n).map (Value.int .i64))[j]? = some (.int .i64 ((k + j : Nat) : Int)) := by simp [markVals, h]
/-- only the row of a slice has turned -/
def OnlyRow (w : World) (a : Option Addr) (w' : World) : Prop := w.grownBy w' (Value.slice a 0 0).ownBlock
/-- what a function leaves that marks a slice -/
def Marked (T : TypeId) (w : World) (base : Nat) (a : Option Addr) (n cap k : Nat) (e : Ending) (w' : World) : Prop :=
  e = .returned (.int .i64 ((k + n : Nat) : Int)) ∧ w'.ownsRow base T 1 (.slice a n cap) n ((markVals k n).map (Value.int .i64)) ∧ OnlyRow w a w'
/-- a row that is being marked -/
def Marking (T : TypeId) (w wr : World) (base : Nat) (a : Option Addr) (n cap k j : Nat) : Prop :=
  ∃ xs, wr.ownsRow base T 1 (.slice a n cap) n xs ∧ xs.take j = ((markVals k n).map (Value.int .i64)).take j ∧ OnlyRow w a wr
theorem Marking.start {T : TypeId} {w : World} {base : Nat} {a : Option Addr} {n cap k : Nat} {xs : List Value} (h : w.ownsRow base T 1 (.slice a n cap) n xs) : Marking T w w base a n cap k 0 :=
  ⟨xs, h, by simp, ⟨rfl, rfl, rfl, Nat.le_refl _, fun _ _ _ => rfl⟩⟩
theorem Marking.cell {T : TypeId} {w wr : World} {base g n cap k j : Nat} (h : Marking T w wr base (some ⟨g, 0, none⟩) n cap k j) (hj : j < n) : ∃ v, wr.cell? ⟨g, j, none⟩ = some v := by
  obtain ⟨xs, ho, _⟩ := h
  have h1 := ho.1
  exact ⟨xs[j]'(by omega), by rw [ho.cellAt j (by omega), List.getElem?_eq_getElem]⟩
theorem Marking.frozen {T : TypeId} {w wr : World} {base g n cap k j : Nat} (h : Marking T w wr base (some ⟨g, 0, none⟩) n cap k j) (i : Nat) : wr.frozen? ⟨g, i, none⟩ = false := by
  obtain ⟨xs, ho, _⟩ := h
  exact ho.frozenAt i
theorem only_trans {w w1 w2 : World} {a : Option Addr} (h : OnlyRow w a w1) (h' : OnlyRow w1 a w2) : OnlyRow w a w2 :=
  ⟨h'.os.trans h.os, h'.tape.trans h.tape, h'.output.trans h.output, Nat.le_trans h.size h'.size, fun k hk hne => (h'.block k (Nat.lt_of_lt_of_le hk h.size) hne).trans (h.block k hk hne)⟩
theorem Marking.store {T : TypeId} {w wr : World} {base g n cap k j : Nat} (h : Marking T w wr base (some ⟨g, 0, none⟩) n cap k j) (hj : j < n) :
    Marking T w (wr.setCell ⟨g, j, none⟩ (.int .i64 ((k + j : Nat) : Int))) base (some ⟨g, 0, none⟩) n cap k (j + 1) := by
  obtain ⟨xs, ho, ht, hr⟩ := h
  have h1 := ho.1
  have hs := ho.stored j (.int .i64 ((k + j : Nat) : Int))
  have hu := List.getElem?_eq_some_iff.1 (markVals_at (k := k) hj)
  obtain ⟨hu1, hu2⟩ := hu
  refine ⟨_, hs.1, ?_, only_trans hr hs.2⟩
  rw [← hu2]
  exact fill_step (by simp [markVals]; omega) ht hu1
theorem Marking.done {T : TypeId} {w wr : World} {base : Nat} {a : Option Addr} {n cap k j : Nat} (h : Marking T w wr base a n cap k j) (hj : ¬ j < n) : Marked T w base a n cap k (.returned (.int .i64 ((k + n : Nat) : Int))) wr := by
  obtain ⟨xs, ho, ht, hr⟩ := h
  have h1 := ho.1
  have : xs = (markVals k n).map (Value.int .i64) := fill_done (by simp [markVals]; omega) ht (by simp [markVals]; omega)
  subst this
  exact ⟨rfl, ho, hr⟩
end Go.Proofs.YtklbehapbchnaaaDoor
namespace Go.Proofs.YtklbehapbchnaaaDoor
open Go.RowKit
set_option linter.unusedVariables false
end Go.Proofs.YtklbehapbchnaaaDoor
namespace Go.Proofs.YtklbehapbchnaaaDoor.fnExactFoldLine
open Go.ChangeShapes Go.WideShapes Go.ChangeAt Go.RowKit Go.Joins
open Go.ChangeMaps (open_string shut_string)
set_option linter.unusedVariables false
set_option maxHeartbeats 1000000 in
theorem walkBig1 (i0 : Int) (l1 : List ByteArray) (a1 : Option Addr) (c1 : Nat) (w : World) (hl1 : StrsIn w a1 l1) (hn1 : l1.length ≤ 9223372036854775807) (hm1 : ∀ j, j < l1.length → (nthS l1 j).size ≤ maxLen) (ht : Tab10 w) (hs1 : (1048576 : Int) < ((l1.length : Int) + (strSum l1 : Nat))) :
    Calls Tryd.prog 4 #[.int .i64 i0, .slice a1 l1.length c1] w fun e w' => e = .returned (.bool true) ∧ Below w.heap.size w w' := by
  have HL1 := Lib.hid hl1
  have HS1 := fun w hl => szStringS_any l1 a1 c1 1048576 w hl hn1 hm1 (by omega) (by omega)
  rw [szF_big hs1] at HS1
  have HT1 := fun w hl => Lib.hid (HS1 w hl)
  clear HS1
  clear hl1
  clear ht
  go_enter Tryd.func4, Tryd.ntmps4
  go_wp2_with fail
  refine (HT1 _ (HL1.out.later (by repeat (first | exact Below.refl _ _ | refine Below.drew ?_ | refine below_drewN ?_ _ | refine Below.alloc ?_ (by simp; try omega) _)))).out.mono ?_
  rintro e w' ⟨rfl, rfl⟩
  go_wp2_with fail
  go_ret
  exact ⟨rfl, (by repeat (first | exact Below.refl _ _ | refine Below.drew ?_ | refine below_drewN ?_ _ | refine Below.alloc ?_ (by simp; try omega) _))⟩
set_option maxRecDepth 100000 in
set_option maxHeartbeats 2000000 in
theorem walkSmall (i0 : Int) (l1 : List ByteArray) (a1 : Option Addr) (c1 : Nat) (w : World) (hl1 : StrsIn w a1 l1) (hn1 : l1.length ≤ 9223372036854775807) (hm1 : ∀ j, j < l1.length → (nthS l1 j).size ≤ maxLen) (ht : Tab10 w) (hs1 : ¬ (1048576 : Int) < ((l1.length : Int) + (strSum l1 : Nat))) :
    Calls Tryd.prog 4 #[.int .i64 i0, .slice a1 l1.length c1] w fun e w' => e = .returned (.bool true) ∧ Below w.heap.size w w' := by
  have HS1 := fun w hl => szStringS_any l1 a1 c1 1048576 w hl hn1 hm1 (by omega) (by omega)
  rw [szF_ok hs1] at HS1
  have HT1 := fun w hl => Lib.hid (HS1 w hl)
  clear HS1
  have hz1 : l1.length + strSum l1 ≤ 1048576 := by omega
  have HL1 := Lib.hid hl1
  have HT10 := Lib.hid ht
  clear ht
  clear hl1
  clear hs1
  go_enter Tryd.func4, Tryd.ntmps4
  go_wp2_with fail
  refine (HT1 _ (HL1.out.later (by repeat (first | exact Below.refl _ _ | refine Below.drew ?_ | refine below_drewN ?_ _ | refine Below.alloc ?_ (by simp; try omega) _)))).out.mono ?_
  rintro e u0 ⟨rfl, hb0⟩
  have hk0 : Below w.heap.size w u0 := by rw [← hb0]; exact (by repeat (first | exact Below.refl _ _ | refine Below.drew ?_ | refine below_drewN ?_ _ | refine Below.alloc ?_ (by simp; try omega) _))
  clear hb0
  have hbel := Lib.hid hk0
  clear hk0
  replace HL1 := Lib.hid (HL1.out.later hbel.out)
  have d1 := Below.refl u0.heap.size u0
  go_wp2_with fail
  refine (toStringS_any l1 a1 c1 _ (HL1.out.later (Below.now d1 (by repeat (first | exact Below.refl _ _ | refine Below.drew ?_ | refine below_drewN ?_ _ | refine Below.alloc ?_ (by simp; try omega) _)))) (by omega)).mono ?_
  rintro e v1 ⟨ap1, cp1, rfl, ho, hb⟩
  have hc : Below u0.heap.size u0 v1 := Below.now (by repeat (first | exact Below.refl _ _ | refine Below.drew ?_ | refine below_drewN ?_ _ | refine Below.alloc ?_ (by simp; try omega) _)) hb
  have hsz := hc.size
  replace d1 := Below.now d1 hc
  have HOp1 : Hid (v1.ownsRow u0.heap.size 9 1 (.slice ap1 l1.length cp1) l1.length (strVals l1)) := owns_mono ho (by simp; try omega)
  have lop1 : Hid (u0.heap.size ≤ v1.heap.size) := hc.size
  clear ho hb hc hsz
  have ep1 := Below.refl v1.heap.size v1
  go_wp2_with fail
  refine (specFoldLine_fn i0 l1 ap1 cp1 _ ((owns_strs (l := l1) HOp1.out).later (Below.now ep1 (by repeat (first | exact Below.refl _ _ | refine Below.drew ?_ | refine below_drewN ?_ _ | refine Below.alloc ?_ (by simp; try omega) _)))) (by omega) (by omega)).mono ?_
  rintro e v2 ⟨rfl, hb⟩
  have hc : Below v1.heap.size v1 v2 := Below.now (by repeat (first | exact Below.refl _ _ | refine Below.drew ?_ | refine below_drewN ?_ _ | refine Below.alloc ?_ (by simp; try omega) _)) hb
  have hsz := hc.size
  replace d1 := Below.now d1 hc
  replace ep1 := Below.now ep1 hc
  clear HOp1 lop1 ep1
  clear hb hc hsz
  have sz3 : Hid (u0.heap.size ≤ v2.heap.size) := d1.size
  have d3 := Below.refl v2.heap.size v2
  go_wp2_with fail
  refine (toStringS_any l1 a1 c1 _ (HL1.out.later (Below.now d1 (by repeat (first | exact Below.refl _ _ | refine Below.drew ?_ | refine below_drewN ?_ _ | refine Below.alloc ?_ (by simp; try omega) _)))) (by omega)).mono ?_
  rintro e v3 ⟨ax1, cx1, rfl, ho, hb⟩
  have hc : Below v2.heap.size v2 v3 := Below.now (by repeat (first | exact Below.refl _ _ | refine Below.drew ?_ | refine below_drewN ?_ _ | refine Below.alloc ?_ (by simp; try omega) _)) hb
  have hsz := hc.size
  replace d1 := Below.now d1 hc
  replace d3 := Below.now d3 hc
  have HOx1 : Hid (v3.ownsRow v2.heap.size 9 1 (.slice ax1 l1.length cx1) l1.length (strVals l1)) := owns_mono ho (by simp; try omega)
  have lox1 : Hid (v2.heap.size ≤ v3.heap.size) := hc.size
  clear ho hb hc hsz
  have ex1 := Below.refl v3.heap.size v3
  go_wp2_with fail
  refine (implFoldLine_fn i0 l1 ax1 cx1 _ ((owns_strs (l := l1) HOx1.out).later (Below.now ex1 (by repeat (first | exact Below.refl _ _ | refine Below.drew ?_ | refine below_drewN ?_ _ | refine Below.alloc ?_ (by simp; try omega) _)))) (by omega) (by omega) (HT10.out.later (Below.now hbel.out (Below.now d1 (by repeat (first | exact Below.refl _ _ | refine Below.drew ?_ | refine below_drewN ?_ _ | refine Below.alloc ?_ (by simp; try omega) _)))))).mono ?_
  rintro e v4 ⟨rfl, hb⟩
  have hc : Below v3.heap.size v3 v4 := Below.now (by repeat (first | exact Below.refl _ _ | refine Below.drew ?_ | refine below_drewN ?_ _ | refine Below.alloc ?_ (by simp; try omega) _)) hb
  have hsz := hc.size
  replace d1 := Below.now d1 hc
  replace d3 := Below.now d3 hc
  replace ex1 := Below.now ex1 hc
  clear hb hc hsz
  have d7 := Below.refl v4.heap.size v4
  go_wp2_with fail
  refine (toStringS_any l1 a1 c1 _ (HL1.out.later (Below.now d1 (by repeat (first | exact Below.refl _ _ | refine Below.drew ?_ | refine below_drewN ?_ _ | refine Below.alloc ?_ (by simp; try omega) _)))) (by omega)).mono ?_
  rintro e v5 ⟨at1, ct1, rfl, ho, hb⟩
  have hc : Below v4.heap.size v4 v5 := Below.now (by repeat (first | exact Below.refl _ _ | refine Below.drew ?_ | refine below_drewN ?_ _ | refine Below.alloc ?_ (by simp; try omega) _)) hb
  have hsz := hc.size
  replace d1 := Below.now d1 hc
  replace d3 := Below.now d3 hc
  replace ex1 := Below.now ex1 hc
  replace d7 := Below.now d7 hc
  have HOt1 : Hid (v5.ownsRow v4.heap.size 9 1 (.slice at1 l1.length ct1) l1.length (strVals l1)) := owns_mono ho (by simp; try omega)
  have lot1 : Hid (v4.heap.size ≤ v5.heap.size) := hc.size
  clear ho hb hc hsz
  go_wp2_with fail
  refine (eqStringS_same l1 ax1 at1 _ _ _ ((owns_strs (l := l1) HOx1.out).later (Below.now ex1 (by repeat (first | exact Below.refl _ _ | refine Below.drew ?_ | refine below_drewN ?_ _ | refine Below.alloc ?_ (by simp; try omega) _)))) ((owns_strs (l := l1) HOt1.out).later (by repeat (first | exact Below.refl _ _ | refine Below.drew ?_ | refine below_drewN ?_ _ | refine Below.alloc ?_ (by simp; try omega) _))) (by omega)).mono ?_
  rintro e v6 ⟨rfl, hb⟩
  have hc : Below v5.heap.size v5 v6 := Below.now (by repeat (first | exact Below.refl _ _ | refine Below.drew ?_ | refine below_drewN ?_ _ | refine Below.alloc ?_ (by simp; try omega) _)) hb
  have hsz := hc.size
  replace d1 := Below.now d1 hc
  replace d3 := Below.now d3 hc
  replace ex1 := Below.now ex1 hc
  replace d7 := Below.now d7 hc
  clear hb hc hsz HOt1 lot1
  go_wp2_with fail
  go_ret
  exact ⟨rfl, Below.now hbel.out d1⟩
theorem walk (i0 : Int) (l1 : List ByteArray) (a1 : Option Addr) (c1 : Nat) (w : World) (hl1 : StrsIn w a1 l1) (hn1 : l1.length ≤ 9223372036854775807) (hm1 : ∀ j, j < l1.length → (nthS l1 j).size ≤ maxLen) (ht : Tab10 w) :
    Calls Tryd.prog 4 #[.int .i64 i0, .slice a1 l1.length c1] w fun e w' => e = .returned (.bool true) ∧ Below w.heap.size w w' := by
  by_cases hs1 : (1048576 : Int) < ((l1.length : Int) + (strSum l1 : Nat))
  · exact walkBig1 i0 l1 a1 c1 w hl1 hn1 hm1 ht  hs1
  exact walkSmall i0 l1 a1 c1 w hl1 hn1 hm1 ht hs1
end Go.Proofs.YtklbehapbchnaaaDoor.fnExactFoldLine
namespace Go.Proofs.YtklbehapbchnaaaDoor.fnExactFoldLine
open Go.ChangeShapes Go.WideShapes Go.ChangeAt Go.RowKit Go.Joins
open Go.ChangeMaps (open_string shut_string)
set_option linter.unusedVariables false
theorem own : ownKnob Tryd.prog.godebug = none := by kernel_rfl
theorem cellsS : Tryd.prog.cellsOf 9 = 1 := by kernel_rfl
theorem laidOut : laidOutB Tryd.prog = true := by kernel_rfl
theorem rdI : Tryd.prog.readableRec 3 = true ∧ 3 < Tryd.prog.types.size := ⟨by kernel_rfl, of_decide_eq_true (by kernel_rfl)⟩
theorem rdZ : Tryd.prog.readableRec 28 = true ∧ 28 < Tryd.prog.types.size := ⟨by kernel_rfl, of_decide_eq_true (by kernel_rfl)⟩
theorem rd : ∀ t ∈ Tryd.f4.params.toList, Tryd.prog.readableRec t = true ∧ t < Tryd.prog.types.size := by
  rw [Tryd.params4]
  intro t ht
  simp only [List.mem_cons, List.not_mem_nil, or_false] at ht
  rcases ht with rfl | rfl
  · exact rdI
  · exact rdZ
theorem door_met (os : Os) (args : Array Value) : laidMetH Tryd.prog Rows.fnExactFoldLineRow.laid ((World.doorLaid Tryd.prog 24 os).forCall (fun _ _ => 0) ⟨#[], args, []⟩).memory :=
  laidMetH_of_parts3 (fuel := 8) (laidMet_of_run' 8 (by kernel_rfl) (by kernel_rfl)) (by kernel_rfl) (by kernel_rfl)
theorem tab_laid {W : World} (h : laidMetH Tryd.prog Rows.fnExactFoldLineRow.laid W) : Tab10 W := by
  rw [MakeChecks.laidMetH_plain _ _ _ (by kernel_rfl)] at h
  have h3 : laidMet Tryd.prog [("internal/strconv.uint64pow10", Lib.tabData .u64 Lib.pow10Tab)] W := by
    have e : (Rows.laid_internal_strconv_uint64pow10 : DataW Unit) = Lib.tabData .u64 Lib.pow10Tab := by kernel_rfl
    rw [← e]
    exact laidMet.tail (laidMet.tail h)
  exact Lib.tabIs_of_head (rest := []) (g := 5) (by kernel_rfl) (by kernel_rfl) Tryd.underlying157 Tryd.underlying121 (by kernel_rfl) (by kernel_rfl) h3
set_option maxRecDepth 100000 in
theorem lifted (os : Os) (started : os.Started) (H : Type) (enc : TypeId × Value → H) :
    ReturnsInHanded {} Tryd.checked os 4 .any (fun w args => (Rows.fnExactFoldLineSpec.pre enc Tryd.prog Tryd.f4 [] false w args ∧ laidMetH Tryd.prog Rows.fnExactFoldLineRow.laid w) ∧ sizedMet enc Tryd.prog Tryd.f4 (OpenSpec.ofChange Rows.fnExactFoldLineSpec) false w args)
      (Rows.fnExactFoldLineSpec.post enc Tryd.prog Tryd.f4 false true false false) := by
  refine returnsInHanded_of_change_and (C := Tryd.checked) (X := fun w _ => laidMetH Tryd.prog Rows.fnExactFoldLineRow.laid w) (fun _ _ _ hh h => h.of_heap hh) own started (by kernel_rfl) Tryd.func4
    (ChangeSpec.witness_shaped (enc := enc) (C := Tryd.checked) (os := os) (X := fun w _ => laidMetH Tryd.prog Rows.fnExactFoldLineRow.laid w) false (World.doorLaid Tryd.prog 24 os) #[.int .i64 0, .slice none 0 0] 8 rfl (World.shaped_of_RefB (by kernel_rfl) (by kernel_rfl)) (by kernel_rfl) (by kernel_rfl) (by kernel_rfl) (door_met os _)) ?_
  intro W base args ds gs before hval0 hW _ _ hL _
  have ht := tab_laid hL
  have hval : ∀ (j : Nat) t v, Tryd.f4.params[j]? = some t → args[j]? = some v → Value.okWide Tryd.prog W .any base t v := hval0
  have hW' := hW
  obtain ⟨p, q, hA0, hV, rfl, hfz, hnd⟩ := hW
  have hA : DataW.TrodAll enc Tryd.prog W 0 (fun _ => true) true Tryd.f4.params.toList args.toList ds p := hA0
  rw [Tryd.params4] at hA hval
  obtain ⟨v0, vs0, d0, ds0, p0, q0, hargs, rfl, rfl, h0, r0⟩ := trodAll_cons hA
  obtain ⟨v1, vs1, d1, ds1, p1, q1, rfl, rfl, rfl, h1, r1⟩ := trodAll_cons r0
  obtain ⟨rfl, rfl, rfl⟩ := trodAll_nil r1
  obtain rfl : args = #[v0, v1] := by cases args; simp_all
  obtain ⟨rfl, rfl⟩ := trodVars_none hV
  obtain ⟨i0, rfl, hd0, hp0, wf0⟩ := open_int Tryd.underlying3 (hval 0 3 v0 rfl rfl) h0
  obtain ⟨a1, l1, c1, rfl, hl1, hn1, hm1⟩ := open_strsIn Tryd.underlying28 Tryd.underlying9 cellsS (hval 1 28 v1 rfl rfl) h1
  clear hA0 hval0
  refine (walk i0 l1 a1 c1 W hl1 hn1 hm1 ht).mono fun e W' ⟨he, hg⟩ => ?_
  subst he
  exact ⟨_, rfl, law_post laidOut rd rfl hW' rfl Tryd.underlying4 rfl hg⟩
theorem over : Rows.fnExactFoldLineRow.holds Tryd.pinned (OpenSpec.ofChange Rows.fnExactFoldLineSpec) :=
  OpenClaim.holds_of_wide 4 Tryd.f4 rfl rfl rfl rfl rfl rfl rfl ⟨rfl, rfl, rfl, rfl, rfl⟩ rfl rfl rfl rfl rfl (by kernel_rfl) Tryd.func4 (by kernel_rfl)
    (of_decide_eq_true (by kernel_rfl)) (by unfold Func.isWrapper; first | (rw [if_pos (by decide +kernel)]; kernel_rfl) | (rw [if_neg (by decide +kernel)]; exact ⟨rfl, rfl⟩))
    (fun os started H enc _ => lifted os started H enc)
theorem proved : Rows.FnExactFoldLineCardSaid :=
  Claim7.holds_tied_plain_at .later [] [.data, .data, .data] true (true, "82c6675a25ee7f3b6354010a81f8ab2516bbdece6755ac8003825ca59328320c") true
    over (fun _ h => by cases h) (by kernel_rfl) (fun _ h => by cases h) fnExactFoldLine_row_tie rfl ⟨rfl, rfl⟩ (by kernel_rfl) rfl
    (fun f fn hf hfn => by
      obtain rfl : f = 4 := Option.some.inj ((show Tryd.prog.funcNamed "loop.example/g03201/laws.FnExactFoldLine" = some 4 by kernel_rfl).symm.trans hf) |>.symm
      obtain rfl : fn = Tryd.f4 := (Option.some.inj (Tryd.func4.symm.trans hfn)).symm
      exact ⟨by kernel_rfl, fun j t ht => by
        rw [Tryd.params4] at ht
        have hm : t ∈ [3, 28] := by simpa using Array.mem_of_getElem? ht
        have hall : ([3, 28].all fun u => !Tryd.prog.wantsStandIn u) = true := by kernel_rfl
        exact (show Tryd.prog.wantsStandIn t = false by simpa using List.all_eq_true.1 hall t hm)⟩)
    (by kernel_rfl)
#print axioms proved
end Go.Proofs.YtklbehapbchnaaaDoor.fnExactFoldLine
