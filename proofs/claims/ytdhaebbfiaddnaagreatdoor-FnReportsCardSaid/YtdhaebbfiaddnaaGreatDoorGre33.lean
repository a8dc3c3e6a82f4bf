/-
  GrowthLine's answer as a function.
-/
import Derived.Test.YtdhaebbfiaddnaaGreatDoorGre32
import Derived.Test.YtdhaebbfiaddnaaGreatDoorGre30
import Derived.Test.YtdhaebbfiaddnaaGreatDoorGre04
import Derived.Test.YtdhaebbfiaddnaaGreatDoorGre28
import Derived.WalkSpells
namespace Go.Proofs.YtdhaebbfiaddnaaGreatDoor
open Go.RowKit
set_option linter.unusedVariables false
/-- the parts of the line -/
def joinL (a b c d : ByteArray) : List ByteArray := [⟨#[114, 117, 108, 101, 115]⟩, a, ⟨#[112, 97, 105, 114, 115]⟩, b, ⟨#[111, 112, 101, 110]⟩, c, ⟨#[108, 111, 110, 103, 101, 115, 116]⟩, d]
theorem join_line (a b c d : ByteArray) : joinF (joinL a b c d) ⟨#[32]⟩ = lineF a b c d := by
  show joinTo (joinL a b c d) ⟨#[32]⟩ 8 = _
  rw [joinTo_succ _ _ (show 0 < 7 by omega), joinTo_succ _ _ (show 0 < 6 by omega), joinTo_succ _ _ (show 0 < 5 by omega), joinTo_succ _ _ (show 0 < 4 by omega), joinTo_succ _ _ (show 0 < 3 by omega), joinTo_succ _ _ (show 0 < 2 by omega), joinTo_succ _ _ (show 0 < 1 by omega), joinTo_one]
  apply ba_ext0
  unfold lineF joinL nthS
  simp [ByteArray.data_append]
theorem line_size (a b c d : ByteArray) : (lineF a b c d).size = 28 + a.size + b.size + c.size + d.size := by
  have e : ∀ x : Array UInt8, (ByteArray.mk x).size = x.size := fun _ => rfl
  unfold lineF
  simp only [e]
  simp
  omega
theorem joinL_cap (a b c d : ByteArray) : (joinL a b c d).length ≤ 8 ∧ 8 ≤ maxLen := ⟨Nat.le_refl 8, by unfold maxLen; omega⟩
theorem strs_lit {T : TypeId} (W : World) (l : List ByteArray) : StrsIn (W.alloc (.cells (strVals l).toArray T)) (some ⟨W.heap.size, 0, none⟩) l := .inr ⟨_, _, rfl, fun i hi => by
  rw [Nat.zero_add, World.cell?_alloc_new]
  simp [strVals] at hi ⊢⟩
set_option maxRecDepth 100000 in
set_option maxHeartbeats 4000000 in
theorem implSystemLine_any (k : Int) (R : List RulD) (a : Option Addr) (cap : Nat) (w : World) (hl : RulesIn w a R) (hlen : R.length ≤ 2 ^ 40) (hz : SzR R) (ht : Tab10 w) :
    Calls Tryz.prog 15 #[.agg #[.int .i64 k, .slice a R.length cap]] w (RetSL k R w) := by
  have HSO := Lib.hid (fun W h => implSystemOk_any k R a cap W h hlen hz)
  have HLR := Lib.hid (fun W h => implLongestReduced_any k R a cap W h hlen hz)
  have HCP := Lib.hid (fun W h hs => implCountPairs_any k R a cap W h hs)
  have hb1 := alloc_belowS w (.cells #[.int .i64 k, .slice a R.length cap] 25)
  have HBX := Lib.hid (fun W2 (h : Below (w.alloc (.cells #[.int .i64 k, .slice a R.length cap] 25)).heap.size (w.alloc (.cells #[.int .i64 k, .slice a R.length cap] 25)) W2) => box_two h)
  have HW1 := Lib.hid hb1
  have HL := Lib.hid (hl.later hb1)
  have HTB := Lib.hid (ht.later hb1)
  clear hl hb1 hz ht
  go_enter Tryz.func15, Tryz.ntmps15
  go_wp2_with fail
  generalize w.alloc (.cells #[.int .i64 k, .slice a R.length cap] 25) = w1 at *
  refine (HSO.out _ HL.out).mono ?_
  rintro e w2 ⟨bb, hbb, rfl, hb2⟩
  have HBB := Lib.hid hbb
  have HB2 := Lib.hid hb2
  obtain ⟨s0, s1⟩ := HBX.out w2 hb2
  clear hbb hb2
  cases bb
  · have F : Hid (RetSL k R w (.returned (.string ⟨#[110, 111, 110, 101]⟩)) w2) := Lib.hid ⟨_, .inl ⟨fun h => (by have := HBB.out.2 h; cases this), rfl⟩, rfl, Below.now HW1.out HB2.out⟩
    go_wp2_with fail
    go_ret
    exact F.out
  · have HSP := Lib.hid (HBB.out.1 rfl)
    obtain ⟨hn1, hn2⟩ := pairs_few HSP.out
    have hn0 : R.length ≤ 12 := HSP.out.1.1.2
    obtain ⟨h, hlg⟩ : ∃ h, LngIs k R h := by
      obtain ⟨h, hh⟩ := HtIs.ex R k.toNat ⟨#[]⟩
      exact ⟨h, .inr ⟨HSP.out, hh⟩⟩
    obtain ⟨hr1, hr2⟩ := hlg.rng
    have HLG := Lib.hid hlg
    have HFI := Lib.hid (fun n W (h0 : -9223372036854775808 ≤ n) (h1 : n ≤ 9223372036854775807) (ht : Tab10 W) => implFormatInt_any n W h0 h1 ht)
    go_wp2_with fail
    refine (HCP.out _ (HL.out.later HB2.out) HSP.out).mono ?_
    rintro e w3 ⟨rfl, hb3⟩
    have HB3 := Lib.hid (Below.now HB2.out hb3)
    have HX : Hid (∀ W, Below w3.heap.size w3 W → W.cell? ⟨w.heap.size, 0, none⟩ = some (.int .i64 k) ∧ W.cell? ⟨w.heap.size, 1, none⟩ = some (.slice a R.length cap)) := Lib.hid (fun W hW => HBX.out W (Below.now HB3.out hW))
    have HL3 := Lib.hid (HL.out.later HB3.out)
    have HT3 := Lib.hid (HTB.out.later HB3.out)
    have l1 := itoa_len (n := (R.length : Int)) (by omega) (by omega)
    have l2 := itoa_len (n := ((pairsF R).length : Int)) (by omega) (by omega)
    have l3 := itoa_len (n := ((openF R).length : Int)) (by omega) (by omega)
    have l4 := itoa_len (n := h) (by omega) (by omega)
    have HF : Hid (∀ W, Below w3.heap.size w3 W → RetSL k R w (.returned (.string (lineF (numB (R.length : Int)) (numB ((pairsF R).length : Int)) (numB ((openF R).length : Int)) (numB h)))) W) := Lib.hid (fun W hW => ⟨_, .inr ⟨HSP.out, h, HLG.out, rfl⟩, rfl, Below.now HW1.out (Below.now HB3.out hW)⟩)
    have HFA : Hid (∀ W, Tab10 W → Calls Tryz.prog 16 #[.int .i64 (R.length : Nat)] W fun e w' => e = .returned (.string (numB (R.length : Int))) ∧ Below W.heap.size W w') := Lib.hid (fun W h => HFI.out _ W (by omega) (by omega) h)
    have HFB : Hid (∀ W, Tab10 W → Calls Tryz.prog 16 #[.int .i64 ((pairsF R).length : Nat)] W fun e w' => e = .returned (.string (numB ((pairsF R).length : Int))) ∧ Below W.heap.size W w') := Lib.hid (fun W h => HFI.out _ W (by omega) (by omega) h)
    have HFC : Hid (∀ W, Tab10 W → Calls Tryz.prog 16 #[.int .i64 ((openF R).length : Nat)] W fun e w' => e = .returned (.string (numB ((openF R).length : Int))) ∧ Below W.heap.size W w') := Lib.hid (fun W h => HFI.out _ W (by omega) (by omega) h)
    have HFD : Hid (∀ W, Tab10 W → Calls Tryz.prog 16 #[.int .i64 h] W fun e w' => e = .returned (.string (numB h)) ∧ Below W.heap.size W w') := Lib.hid (fun W h => HFI.out _ W (by omega) (by omega) h)
    clear hb3 s0 s1 HFI hlg hr1 hr2
    generalize numB (R.length : Int) = A1 at *
    generalize numB ((pairsF R).length : Int) = A2 at *
    generalize numB ((openF R).length : Int) = A3 at *
    generalize numB h = A4 at *
    generalize (pairsF R).length = np at *
    generalize (openF R).length = no at *
    have HJN := Lib.hid (fun W a2 c2 h hc => implJoin_any (joinL A1 A2 A3 A4) ⟨#[32]⟩ a2 c2 W h (by decide) (by decide) (by show 8 ≤ 2 ^ 40; omega) hc (by rw [join_line]; have := line_size A1 A2 A3 A4; omega))
    rw [join_line] at HJN
    generalize lineF A1 A2 A3 A4 = ln at *
    obtain ⟨r0, r1⟩ := HX.out w3 (Below.refl _ _)
    have kr := Below.refl w3.heap.size w3
    go_wp2_with fail
    go_region_held3 (fun w' => w'.cell? ⟨w.heap.size, 0, none⟩ = some (.int .i64 k) ∧ w'.cell? ⟨w.heap.size, 1, none⟩ = some (.slice a R.length cap)) (go_keep) (first
      | (go_at_call 16; (first | (with_reducible refine (HFA.out _ (HT3.out.later (by repeat (first | exact kr | refine Below.drew ?_ | refine below_drewN ?_ _ | refine Below.alloc ?_ (by first | (simp; done) | (simp; omega) | exact kr.size) _)))).mono ?_) | (with_reducible refine (HFB.out _ (HT3.out.later (by repeat (first | exact kr | refine Below.drew ?_ | refine below_drewN ?_ _ | refine Below.alloc ?_ (by first | (simp; done) | (simp; omega) | exact kr.size) _)))).mono ?_) | (with_reducible refine (HFC.out _ (HT3.out.later (by repeat (first | exact kr | refine Below.drew ?_ | refine below_drewN ?_ _ | refine Below.alloc ?_ (by first | (simp; done) | (simp; omega) | exact kr.size) _)))).mono ?_) | (with_reducible refine (HFD.out _ (HT3.out.later (by repeat (first | exact kr | refine Below.drew ?_ | refine below_drewN ?_ _ | refine Below.alloc ?_ (by first | (simp; done) | (simp; omega) | exact kr.size) _)))).mono ?_)); rintro e w5 ⟨rfl, hb5⟩; replace kr : Below w3.heap.size w3 w5 := Below.now (by repeat (first | exact kr | refine Below.drew ?_ | refine below_drewN ?_ _ | refine Below.alloc ?_ (by first | (simp; done) | (simp; omega) | exact kr.size) _)) hb5; have t0 := (HX.out w5 kr).1; have t1 := (HX.out w5 kr).2; clear hb5)
      | (go_at_call 17; refine (HLR.out _ (HL3.out.later (by repeat (first | exact kr | refine Below.drew ?_ | refine below_drewN ?_ _ | refine Below.alloc ?_ (by first | (simp; done) | (simp; omega) | exact kr.size) _)))).mono ?_; rintro e w5 ⟨h5, hh5, rfl, hb5⟩; obtain rfl := hh5.uniq HLG.out; replace kr : Below w3.heap.size w3 w5 := Below.now (by repeat (first | exact kr | refine Below.drew ?_ | refine below_drewN ?_ _ | refine Below.alloc ?_ (by first | (simp; done) | (simp; omega) | exact kr.size) _)) hb5; have t0 := (HX.out w5 kr).1; have t1 := (HX.out w5 kr).2; clear hb5 hh5)
      | (go_at_call 44; refine (HJN.out _ _ 8 (strs_lit _ (joinL A1 A2 A3 A4)) (joinL_cap _ _ _ _)).mono ?_; rintro e w5 ⟨rfl, hb5⟩; replace kr : Below w3.heap.size w3 w5 := Below.now (by repeat (first | exact kr | refine Below.drew ?_ | refine below_drewN ?_ _ | refine Below.alloc ?_ (by first | (simp; done) | (simp; omega) | exact kr.size) _)) hb5; have t0 := (HX.out w5 kr).1; have t1 := (HX.out w5 kr).2; clear hb5))
    all_goals
      go_wp2_with fail
      go_ret
      exact HF.out _ kr
end Go.Proofs.YtdhaebbfiaddnaaGreatDoor
namespace Go.Proofs.YtdhaebbfiaddnaaGreatDoor
open Go.RowKit
set_option linter.unusedVariables false
theorem SlIs.ex (k : Int) (R : List RulD) : ∃ v, SlIs k R v := by
  by_cases h : sysP k R
  · obtain ⟨x, hx⟩ := HtIs.ex R k.toNat ⟨#[]⟩
    exact ⟨_, .inr ⟨h, x, .inr ⟨h, hx⟩, rfl⟩⟩
  · exact ⟨_, .inl ⟨h, rfl⟩⟩
/-- the line of a system -/
noncomputable def lineS (k : Int) (R : List RulD) : ByteArray := Classical.choose (SlIs.ex k R)
theorem RetSL.fn {k : Int} {R : List RulD} {w : World} {e : Ending} {w' : World} (h : RetSL k R w e w') : e = .returned (.string (lineS k R)) ∧ Below w.heap.size w w' := by
  obtain ⟨v, hv, rfl, hb⟩ := h
  exact ⟨by rw [hv.uniq (Classical.choose_spec (SlIs.ex k R))]; rfl, hb⟩
theorem implSystemLine_fn (k : Int) (R : List RulD) (a : Option Addr) (cap : Nat) (w : World) (hl : RulesIn w a R) (hlen : R.length ≤ 2 ^ 40) (hz : SzR R) (ht : Tab10 w) :
    Calls Tryz.prog 15 #[.agg #[.int .i64 k, .slice a R.length cap]] w fun e w' => e = .returned (.string (lineS k R)) ∧ Below w.heap.size w w' := (implSystemLine_any k R a cap w hl hlen hz ht).mono fun _ _ h => h.fn
end Go.Proofs.YtdhaebbfiaddnaaGreatDoor
namespace Go.Proofs.YtdhaebbfiaddnaaGreatDoor
open Go.RowKit
set_option linter.unusedVariables false
set_option maxHeartbeats 1000000 in
theorem implGrowthOf_any (k : Int) (R : List RulD) (n : Int) (a : Option Addr) (cap : Nat) (w : World) (hl : RulesIn w a R) (hlen : R.length ≤ 2 ^ 40) (hz : SzR R) :
    Calls Tryz.prog 20 #[.agg #[.int .i64 k, .slice a R.length cap], .int .i64 n] w (RetGrow k R n w) := by
  have HL := Lib.hid hl
  have HS := Lib.hid (fun W h => implSystemOk_any k R a cap W h hlen hz)
  have HR0 := Lib.hid (fun W => within_any n 0 16 W)
  have HA := Lib.hid (fun o => alloc_belowS w o)
  have hbx := alloc_at w (.cells #[.int .i64 k, .slice a R.length cap] 25)
  have HBX : Hid (∀ W2, Below (w.alloc (.cells #[.int .i64 k, .slice a R.length cap] 25)).heap.size (w.alloc (.cells #[.int .i64 k, .slice a R.length cap] 25)) W2 → W2.cell? ⟨w.heap.size, 0, none⟩ = some (.int .i64 k) ∧ W2.cell? ⟨w.heap.size, 1, none⟩ = some (.slice a R.length cap)) := Lib.hid (fun W2 hW2 => sys_cells ((hW2.block w.heap.size (by simp)).trans hbx))
  clear hl hz hbx
  go_enter Tryz.func20, Tryz.ntmps20
  go_wp2_with fail
  refine (HS.out _ (HL.out.later (HA.out _))).mono ?_
  rintro e w1 ⟨bb, hbb, rfl, hb1⟩
  have HBB := Lib.hid hbb
  obtain ⟨s0, s1⟩ := HBX.out w1 hb1
  have HW1 := Lib.hid (Below.now (HA.out _) hb1)
  clear hbb hb1 HS HBX
  cases bb
  · have F : Hid (RetGrow k R n w (.returned (.slice none 0 0)) w1) := Lib.hid (.inl ⟨fun h => (by have := HBB.out.2 h.1; cases this), rfl, HW1.out⟩)
    go_wp2_with fail
    go_ret
    exact F.out
  · have HSP := Lib.hid (HBB.out.1 rfl)
    clear HBB
    cases hb : inB n 0 16
    · have F : Hid (RetGrow k R n w (.returned (.slice none 0 0)) w1) := Lib.hid (.inl ⟨fun h => (by have := h.2; simp [inB] at hb; omega), rfl, HW1.out⟩)
      rw [hb] at HR0
      clear hb
      go_wp2_with (go_at_call 48; refine (HR0.out _).mono ?_; rintro e w' ⟨rfl, rfl⟩)
      go_ret
      exact F.out
    · have hb2 := inB_bounds hb
      rw [hb] at HR0
      clear hb
      obtain ⟨_, _, hk1, hk4⟩ := sys_sizes HSP.out
      obtain ⟨kn, rfl⟩ := Int.eq_ofNat_of_zero_le (show 0 ≤ k by omega)
      obtain ⟨nn, rfl⟩ := Int.eq_ofNat_of_zero_le hb2.1
      have HGP : Hid (growP (kn : Int) R (nn : Int)) := Lib.hid ⟨HSP.out, by omega, by omega⟩
      have HGO : Hid (growO (kn : Int) R (nn : Int) = growL R kn nn) := Lib.hid (by unfold growO; simp)
      have HG := Lib.hid (fun W h => growth_any kn nn R a cap W h hlen HSP.out (by omega))
      clear hb2
      go_wp2_with (first
        | (go_at_call 48; refine (HR0.out _).mono ?_; rintro e w' ⟨rfl, rfl⟩))
      refine (HG.out _ (HL.out.later HW1.out)).mono ?_
      rintro e w2 ⟨a2, c2, rfl, ho2, hb2⟩
      have F : Hid (RetGrow (kn : Int) R (nn : Int) w (.returned (.slice a2 (growL R kn nn).length c2)) w2) := Lib.hid (.inr ⟨HGP.out, by
        rw [HGO.out]
        exact ⟨a2, c2, rfl, owns_mono ho2 HW1.out.size, Below.now HW1.out hb2⟩⟩)
      clear ho2 hb2 HG s0 s1
      go_wp2_with fail
      go_ret
      exact F.out
set_option maxRecDepth 20000 in
set_option maxHeartbeats 1000000 in
theorem implGrowthLine_any (k : Int) (R : List RulD) (n : Int) (a : Option Addr) (cap : Nat) (w : World) (hl : RulesIn w a R) (hlen : R.length ≤ 2 ^ 40) (hz : SzR R) (ht : Tab10 w) :
    Calls Tryz.prog 18 #[.agg #[.int .i64 k, .slice a R.length cap], .int .i64 n] w (RetLine k R n w) := by
  have HL := Lib.hid hl
  have HT := Lib.hid ht
  have HG := Lib.hid (fun W h => implGrowthOf_any k R n a cap W h hlen hz)
  have HA := Lib.hid (fun o => alloc_belowS w o)
  clear hl hz ht
  go_enter Tryz.func18, Tryz.ntmps18
  go_wp2_with fail
  refine (HG.out _ (HL.out.later (HA.out _))).mono ?_
  rintro e w1 (⟨hno, rfl, hb1⟩ | ⟨hyes, a1, c1, rfl, ho1, hb1⟩)
  · have F : Hid (RetLine k R n w (.returned (.string ⟨#[110, 111, 110, 101]⟩)) w1) := Lib.hid (.inl ⟨hno, rfl, Below.now (HA.out _) hb1⟩)
    have hnl := fun w => Lib.run_eql_slice_nil (P := Tryz.prog) w 49 3 none 0 0 0 0 Tryz.underlying49
    clear hno hb1 HG
    go_wp2_with fail
    go_ret
    exact F.out
  · have HY := Lib.hid hyes
    have hk := hyes.1.1.1.1
    have hln : (growO k R n).length = n.toNat + 1 := growL_len _ _ _
    have hnn := hyes.2
    obtain ⟨g1, cc1, hv⟩ := owns_slot ho1 (by omega)
    cases hv
    have HF := Lib.hid (fun W h1 h2 => implFormatNumbers_any (growO k R n) (some ⟨g1, 0, none⟩) c1 W h1 (by omega) (growL_rng (by omega) (by omega)) h2)
    have HI := Lib.hid (owns_ints ho1)
    have HB1 := Lib.hid (Below.now (HA.out _) hb1)
    clear hyes ho1 hb1 HG hln
    generalize hgg : growO k R n = gg at *
    have HGG := Lib.hid hgg
    clear hgg
    have hnl := fun w => Lib.run_eql_slice_nil (P := Tryz.prog) w 49 3 (some ⟨g1, 0, none⟩) gg.length c1 0 0 Tryz.underlying49
    go_wp2_with fail
    refine (HF.out _ HI.out (HT.out.later HB1.out)).mono ?_
    rintro e w2 ⟨rfl, hb2⟩
    have F : Hid (RetLine k R n w (.returned (.string (fmtNums gg))) w2) := Lib.hid (.inr ⟨HY.out, by rw [HGG.out], Below.now HB1.out hb2⟩)
    clear hb2 HF hnl
    go_wp2_with fail
    go_ret
    exact F.out
end Go.Proofs.YtdhaebbfiaddnaaGreatDoor
namespace Go.Proofs.YtdhaebbfiaddnaaGreatDoor
open Go.RowKit
set_option linter.unusedVariables false
open Classical in
/-- what GrowthLine answers -/
noncomputable def lineG (k : Int) (R : List RulD) (n : Int) : ByteArray := if growP k R n then fmtNums (growO k R n) else ⟨#[110, 111, 110, 101]⟩
theorem RetLine.fn {k : Int} {R : List RulD} {n : Int} {w w' : World} {e : Ending} (h : RetLine k R n w e w') : e = .returned (.string (lineG k R n)) ∧ Below w.heap.size w w' := by
  rcases h with ⟨h1, h2, h3⟩ | ⟨h1, h2, h3⟩
  · exact ⟨by rw [h2, lineG, if_neg h1], h3⟩
  · exact ⟨by rw [h2, lineG, if_pos h1], h3⟩
theorem implGrowthLine_fn (k : Int) (R : List RulD) (a : Option Addr) (cap : Nat) (n : Int) (w : World) (hl : RulesIn w a R) (hlen : R.length ≤ 2 ^ 40) (hz : SzR R) (ht : Tab10 w) :
    Calls Tryz.prog 18 #[.agg #[.int .i64 k, .slice a R.length cap], .int .i64 n] w fun e w' => e = .returned (.string (lineG k R n)) ∧ Below w.heap.size w w' :=
  (implGrowthLine_any k R n a cap w hl hlen hz ht).mono fun _ _ h => h.fn
end Go.Proofs.YtdhaebbfiaddnaaGreatDoor
