/-
  SystemLine of the reference.
-/
import Derived.Test.YtdpfgdckgchpdaaGreatDoorGrp34
import Derived.Test.YtdpfgdckgchpdaaGreatDoorGrp49
import Derived.Test.YtdpfgdckgchpdaaGreatDoorGrp27
import Derived.Deep.RegionHeld3
namespace Go.Proofs.YtdpfgdckgchpdaaGreatDoor
open Go.RowKit
set_option linter.unusedVariables false
/-- the line of a system: the numerals a, b, c, d of its numbers -/
def lineF (a b c d : ByteArray) : ByteArray := ⟨#[114, 117, 108, 101, 115, 32]⟩ ++ a ++ ⟨#[32, 112, 97, 105, 114, 115, 32]⟩ ++ b ++ ⟨#[32, 111, 112, 101, 110, 32]⟩ ++ c ++ ⟨#[32, 108, 111, 110, 103, 101, 115, 116, 32]⟩ ++ d
/-- what SystemLine is -/
def SlIs (k : Int) (R : List RulD) (v : ByteArray) : Prop := (¬ sysP k R ∧ v = ⟨#[110, 111, 110, 101]⟩) ∨ (sysP k R ∧ ∃ h, LngIs k R h ∧ v = lineF (numB (R.length : Int)) (numB ((pairsF R).length : Int)) (numB ((openF R).length : Int)) (numB h))
theorem SlIs.uniq {k : Int} {R : List RulD} {v v' : ByteArray} (a : SlIs k R v) (b : SlIs k R v') : v = v' := by
  rcases a with ⟨a1, a2⟩ | ⟨a1, h, a2, a3⟩ <;> rcases b with ⟨b1, b2⟩ | ⟨b1, h', b2, b3⟩
  · rw [a2, b2]
  · exact absurd b1 a1
  · exact absurd a1 b1
  · rw [a3, b3, a2.uniq b2]
def RetSL (k : Int) (R : List RulD) (w : World) (e : Ending) (w' : World) : Prop := ∃ v, SlIs k R v ∧ e = .returned (.string v) ∧ Below w.heap.size w w'
theorem LngIs.rng {k : Int} {R : List RulD} {h : Int} (a : LngIs k R h) : -1 ≤ h ∧ h ≤ 21844 := by
  rcases a with ⟨_, rfl⟩ | ⟨hs, hh⟩
  · omega
  · obtain ⟨_, _, hk1, hk4⟩ := sys_sizes hs
    obtain ⟨kn, rfl⟩ := Int.eq_ofNat_of_zero_le (show 0 ≤ k by omega)
    have hh' : HtIs R kn ⟨#[]⟩ h := by simpa using hh
    exact ⟨hh'.ge, hh'.le (sysG_of hs) (EndP.nil kn)⟩
theorem pairs_few {k : Int} {R : List RulD} (hs : sysP k R) : (pairsF R).length ≤ 2496 ∧ (openF R).length ≤ 2496 := by
  have h := pairTo_len (left8 hs) hs.1.1.2 (i := R.length) (j := 0) hs.1.1.2 (by omega)
  rw [pairTo_done] at h
  exact ⟨h, Nat.le_trans (openL_len R _) h⟩
set_option maxRecDepth 100000 in
set_option maxHeartbeats 4000000 in
theorem specSystemLine_any (k : Int) (R : List RulD) (a : Option Addr) (cap : Nat) (w : World) (hl : RulesIn w a R) (hlen : R.length ≤ 2 ^ 40) (hz : SzR R) :
    Calls Tryz.prog 10 #[.agg #[.int .i64 k, .slice a R.length cap]] w (RetSL k R w) := by
  have HSO := Lib.hid (fun W h => specSystemOk_any k R a cap W h hlen hz)
  have HLR := Lib.hid (fun W h => specLongestReduced_any k R a cap W h hlen hz)
  have HCP := Lib.hid (fun W h hs => specCountPairs_any k R a cap W h hs)
  have hb1 := alloc_belowS w (.cells #[.int .i64 k, .slice a R.length cap] 29)
  have HBX := Lib.hid (fun W2 (h : Below (w.alloc (.cells #[.int .i64 k, .slice a R.length cap] 29)).heap.size (w.alloc (.cells #[.int .i64 k, .slice a R.length cap] 29)) W2) => box_two h)
  have HW1 := Lib.hid hb1
  have HL := Lib.hid (hl.later hb1)
  clear hl hb1 hz
  go_enter Tryz.func10, Tryz.ntmps10
  go_wp2_with fail
  generalize w.alloc (.cells #[.int .i64 k, .slice a R.length cap] 29) = w1 at *
  refine (HSO.out _ HL.out).mono ?_
  rintro e w2 ⟨bb, hbb, rfl, hb2⟩
  have HBB := Lib.hid hbb
  have HB2 := Lib.hid hb2
  obtain ⟨s0, s1⟩ := HBX.out w2 hb2
  clear hbb hb2
  cases bb
  · have F : Hid (RetSL k R w (.returned (.string ⟨#[110, 111, 110, 101]⟩)) w2) := Lib.hid ⟨_, .inl ⟨fun h => (by have := HBB.out.2 h; cases this), rfl⟩, rfl, Below.now HW1.out HB2.out⟩
    go_wp2_with fail
    go_ret
    exact F.out
  · have HSP := Lib.hid (HBB.out.1 rfl)
    obtain ⟨hn1, hn2⟩ := pairs_few HSP.out
    have hn0 : R.length ≤ 12 := HSP.out.1.1.2
    obtain ⟨h, hlg⟩ : ∃ h, LngIs k R h := by
      obtain ⟨h, hh⟩ := HtIs.ex R k.toNat ⟨#[]⟩
      exact ⟨h, .inr ⟨HSP.out, hh⟩⟩
    obtain ⟨hr1, hr2⟩ := hlg.rng
    have HLG := Lib.hid hlg
    have HFI := Lib.hid (fun n W (h0 : -9223372036854775808 ≤ n) (h1 : n ≤ 9223372036854775807) => specFormatInt_any n W h0 h1)
    go_wp2_with fail
    refine (HCP.out _ (HL.out.later HB2.out) HSP.out).mono ?_
    rintro e w3 ⟨rfl, hb3⟩
    have HB3 := Lib.hid (Below.now HB2.out hb3)
    have HX : Hid (∀ W, Below w3.heap.size w3 W → W.cell? ⟨w.heap.size, 0, none⟩ = some (.int .i64 k) ∧ W.cell? ⟨w.heap.size, 1, none⟩ = some (.slice a R.length cap)) := Lib.hid (fun W hW => HBX.out W (Below.now HB3.out hW))
    have HL3 := Lib.hid (HL.out.later HB3.out)
    have l1 := itoa_len (n := (R.length : Int)) (by omega) (by omega)
    have l2 := itoa_len (n := ((pairsF R).length : Int)) (by omega) (by omega)
    have l3 := itoa_len (n := ((openF R).length : Int)) (by omega) (by omega)
    have l4 := itoa_len (n := h) (by omega) (by omega)
    have HF : Hid (∀ W, Below w3.heap.size w3 W → RetSL k R w (.returned (.string (lineF (numB (R.length : Int)) (numB ((pairsF R).length : Int)) (numB ((openF R).length : Int)) (numB h)))) W) := Lib.hid (fun W hW => ⟨_, .inr ⟨HSP.out, h, HLG.out, rfl⟩, rfl, Below.now HW1.out (Below.now HB3.out hW)⟩)
    have HFA : Hid (∀ W, Calls Tryz.prog 53 #[.int .i64 (R.length : Nat)] W fun e w' => e = .returned (.string (numB (R.length : Int))) ∧ Below W.heap.size W w') := Lib.hid (fun W => HFI.out _ W (by omega) (by omega))
    have HFB : Hid (∀ W, Calls Tryz.prog 53 #[.int .i64 ((pairsF R).length : Nat)] W fun e w' => e = .returned (.string (numB ((pairsF R).length : Int))) ∧ Below W.heap.size W w') := Lib.hid (fun W => HFI.out _ W (by omega) (by omega))
    have HFC : Hid (∀ W, Calls Tryz.prog 53 #[.int .i64 ((openF R).length : Nat)] W fun e w' => e = .returned (.string (numB ((openF R).length : Int))) ∧ Below W.heap.size W w') := Lib.hid (fun W => HFI.out _ W (by omega) (by omega))
    have HFD : Hid (∀ W, Calls Tryz.prog 53 #[.int .i64 h] W fun e w' => e = .returned (.string (numB h)) ∧ Below W.heap.size W w') := Lib.hid (fun W => HFI.out _ W (by omega) (by omega))
    clear hb3 s0 s1 HFI hlg hr1 hr2
    unfold lineF at HF
    generalize numB (R.length : Int) = A1 at *
    generalize numB ((pairsF R).length : Int) = A2 at *
    generalize numB ((openF R).length : Int) = A3 at *
    generalize numB h = A4 at *
    generalize (pairsF R).length = np at *
    generalize (openF R).length = no at *
    have y1 : ¬ 9223372036854775807 < 6 + A1.size := by omega
    have y2 : ¬ 9223372036854775807 < 6 + A1.size + 7 := by omega
    have y3 : ¬ 9223372036854775807 < 6 + A1.size + 7 + A2.size := by omega
    have y4 : ¬ 9223372036854775807 < 6 + A1.size + 7 + A2.size + 6 := by omega
    have y5 : ¬ 9223372036854775807 < 6 + A1.size + 7 + A2.size + 6 + A3.size := by omega
    have y6 : ¬ 9223372036854775807 < 6 + A1.size + 7 + A2.size + 6 + A3.size + 9 := by omega
    have y7 : ¬ 9223372036854775807 < 6 + A1.size + 7 + A2.size + 6 + A3.size + 9 + A4.size := by omega
    obtain ⟨r0, r1⟩ := HX.out w3 (Below.refl _ _)
    have kr := Below.refl w3.heap.size w3
    go_wp2_with fail
    go_region_held3 (fun w' => w'.cell? ⟨w.heap.size, 0, none⟩ = some (.int .i64 k) ∧ w'.cell? ⟨w.heap.size, 1, none⟩ = some (.slice a R.length cap)) (go_keep) (first
      | (go_at_call 53; (first | (with_reducible refine (HFA.out _).mono ?_) | (with_reducible refine (HFB.out _).mono ?_) | (with_reducible refine (HFC.out _).mono ?_) | (with_reducible refine (HFD.out _).mono ?_)); rintro e w5 ⟨rfl, hb5⟩; replace kr : Below w3.heap.size w3 w5 := Below.now (by repeat (first | exact kr | refine Below.drew ?_ | refine below_drewN ?_ _)) hb5; have t0 := (HX.out w5 kr).1; have t1 := (HX.out w5 kr).2; clear hb5)
      | (go_at_call 54; refine (HLR.out _ (HL3.out.later (by repeat (first | exact kr | refine Below.drew ?_ | refine below_drewN ?_ _)))).mono ?_; rintro e w5 ⟨h5, hh5, rfl, hb5⟩; obtain rfl := hh5.uniq HLG.out; replace kr : Below w3.heap.size w3 w5 := Below.now (by repeat (first | exact kr | refine Below.drew ?_ | refine below_drewN ?_ _)) hb5; have t0 := (HX.out w5 kr).1; have t1 := (HX.out w5 kr).2; clear hb5 hh5))
    all_goals
      go_wp2_with fail
      go_ret
      exact HF.out _ kr
end Go.Proofs.YtdpfgdckgchpdaaGreatDoor
