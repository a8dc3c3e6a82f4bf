/-
  LongestReduced and CountAll of the program.
-/
import Derived.Test.YtdpfgdckgchpdaaGreatDoorGrp42
import Derived.Test.YtdpfgdckgchpdaaGreatDoorGrp43
import Derived.Laws.EntriesVeiled
namespace Go.Proofs.YtdpfgdckgchpdaaGreatDoor
open Go.RowKit Go.Maps Go.WideMaps
set_option linter.unusedVariables false
/-- a height that is handed back -/
def RetHt (R : List RulD) (k : Nat) (e0 : ByteArray) (w : World) (e : Ending) (w' : World) : Prop := ∃ h, HtIs R k e0 h ∧ e = .returned (.int .i64 h) ∧ Below w.heap.size w w'
set_option maxRecDepth 20000 in
set_option maxHeartbeats 1000000 in
theorem longest_any (k : Nat) (R : List RulD) (p : Nat) (a : Option Addr) (cap : Nat) (w : World) (hl : RulesIn w a R) (hlen : R.length ≤ 2 ^ 40) (hr : RdAt w p (k : Nat) a R.length cap (keepR R)) (G : SysG R k) :
    Calls Tryz.prog 90 #[.pointer (some ⟨p, 0, none⟩)] w (RetHt R k ⟨#[]⟩ w) := by
  have HL := Lib.hid hl
  have HR := Lib.hid hr
  have hmm := @run_makeMap Tryz.prog
  have hp := World.block_lt_of_cell? w _ hr.1
  have HH := Lib.hid (height_any k R (w.heap.size + 1 + 1) w.heap.size (w.heap.size + 1 + 1 + 1) (w.heap.size + 1) p a cap hlen G 21846 [] ⟨#[]⟩)
  clear hl hr
  go_enter Tryz.func90, Tryz.ntmps90
  go_wp2_with fail
  generalize hW : ((((w.alloc (.cells #[.pointer (some ⟨p, 0, none⟩)] 109)).alloc (.map #[] 0)).alloc (.cells #[.map (some (w.heap.size + 1))] 155)).alloc (.cells #[.func (.func 133) #[] #[.pointer (some ⟨w.heap.size + 1 + 1, 0, none⟩), .pointer (some ⟨w.heap.size, 0, none⟩), .pointer (some ⟨w.heap.size + 1 + 1 + 1, 0, none⟩)]] 156)) = W
  have hB : Below w.heap.size w W := by
    rw [← hW]
    repeat (first | exact Below.refl _ _ | refine Below.alloc ?_ (by simp; try omega) _)
  have hO : OwnM W (w.heap.size + 1) 0 (.map []) := by
    rw [← hW]
    have h1 := World.ownsMap_made (w.alloc (.cells #[.pointer (some ⟨p, 0, none⟩)] 109)) Tryz.prog 9 (plainElem (H := Unit) Tryz.prog 3)
    have e1 : (w.alloc (.cells #[.pointer (some ⟨p, 0, none⟩)] 109)).heap.size = w.heap.size + 1 := by simp
    rw [e1] at h1
    exact (h1.alloc _).alloc _
  have hE : EnvH W (w.heap.size + 1 + 1) w.heap.size (w.heap.size + 1 + 1 + 1) (w.heap.size + 1) p (k : Nat) a cap R := by
    refine ⟨?_, ?_, ?_, HR.out.later hB, HL.out.later hB, ⟨by omega, by omega, by omega, by omega⟩, ?_⟩
    · rw [← hW]; simp [go_sem]
    · rw [← hW]; simp [go_sem]
    · rw [← hW]; simp [go_sem]
    · cases R with
      | nil => exact .inl rfl
      | cons r R =>
        right
        intro x hx
        obtain ⟨b', off, ha, hb', _⟩ := HL.out.cell (i := 0) (by simp)
        rw [ha] at hx
        cases hx
        show b' ≠ _
        omega
  clear hW
  refine (HH.out W 0 (.map []) rfl (WayE.start R k) hE hO (HMap.start R k)).mono ?_
  rintro e w2 ⟨h, h1, rfl, h2, _⟩
  have F : Hid (RetHt R k ⟨#[]⟩ w (.returned (.int .i64 h)) w2) := Lib.hid ⟨h, h1, rfl, hB.grown h2 hB.size (fun j hj => by cases hj; omega)⟩
  clear hE hO hB h1 h2 HH
  go_wp2_with fail
  go_ret
  exact F.out
end Go.Proofs.YtdpfgdckgchpdaaGreatDoor
namespace Go.Proofs.YtdpfgdckgchpdaaGreatDoor
open Go.RowKit
set_option linter.unusedVariables false
/-- what LongestReduced is -/
def LngIs (k : Int) (R : List RulD) (h : Int) : Prop := (¬ sysP k R ∧ h = -1) ∨ (sysP k R ∧ HtIs R k.toNat ⟨#[]⟩ h)
theorem LngIs.uniq {k : Int} {R : List RulD} {h h' : Int} (a : LngIs k R h) (b : LngIs k R h') : h = h' := by
  rcases a with ⟨a1, a2⟩ | ⟨a1, a2⟩ <;> rcases b with ⟨b1, b2⟩ | ⟨b1, b2⟩
  · rw [a2, b2]
  · exact absurd b1 a1
  · exact absurd a1 b1
  · exact a2.uniq b2
def RetLg (k : Int) (R : List RulD) (w : World) (e : Ending) (w' : World) : Prop := ∃ h, LngIs k R h ∧ e = .returned (.int .i64 h) ∧ Below w.heap.size w w'
/-- the words of less than j letters -/
def pSum (R : List RulD) (k j : Nat) : Nat := ((List.range j).map fun m => paths R k m ⟨#[]⟩).sum
theorem pSum_succ (R : List RulD) (k j : Nat) : pSum R k (j + 1) = pSum R k j + paths R k j ⟨#[]⟩ := by
  unfold pSum; rw [List.range_succ, List.map_append, List.sum_append]; simp
theorem pSum_mono (R : List RulD) (k : Nat) {i j : Nat} (h : i ≤ j) : pSum R k i ≤ pSum R k j := by
  induction h with
  | refl => exact Nat.le_refl _
  | step _ ih => rw [pSum_succ]; omega
theorem pSum_at (R : List RulD) (k : Nat) {i j : Nat} (h : i < j) : paths R k i ⟨#[]⟩ ≤ pSum R k j := by
  have h1 := pSum_mono R k (show i + 1 ≤ j from h)
  rw [pSum_succ] at h1; omega
theorem pSum_top {R : List RulD} {k n : Nat} (G : SysG R k) (h : HtIs R k ⟨#[]⟩ (n : Int)) : pSum R k (n + 1) ≤ topB := by
  rcases h with ⟨h1, _⟩ | ⟨m, h1, _, h3⟩
  · omega
  · have : m = n := by omega
    subst this
    exact paths_all G h3
/-- what CountAll is -/
def CntIs (k : Int) (R : List RulD) (c : Int) : Prop := ∃ h, LngIs k R h ∧ ((h < 0 ∧ c = -1) ∨ (0 ≤ h ∧ c = ((pSum R k.toNat (h.toNat + 1) : Nat) : Int)))
theorem CntIs.uniq {k : Int} {R : List RulD} {c c' : Int} (a : CntIs k R c) (b : CntIs k R c') : c = c' := by
  obtain ⟨h, a1, a2⟩ := a
  obtain ⟨h', b1, b2⟩ := b
  obtain rfl := a1.uniq b1
  rcases a2 with ⟨a2, a3⟩ | ⟨a2, a3⟩ <;> rcases b2 with ⟨b2, b3⟩ | ⟨b2, b3⟩
  · rw [a3, b3]
  · omega
  · omega
  · rw [a3, b3]
def RetCn (k : Int) (R : List RulD) (w : World) (e : Ending) (w' : World) : Prop := ∃ c, CntIs k R c ∧ e = .returned (.int .i64 c) ∧ Below w.heap.size w w'
set_option maxRecDepth 20000 in
set_option maxHeartbeats 1000000 in
theorem implLongestReduced_any (k : Int) (R : List RulD) (a : Option Addr) (cap : Nat) (w : World) (hl : RulesIn w a R) (hlen : R.length ≤ 2 ^ 40) (hz : SzR R) :
    Calls Tryz.prog 38 #[.agg #[.int .i64 k, .slice a R.length cap]] w (RetLg k R w) := by
  have HL := Lib.hid hl
  have HS := Lib.hid (fun W h => implSystemOk_any k R a cap W h hlen hz)
  have HN := Lib.hid (fun W h => newReader_any k R a cap W h hlen hz)
  have HA := Lib.hid (fun o => alloc_belowS w o)
  have hbx := alloc_at w (.cells #[.int .i64 k, .slice a R.length cap] 29)
  have HBX : Hid (∀ W2, Below (w.alloc (.cells #[.int .i64 k, .slice a R.length cap] 29)).heap.size (w.alloc (.cells #[.int .i64 k, .slice a R.length cap] 29)) W2 → W2.cell? ⟨w.heap.size, 0, none⟩ = some (.int .i64 k) ∧ W2.cell? ⟨w.heap.size, 1, none⟩ = some (.slice a R.length cap)) := Lib.hid (fun W2 hW2 => sys_cells ((hW2.block w.heap.size (by simp)).trans hbx))
  clear hl hz hbx
  go_enter Tryz.func38, Tryz.ntmps38
  go_wp2_with fail
  refine (HS.out _ (HL.out.later (HA.out _))).mono ?_
  rintro e w1 ⟨bb, hbb, rfl, hb1⟩
  have HBB := Lib.hid hbb
  obtain ⟨s0, s1⟩ := HBX.out w1 hb1
  have HW1 := Lib.hid (Below.now (HA.out _) hb1)
  clear hbb hb1 HS HBX
  cases bb
  · have F : Hid (RetLg k R w (.returned (.int .i64 (-1))) w1) := Lib.hid ⟨-1, .inl ⟨fun h => (by have := HBB.out.2 h; cases this), rfl⟩, rfl, HW1.out⟩
    go_wp2_with fail
    go_ret
    exact F.out
  · have HSP := Lib.hid (HBB.out.1 rfl)
    clear HBB
    obtain ⟨_, _, hk1, hk4⟩ := sys_sizes HSP.out
    obtain ⟨kn, rfl⟩ := Int.eq_ofNat_of_zero_le (show 0 ≤ k by omega)
    have HLG := Lib.hid (fun p W h1 h2 => longest_any kn R p a cap W h1 hlen h2 (sysG_of HSP.out))
    go_wp2_with fail
    refine (HN.out _ (HL.out.later HW1.out)).mono ?_
    rintro e w2 ⟨p, rfl, hrd, hp, hb2⟩
    have HRD := Lib.hid hrd
    have HW2 := Lib.hid (Below.now HW1.out hb2)
    clear hrd hp hb2 s0 s1 HN
    go_wp2_with fail
    refine (HLG.out _ _ (HL.out.later HW2.out) HRD.out).mono ?_
    rintro e w3 ⟨h, hh, rfl, hb3⟩
    have F : Hid (RetLg (kn : Int) R w (.returned (.int .i64 h)) w3) := Lib.hid ⟨h, .inr ⟨HSP.out, by simpa using hh⟩, rfl, Below.now HW2.out hb3⟩
    clear hh hb3 HLG
    go_wp2_with fail
    go_ret
    exact F.out
set_option maxHeartbeats 1000000 in
theorem sumOf_any (R : List RulD) (k n : Nat) (a : Option Addr) (cap : Nat) (w : World) (hl : IntsIn w a (growL R k n)) (hn : n ≤ 30000) (ht : pSum R k (n + 1) ≤ topB) :
    Calls Tryz.prog 107 #[.slice a (growL R k n).length cap] w fun e w' => e = .returned (.int .i64 ((pSum R k (n + 1) : Nat) : Int)) ∧ Below w.heap.size w w' := by
  have HL := Lib.hid hl
  have HT : Hid (∀ j, j ≤ n + 1 → pSum R k j ≤ 4611686018427387903) := Lib.hid (fun j hj => by have h1 := pSum_mono R k hj; unfold topB at ht; omega)
  have hlen := growL_len R k n
  have HG : Hid (∀ j, j < n + 1 → nthZ (growL R k n) j = ((paths R k j ⟨#[]⟩ : Nat) : Int)) := Lib.hid (fun j hj => by
    rw [nthZ_lt (by rw [growL_len]; exact hj)]; simp [growL])
  rw [hlen]
  generalize growL R k n = l at *
  clear hl ht
  go_enter Tryz.func107, Tryz.ntmps107
  go_wp2_with fail
  go_loopw [3, 8] (fun s i wr => ∃ j : Nat, j ≤ n + 1 ∧ i = .int .i64 (j : Nat) ∧ s = .int .i64 ((pSum R k j : Nat) : Int) ∧ Below w.heap.size w wr) (fun _ i _ => n + 1 - (intOf i).toNat)
  case atStart => exact ⟨0, Nat.zero_le _, rfl, rfl, Below.refl _ _⟩
  case round =>
    obtain ⟨j, hj, rfl, rfl, hbw⟩ := hrel
    by_cases hlt : j < n + 1
    · obtain ⟨b, off, rfl, hb, hc⟩ := (HL.out.later hbw).cell (i := j) (by omega)
      have c1 := hc j (by omega)
      rw [HG.out j hlt] at c1
      have hs := pSum_succ R k j
      have h1 := HT.out j hj
      have h2 := HT.out (j + 1) hlt
      have HSS := Lib.hid hs
      have h3 : paths R k j ⟨#[]⟩ ≤ 4611686018427387903 := by omega
      clear hc hs
      have h4 : pSum R k j + paths R k j ⟨#[]⟩ ≤ 4611686018427387903 := by rw [← HSS.out]; exact h2
      generalize hp : pSum R k j = x at *
      generalize hq : paths R k j ⟨#[]⟩ = y at *
      clear hp hq h2
      go_wp2_with fail
      go_roundw
      case rel => exact ⟨j + 1, by omega, by go_num, by rw [HSS.out]; go_num, hbw⟩
      case measure => simp [intOf]; omega
    · obtain rfl : j = n + 1 := by omega
      go_wp2_with fail
      go_ret
      exact ⟨rfl, hbw⟩
set_option maxRecDepth 20000 in
set_option maxHeartbeats 1000000 in
theorem implCountAll_any (k : Int) (R : List RulD) (a : Option Addr) (cap : Nat) (w : World) (hl : RulesIn w a R) (hlen : R.length ≤ 2 ^ 40) (hz : SzR R) :
    Calls Tryz.prog 63 #[.agg #[.int .i64 k, .slice a R.length cap]] w (RetCn k R w) := by
  have HL := Lib.hid hl
  have HS := Lib.hid (fun W h => implLongestReduced_any k R a cap W h hlen hz)
  have HA := Lib.hid (fun o => alloc_belowS w o)
  have hbx := alloc_at w (.cells #[.int .i64 k, .slice a R.length cap] 29)
  have HBX : Hid (∀ W2, Below (w.alloc (.cells #[.int .i64 k, .slice a R.length cap] 29)).heap.size (w.alloc (.cells #[.int .i64 k, .slice a R.length cap] 29)) W2 → W2.cell? ⟨w.heap.size, 0, none⟩ = some (.int .i64 k) ∧ W2.cell? ⟨w.heap.size, 1, none⟩ = some (.slice a R.length cap)) := Lib.hid (fun W2 hW2 => sys_cells ((hW2.block w.heap.size (by simp)).trans hbx))
  clear hl hz hbx
  go_enter Tryz.func63, Tryz.ntmps63
  go_wp2_with fail
  refine (HS.out _ (HL.out.later (HA.out _))).mono ?_
  rintro e w1 ⟨h, hlg, rfl, hb1⟩
  have HLG := Lib.hid hlg
  obtain ⟨s0, s1⟩ := HBX.out w1 hb1
  have HW1 := Lib.hid (Below.now (HA.out _) hb1)
  clear hb1 HS HBX
  by_cases h0 : h < 0
  · have F : Hid (RetCn k R w (.returned (.int .i64 (-1))) w1) := Lib.hid ⟨-1, ⟨h, HLG.out, .inl ⟨h0, rfl⟩⟩, rfl, HW1.out⟩
    clear hlg
    go_wp2_with fail
    go_ret
    exact F.out
  · rcases hlg with ⟨_, h1⟩ | ⟨hsp, hh⟩
    · omega
    · obtain ⟨_, _, hk1, hk4⟩ := sys_sizes hsp
      obtain ⟨kn, rfl⟩ := Int.eq_ofNat_of_zero_le (show 0 ≤ k by omega)
      obtain ⟨hn, rfl⟩ := Int.eq_ofNat_of_zero_le (show 0 ≤ h by omega)
      have hG := sysG_of hsp
      have hh' : HtIs R kn ⟨#[]⟩ (hn : Int) := by simpa using hh
      have hle := HtIs.le hG (EndP.nil kn) hh'
      have htop := pSum_top hG hh'
      have HGR := Lib.hid (fun W h => growthA_any kn hn R a cap W h hlen hsp (by omega) (fun i hi => Nat.le_trans (pSum_at R kn (show i < hn + 1 by omega)) htop))
      have HSU := Lib.hid (fun a2 c2 W h => sumOf_any R kn hn a2 c2 W h (by omega) htop)
      have HF : Hid (CntIs (kn : Int) R ((pSum R kn (hn + 1) : Nat) : Int)) := Lib.hid ⟨(hn : Int), HLG.out, .inr ⟨by omega, by simp⟩⟩
      clear hsp hh hh' htop hG HLG
      go_wp2_with fail
      refine (HGR.out _ (HL.out.later HW1.out)).mono ?_
      rintro e w2 ⟨a2, c2, rfl, ho2, hb2⟩
      have HI := Lib.hid (owns_ints ho2)
      have HW2 := Lib.hid (Below.now HW1.out hb2)
      clear ho2 hb2 HGR s0 s1
      go_wp2_with fail
      refine (HSU.out _ _ _ HI.out).mono ?_
      rintro e w3 ⟨rfl, hb3⟩
      have F : Hid (RetCn (kn : Int) R w (.returned (.int .i64 ((pSum R kn (hn + 1) : Nat) : Int))) w3) := Lib.hid ⟨_, HF.out, rfl, Below.now HW2.out hb3⟩
      clear hb3 HSU
      go_wp2_with fail
      go_ret
      exact F.out
end Go.Proofs.YtdpfgdckgchpdaaGreatDoor
