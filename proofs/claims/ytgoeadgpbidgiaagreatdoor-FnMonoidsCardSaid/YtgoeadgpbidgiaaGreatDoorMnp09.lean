/-
  Steps of a rewriting system, and normal forms, as plain data.
-/
import Derived.Test.YtgoeadgpbidgiaaGreatDoorMnp08
import Derived.Test.YtgoeadgpbidgiaaGreatDoorMnp03
import Derived.Test.YtgoeadgpbidgiaaGreatDoorMnp06
import Derived.Deep.RegionHeld3
import Derived.Test.YtgoeadgpbidgiaaGreatDoorMnp05
import Derived.Test.YtgoeadgpbidgiaaGreatDoorMnp07
import Derived.Sort.Walk0
import Derived.Test.YtgoeadgpbidgiaaGreatDoorMnp04
namespace Go.Proofs.YtgoeadgpbidgiaaGreatDoor
open Go.RowKit
set_option linter.unusedVariables false
/-- what LongestReduced is -/
def LngIs (k : Int) (R : List RulD) (h : Int) : Prop := (¬ sysP k R ∧ h = -1) ∨ (sysP k R ∧ HtIs R k.toNat ⟨#[]⟩ h)
theorem LngIs.uniq {k : Int} {R : List RulD} {h h' : Int} (a : LngIs k R h) (b : LngIs k R h') : h = h' := by
  rcases a with ⟨a1, a2⟩ | ⟨a1, a2⟩ <;> rcases b with ⟨b1, b2⟩ | ⟨b1, b2⟩
  · rw [a2, b2]
  · exact absurd b1 a1
  · exact absurd a1 b1
  · exact a2.uniq b2
def RetLg (k : Int) (R : List RulD) (w : World) (e : Ending) (w' : World) : Prop := ∃ h, LngIs k R h ∧ e = .returned (.int .i64 h) ∧ Below w.heap.size w w'
/-- the words of less than j letters -/
def pSum (R : List RulD) (k j : Nat) : Nat := ((List.range j).map fun m => paths R k m ⟨#[]⟩).sum
theorem pSum_succ (R : List RulD) (k j : Nat) : pSum R k (j + 1) = pSum R k j + paths R k j ⟨#[]⟩ := by
  unfold pSum; rw [List.range_succ, List.map_append, List.sum_append]; simp
theorem pSum_mono (R : List RulD) (k : Nat) {i j : Nat} (h : i ≤ j) : pSum R k i ≤ pSum R k j := by
  induction h with
  | refl => exact Nat.le_refl _
  | step _ ih => rw [pSum_succ]; omega
theorem pSum_at (R : List RulD) (k : Nat) {i j : Nat} (h : i < j) : paths R k i ⟨#[]⟩ ≤ pSum R k j := by
  have h1 := pSum_mono R k (show i + 1 ≤ j from h)
  rw [pSum_succ] at h1; omega
theorem pSum_top {R : List RulD} {k n : Nat} (G : SysG R k) (h : HtIs R k ⟨#[]⟩ (n : Int)) : pSum R k (n + 1) ≤ topB := by
  rcases h with ⟨h1, _⟩ | ⟨m, h1, _, h3⟩
  · omega
  · have : m = n := by omega
    subst this
    exact paths_all G h3
/-- what CountAll is -/
def CntIs (k : Int) (R : List RulD) (c : Int) : Prop := ∃ h, LngIs k R h ∧ ((h < 0 ∧ c = -1) ∨ (0 ≤ h ∧ c = ((pSum R k.toNat (h.toNat + 1) : Nat) : Int)))
theorem CntIs.uniq {k : Int} {R : List RulD} {c c' : Int} (a : CntIs k R c) (b : CntIs k R c') : c = c' := by
  obtain ⟨h, a1, a2⟩ := a
  obtain ⟨h', b1, b2⟩ := b
  obtain rfl := a1.uniq b1
  rcases a2 with ⟨a2, a3⟩ | ⟨a2, a3⟩ <;> rcases b2 with ⟨b2, b3⟩ | ⟨b2, b3⟩
  · rw [a3, b3]
  · omega
  · omega
  · rw [a3, b3]
def RetCn (k : Int) (R : List RulD) (w : World) (e : Ending) (w' : World) : Prop := ∃ c, CntIs k R c ∧ e = .returned (.int .i64 c) ∧ Below w.heap.size w w'
set_option maxRecDepth 20000 in
set_option maxHeartbeats 1000000 in
theorem implLongestReduced_any (k : Int) (R : List RulD) (a : Option Addr) (cap : Nat) (w : World) (hl : RulesIn w a R) (hlen : R.length ≤ 2 ^ 40) (hz : SzR R) :
    Calls Tryz.prog 21 #[.agg #[.int .i64 k, .slice a R.length cap]] w (RetLg k R w) := by
  have HL := Lib.hid hl
  have HS := Lib.hid (fun W h => implSystemOk_any k R a cap W h hlen hz)
  have HN := Lib.hid (fun W h => newReader_any k R a cap W h hlen hz)
  have HA := Lib.hid (fun o => alloc_belowS w o)
  have hbx := alloc_at w (.cells #[.int .i64 k, .slice a R.length cap] 33)
  have HBX : Hid (∀ W2, Below (w.alloc (.cells #[.int .i64 k, .slice a R.length cap] 33)).heap.size (w.alloc (.cells #[.int .i64 k, .slice a R.length cap] 33)) W2 → W2.cell? ⟨w.heap.size, 0, none⟩ = some (.int .i64 k) ∧ W2.cell? ⟨w.heap.size, 1, none⟩ = some (.slice a R.length cap)) := Lib.hid (fun W2 hW2 => sys_cells ((hW2.block w.heap.size (by simp)).trans hbx))
  clear hl hz hbx
  go_enter Tryz.func21, Tryz.ntmps21
  go_wp2_with fail
  refine (HS.out _ (HL.out.later (HA.out _))).mono ?_
  rintro e w1 ⟨bb, hbb, rfl, hb1⟩
  have HBB := Lib.hid hbb
  obtain ⟨s0, s1⟩ := HBX.out w1 hb1
  have HW1 := Lib.hid (Below.now (HA.out _) hb1)
  clear hbb hb1 HS HBX
  cases bb
  · have F : Hid (RetLg k R w (.returned (.int .i64 (-1))) w1) := Lib.hid ⟨-1, .inl ⟨fun h => (by have := HBB.out.2 h; cases this), rfl⟩, rfl, HW1.out⟩
    go_wp2_with fail
    go_ret
    exact F.out
  · have HSP := Lib.hid (HBB.out.1 rfl)
    clear HBB
    obtain ⟨_, _, hk1, hk4⟩ := sys_sizes HSP.out
    obtain ⟨kn, rfl⟩ := Int.eq_ofNat_of_zero_le (show 0 ≤ k by omega)
    have HLG := Lib.hid (fun p W h1 h2 => longest_any kn R p a cap W h1 hlen h2 (sysG_of HSP.out))
    go_wp2_with fail
    refine (HN.out _ (HL.out.later HW1.out)).mono ?_
    rintro e w2 ⟨p, rfl, hrd, hp, hb2⟩
    have HRD := Lib.hid hrd
    have HW2 := Lib.hid (Below.now HW1.out hb2)
    clear hrd hp hb2 s0 s1 HN
    go_wp2_with fail
    refine (HLG.out _ _ (HL.out.later HW2.out) HRD.out).mono ?_
    rintro e w3 ⟨h, hh, rfl, hb3⟩
    have F : Hid (RetLg (kn : Int) R w (.returned (.int .i64 h)) w3) := Lib.hid ⟨h, .inr ⟨HSP.out, by simpa using hh⟩, rfl, Below.now HW2.out hb3⟩
    clear hh hb3 HLG
    go_wp2_with fail
    go_ret
    exact F.out
set_option maxHeartbeats 1000000 in
theorem sumOf_any (R : List RulD) (k n : Nat) (a : Option Addr) (cap : Nat) (w : World) (hl : IntsIn w a (growL R k n)) (hn : n ≤ 30000) (ht : pSum R k (n + 1) ≤ topB) :
    Calls Tryz.prog 58 #[.slice a (growL R k n).length cap] w fun e w' => e = .returned (.int .i64 ((pSum R k (n + 1) : Nat) : Int)) ∧ Below w.heap.size w w' := by
  have HL := Lib.hid hl
  have HT : Hid (∀ j, j ≤ n + 1 → pSum R k j ≤ 4611686018427387903) := Lib.hid (fun j hj => by have h1 := pSum_mono R k hj; unfold topB at ht; omega)
  have hlen := growL_len R k n
  have HG : Hid (∀ j, j < n + 1 → nthZ (growL R k n) j = ((paths R k j ⟨#[]⟩ : Nat) : Int)) := Lib.hid (fun j hj => by
    rw [nthZ_lt (by rw [growL_len]; exact hj)]; simp [growL])
  rw [hlen]
  generalize growL R k n = l at *
  clear hl ht
  go_enter Tryz.func58, Tryz.ntmps58
  go_wp2_with fail
  go_loopw [3, 8] (fun s i wr => ∃ j : Nat, j ≤ n + 1 ∧ i = .int .i64 (j : Nat) ∧ s = .int .i64 ((pSum R k j : Nat) : Int) ∧ Below w.heap.size w wr) (fun _ i _ => n + 1 - (intOf i).toNat)
  case atStart => exact ⟨0, Nat.zero_le _, rfl, rfl, Below.refl _ _⟩
  case round =>
    obtain ⟨j, hj, rfl, rfl, hbw⟩ := hrel
    by_cases hlt : j < n + 1
    · obtain ⟨b, off, rfl, hb, hc⟩ := (HL.out.later hbw).cell (i := j) (by omega)
      have c1 := hc j (by omega)
      rw [HG.out j hlt] at c1
      have hs := pSum_succ R k j
      have h1 := HT.out j hj
      have h2 := HT.out (j + 1) hlt
      have HSS := Lib.hid hs
      have h3 : paths R k j ⟨#[]⟩ ≤ 4611686018427387903 := by omega
      clear hc hs
      have h4 : pSum R k j + paths R k j ⟨#[]⟩ ≤ 4611686018427387903 := by rw [← HSS.out]; exact h2
      generalize hp : pSum R k j = x at *
      generalize hq : paths R k j ⟨#[]⟩ = y at *
      clear hp hq h2
      go_wp2_with fail
      go_roundw
      case rel => exact ⟨j + 1, by omega, by go_num, by rw [HSS.out]; go_num, hbw⟩
      case measure => simp [intOf]; omega
    · obtain rfl : j = n + 1 := by omega
      go_wp2_with fail
      go_ret
      exact ⟨rfl, hbw⟩
set_option maxRecDepth 20000 in
set_option maxHeartbeats 1000000 in
theorem implCountAll_any (k : Int) (R : List RulD) (a : Option Addr) (cap : Nat) (w : World) (hl : RulesIn w a R) (hlen : R.length ≤ 2 ^ 40) (hz : SzR R) :
    Calls Tryz.prog 22 #[.agg #[.int .i64 k, .slice a R.length cap]] w (RetCn k R w) := by
  have HL := Lib.hid hl
  have HS := Lib.hid (fun W h => implLongestReduced_any k R a cap W h hlen hz)
  have HA := Lib.hid (fun o => alloc_belowS w o)
  have hbx := alloc_at w (.cells #[.int .i64 k, .slice a R.length cap] 33)
  have HBX : Hid (∀ W2, Below (w.alloc (.cells #[.int .i64 k, .slice a R.length cap] 33)).heap.size (w.alloc (.cells #[.int .i64 k, .slice a R.length cap] 33)) W2 → W2.cell? ⟨w.heap.size, 0, none⟩ = some (.int .i64 k) ∧ W2.cell? ⟨w.heap.size, 1, none⟩ = some (.slice a R.length cap)) := Lib.hid (fun W2 hW2 => sys_cells ((hW2.block w.heap.size (by simp)).trans hbx))
  clear hl hz hbx
  go_enter Tryz.func22, Tryz.ntmps22
  go_wp2_with fail
  refine (HS.out _ (HL.out.later (HA.out _))).mono ?_
  rintro e w1 ⟨h, hlg, rfl, hb1⟩
  have HLG := Lib.hid hlg
  obtain ⟨s0, s1⟩ := HBX.out w1 hb1
  have HW1 := Lib.hid (Below.now (HA.out _) hb1)
  clear hb1 HS HBX
  by_cases h0 : h < 0
  · have F : Hid (RetCn k R w (.returned (.int .i64 (-1))) w1) := Lib.hid ⟨-1, ⟨h, HLG.out, .inl ⟨h0, rfl⟩⟩, rfl, HW1.out⟩
    clear hlg
    go_wp2_with fail
    go_ret
    exact F.out
  · rcases hlg with ⟨_, h1⟩ | ⟨hsp, hh⟩
    · omega
    · obtain ⟨_, _, hk1, hk4⟩ := sys_sizes hsp
      obtain ⟨kn, rfl⟩ := Int.eq_ofNat_of_zero_le (show 0 ≤ k by omega)
      obtain ⟨hn, rfl⟩ := Int.eq_ofNat_of_zero_le (show 0 ≤ h by omega)
      have hG := sysG_of hsp
      have hh' : HtIs R kn ⟨#[]⟩ (hn : Int) := by simpa using hh
      have hle := HtIs.le hG (EndP.nil kn) hh'
      have htop := pSum_top hG hh'
      have HGR := Lib.hid (fun W h => growthA_any kn hn R a cap W h hlen hsp (by omega) (fun i hi => Nat.le_trans (pSum_at R kn (show i < hn + 1 by omega)) htop))
      have HSU := Lib.hid (fun a2 c2 W h => sumOf_any R kn hn a2 c2 W h (by omega) htop)
      have HF : Hid (CntIs (kn : Int) R ((pSum R kn (hn + 1) : Nat) : Int)) := Lib.hid ⟨(hn : Int), HLG.out, .inr ⟨by omega, by simp⟩⟩
      clear hsp hh hh' htop hG HLG
      go_wp2_with fail
      refine (HGR.out _ (HL.out.later HW1.out)).mono ?_
      rintro e w2 ⟨a2, c2, rfl, ho2, hb2⟩
      have HI := Lib.hid (owns_ints ho2)
      have HW2 := Lib.hid (Below.now HW1.out hb2)
      clear ho2 hb2 HGR s0 s1
      go_wp2_with fail
      refine (HSU.out _ _ _ HI.out).mono ?_
      rintro e w3 ⟨rfl, hb3⟩
      have F : Hid (RetCn (kn : Int) R w (.returned (.int .i64 ((pSum R kn (hn + 1) : Nat) : Int))) w3) := Lib.hid ⟨_, HF.out, rfl, Below.now HW2.out hb3⟩
      clear hb3 HSU
      go_wp2_with fail
      go_ret
      exact F.out
end Go.Proofs.YtgoeadgpbidgiaaGreatDoor
namespace Go.Proofs.YtgoeadgpbidgiaaGreatDoor
open Go.RowKit
set_option linter.unusedVariables false
theorem Src.grown {w w' : World} {H m c : Nat} {own : Option Nat} {news : List Value} (h : Src w (.slice (some ⟨H, 0, none⟩) m c) m news) (hg : w.grownBy w' own) (hH : H < w.heap.size) (hne : own ≠ some H) : Src w' (.slice (some ⟨H, 0, none⟩) m c) m news := by
  rcases h with ⟨h, _⟩ | ⟨ad, c', hx, hc⟩
  · cases h
  · simp only [Value.slice.injEq, Option.some.injEq, true_and] at hx
    obtain ⟨rfl, rfl⟩ := hx
    refine .inr ⟨_, _, rfl, fun j u hu => ?_⟩
    rw [add_off]
    have h1 := hc j u hu
    rw [add_off] at h1
    rw [World.cell?_of_block (w := w) (hg.block H hH (fun e => hne e.symm))]
    exact h1
section
variable {P : Program}
end
end Go.Proofs.YtgoeadgpbidgiaaGreatDoor
namespace Go.Proofs.YtgoeadgpbidgiaaGreatDoor
open Go.RowKit
set_option linter.unusedVariables false
end Go.Proofs.YtgoeadgpbidgiaaGreatDoor
namespace Go.Proofs.YtgoeadgpbidgiaaGreatDoor
open Go.RowKit
set_option linter.unusedVariables false
theorem ApartW.add {V : WayD} (hap : ApartW V) (a c : Nat) : ApartW (addW V a c) := by
  unfold ApartW addW
  rw [List.pairwise_iff_getElem]
  intro i j hi hj hij
  have h1 := (List.pairwise_iff_getElem.1 hap) i j (by simpa using hi) (by simpa using hj) hij
  rw [List.getElem_modify, List.getElem_modify]
  split <;> split <;> exact h1
theorem ApartW.push {V : WayD} (hap : ApartW V) {v : ByteArray} {c : Nat} (hv : ∀ p ∈ V, p.1 ≠ v) : ApartW (V ++ [(v, c)]) := by
  unfold ApartW
  rw [List.pairwise_append]
  exact ⟨hap, List.pairwise_singleton _ _, fun p hp q hq => by rw [List.mem_singleton.1 hq]; exact hv p hp⟩
def EndsW (k : Nat) (V : WayD) : Prop := ∀ p ∈ V, EndP k p.1
theorem EndsW.add {k : Nat} {V : WayD} (h : EndsW k V) (a c : Nat) : EndsW k (addW V a c) := fun p hp => by
  unfold addW at hp
  obtain ⟨j, hj, he⟩ := List.getElem_of_mem hp
  rw [List.getElem_modify] at he
  have h1 := h _ (List.getElem_mem (show j < V.length by simpa using hj))
  split at he
  · rw [← he]; exact h1
  · rw [← he]; exact h1
theorem EndsW.push {k : Nat} {V : WayD} (h : EndsW k V) {v : ByteArray} {c : Nat} (hv : EndP k v) : EndsW k (V ++ [(v, c)]) := fun p hp => by
  rcases List.mem_append.1 hp with hp | hp
  · exact h p hp
  · rw [List.mem_singleton.1 hp]; exact hv
theorem apart_few {k : Nat} (hk : k ≤ 4) {V : WayD} (h : ApartW V) (he : EndsW k V) : V.length ≤ 21845 := by
  have h1 := ends_few hk (l := V.map (·.1)) (by
    unfold List.Nodup
    rw [List.pairwise_map]
    exact h) (fun e hm => by
    obtain ⟨p, hp, rfl⟩ := List.mem_map.1 hm
    exact he p hp)
  simpa using h1
/-- the ways of a length, the ends apart -/
structure WayAtA (R : List RulD) (k i : Nat) (W : WayD) : Prop where
  way : WayAt R k i W
  apart : ApartW W
  ends : EndsW k W
theorem WayAtA.start (R : List RulD) (k : Nat) : WayAtA R k 0 [(⟨#[]⟩, 1)] := ⟨WayAt.start R k, List.pairwise_singleton _ _, fun p hp => by rw [List.mem_singleton.1 hp]; exact EndP.nil k⟩
theorem WayAtA.few {R : List RulD} {k i : Nat} {W : WayD} (hk : k ≤ 4) (h : WayAtA R k i W) : W.length ≤ 21845 := apart_few hk h.apart h.ends
structure WayTA (R : List RulD) (k : Nat) (W : WayD) (i j : Nat) (e : ByteArray) (c : Nat) (V : WayD) : Prop where
  way : WayTo R k W i j e c V
  apart : ApartW V
  ends : EndsW k V
theorem WayTA.start (R : List RulD) (k : Nat) (W : WayD) (e : ByteArray) (c : Nat) : WayTA R k W 0 0 e c [] := ⟨WayTo.start R k W e c, List.Pairwise.nil, fun p hp => by cases hp⟩
theorem WayTA.few {R : List RulD} {k : Nat} {W V : WayD} {i j c : Nat} {e : ByteArray} (hk : k ≤ 4) (h : WayTA R k W i j e c V) : V.length ≤ 21845 := apart_few hk h.apart h.ends
theorem WayTA.no {R : List RulD} {k : Nat} {W V : WayD} {i j c : Nat} {e : ByteArray} (h : WayTA R k W i j e c V) (hx : okX R e j = false) : WayTA R k W i (j + 1) e c V := ⟨h.way.no hx, h.apart, h.ends⟩
theorem WayTA.old {R : List RulD} {k : Nat} {W V : WayD} {i j c a : Nat} {e : ByteArray} (h : WayTA R k W i j e c V) (hx : okX R e j = true) (ha : a < V.length) (he : V[a].1 = nxtX R e j) : WayTA R k W i (j + 1) e c (addW V a c) :=
  ⟨h.way.old hx ha he, h.apart.add _ _, h.ends.add _ _⟩
theorem WayTA.new {R : List RulD} {k : Nat} {W V : WayD} {i j c : Nat} {e : ByteArray} (h : WayTA R k W i j e c V) (hx : okX R e j = true) (hc : 1 ≤ c) (hn : ∀ p ∈ V, p.1 ≠ nxtX R e j) (hE : EndP k (nxtX R e j)) : WayTA R k W i (j + 1) e c (V ++ [(nxtX R e j, c)]) :=
  ⟨h.way.new hx hc, h.apart.push hn, h.ends.push hE⟩
theorem WayTA.row {R : List RulD} {k : Nat} {W V : WayD} {i : Nat} (hi : i < W.length) (h : WayTA R k W i k W[i].1 W[i].2 V) (e : ByteArray) (c : Nat) : WayTA R k W (i + 1) 0 e c V := ⟨h.way.row hi e c, h.apart, h.ends⟩
theorem WayTA.other {R : List RulD} {k : Nat} {W V : WayD} {i : Nat} {e e' : ByteArray} {c c' : Nat} (h : WayTA R k W i 0 e c V) : WayTA R k W i 0 e' c' V := ⟨h.way.other, h.apart, h.ends⟩
theorem WayTA.done {R : List RulD} {k n : Nat} {W V : WayD} {e : ByteArray} {c : Nat} (hW : WayAtA R k n W) (h : WayTA R k W W.length 0 e c V) : WayAtA R k (n + 1) V := ⟨h.way.done hW.way, h.apart, h.ends⟩
theorem WayTA.le {R : List RulD} {k n : Nat} {W V : WayD} {i j : Nat} (hW : WayAtA R k n W) (hi : i < W.length) (hj : j ≤ k) (h : WayTA R k W i j W[i].1 W[i].2 V) : wsum R k 0 V ≤ paths R k (n + 1) ⟨#[]⟩ := by
  rw [h.way.eq 0]
  have h1 := wsum_take_le R k (0 + 1) W (i + 1)
  rw [wsum_take _ _ _ _ hi, paths_succ] at h1
  have h2 := pTo_mono R k 0 W[i].1 hj
  have h3 : W[i].2 * pTo R k 0 W[i].1 j ≤ W[i].2 * pTo R k 0 W[i].1 k := Nat.mul_le_mul_left _ h2
  have h4 := hW.way.eq (0 + 1)
  have h6 : n + (0 + 1) = n + 1 := by omega
  rw [h6] at h4
  omega
end Go.Proofs.YtgoeadgpbidgiaaGreatDoor
namespace Go.Proofs.YtgoeadgpbidgiaaGreatDoor
open Go.RowKit
set_option linter.unusedVariables false
end Go.Proofs.YtgoeadgpbidgiaaGreatDoor
namespace Go.Proofs.YtgoeadgpbidgiaaGreatDoor
open Go.RowKit
set_option linter.unusedVariables false
end Go.Proofs.YtgoeadgpbidgiaaGreatDoor
namespace Go.Proofs.YtgoeadgpbidgiaaGreatDoor
open Go.RowKit
set_option linter.unusedVariables false
/-- all reduced words from w by m letters -/
def wordsF (R : List RulD) (k : Nat) : Nat → ByteArray → List ByteArray
  | 0, w => [w]
  | m + 1, w => (List.range k).flatMap fun x => if okX R w x = true then wordsF R k m (w ++ letterN x) else []
theorem len_flat (l : List Nat) (p : Nat → Bool) (f : Nat → List ByteArray) : (l.flatMap fun x => if p x = true then f x else []).length = (l.map fun x => if p x = true then (f x).length else 0).sum := by
  rw [List.length_flatMap]
  congr 1
  apply List.map_congr_left
  intro x _
  split <;> rfl
theorem wordsF_len {R : List RulD} (hne : LeftsP R) (k : Nat) : ∀ (m : Nat) (w : ByteArray), (wordsF R k m w).length = paths R k m w
  | 0, w => rfl
  | m + 1, w => by
    show ((List.range k).flatMap _).length = _
    rw [len_flat, paths_succ]
    unfold pTo
    congr 1
    apply List.map_congr_left
    intro x _
    rw [wordsF_len hne k m (w ++ letterN x), paths_nxt hne]
theorem wordsF_size (R : List RulD) (k : Nat) : ∀ (m : Nat) (w : ByteArray), ∀ u ∈ wordsF R k m w, u.size = w.size + m
  | 0, w, u, hu => by rw [List.mem_singleton.1 hu]; rfl
  | m + 1, w, u, hu => by
    obtain ⟨x, _, h2⟩ := List.mem_flatMap.1 hu
    split at h2
    · have h3 := wordsF_size R k m _ u h2
      rw [ByteArray.size_append, letterN_size] at h3
      omega
    · cases h2
theorem wordsF_pre (R : List RulD) (k : Nat) : ∀ (m : Nat) (w : ByteArray), ∀ u ∈ wordsF R k m w, ∃ t, u.data.toList = w.data.toList ++ t
  | 0, w, u, hu => ⟨[], by rw [List.mem_singleton.1 hu]; simp⟩
  | m + 1, w, u, hu => by
    obtain ⟨x, _, h2⟩ := List.mem_flatMap.1 hu
    split at h2
    · obtain ⟨t, ht⟩ := wordsF_pre R k m _ u h2
      rw [app_lt] at ht
      exact ⟨lt97 x :: t, by rw [ht]; simp⟩
    · cases h2
/-- Go's order of strings -/
def ltB (a b : ByteArray) : Bool := Op.bytesLess a.data.toList b.data.toList
theorem less_app (p s t : Wd) : Op.bytesLess (p ++ s) (p ++ t) = Op.bytesLess s t := by
  induction p with
  | nil => rfl
  | cons a p ih =>
    have h1 : ¬ a < a := UInt8.lt_irrefl a
    simp only [List.cons_append, Op.bytesLess, ih, beq_self_eq_true, Bool.true_and, decide_eq_false h1, Bool.false_or]
theorem less_head {a b : UInt8} (h : a < b) (s t : Wd) : Op.bytesLess (a :: s) (b :: t) = true := by
  simp [Op.bytesLess, h]
theorem less_head_no {a b : UInt8} (h : b < a) (s t : Wd) : Op.bytesLess (a :: s) (b :: t) = false := by
  have h1 : ¬ a < b := fun h2 => UInt8.lt_asymm h h2
  have h2 : (a == b) = false := by
    rw [beq_eq_false_iff_ne]
    intro e
    subst e
    exact UInt8.lt_irrefl _ h
  simp [Op.bytesLess, h1, h2]
/-- two words of one length: their rest does not tell -/
theorem less_pre : ∀ {p q : Wd}, p.length = q.length → ∀ (s t : Wd), (Op.bytesLess p q = true → Op.bytesLess (p ++ s) (q ++ t) = true ∧ Op.bytesLess (q ++ t) (p ++ s) = false)
  | [], [], _, s, t, h => by cases h
  | [], _ :: _, h, _, _, _ => by simp at h
  | _ :: _, [], h, _, _, _ => by simp at h
  | a :: p, b :: q, h, s, t, hl => by
    unfold Op.bytesLess at hl
    simp only [Bool.or_eq_true, decide_eq_true_eq, Bool.and_eq_true, beq_iff_eq] at hl
    rcases hl with hl | ⟨rfl, hl⟩
    · exact ⟨less_head hl _ _, less_head_no hl _ _⟩
    · have ih := less_pre (p := p) (q := q) (by simpa using h) s t hl
      have h1 : ¬ a < a := UInt8.lt_irrefl a
      refine ⟨?_, ?_⟩
      · simp only [List.cons_append, Op.bytesLess, ih.1, beq_self_eq_true, Bool.true_and, Bool.or_true]
      · simp only [List.cons_append, Op.bytesLess, ih.2, Bool.and_false, decide_eq_false h1, Bool.or_false]
theorem lt97_lt {x y : Nat} (h : x < y) (hy : y < 4) : lt97 x < lt97 y := by
  rw [UInt8.lt_iff_toNat_lt]
  unfold lt97
  simp
  omega
/-- the words rise -/
theorem wordsF_rise {R : List RulD} {k : Nat} (hk : k ≤ 4) : ∀ (m : Nat) (w : ByteArray), (wordsF R k m w).Pairwise (fun a b => ltB a b = true)
  | 0, w => List.pairwise_singleton _ _
  | m + 1, w => by
    show ((List.range k).flatMap _).Pairwise _
    rw [List.pairwise_flatMap]
    refine ⟨fun x hx => ?_, ?_⟩
    · split
      · exact wordsF_rise hk m _
      · exact List.Pairwise.nil
    · refine List.pairwise_lt_range.imp_of_mem ?_
      intro x y hx hy hxy a ha b hb
      split at ha
      · split at hb
        · obtain ⟨s, hs⟩ := wordsF_pre R k m _ a ha
          obtain ⟨t, ht⟩ := wordsF_pre R k m _ b hb
          have := List.mem_range.1 hy
          unfold ltB
          rw [hs, ht, app_lt, app_lt, List.append_assoc, List.append_assoc, less_app]
          exact less_head (lt97_lt hxy (by omega)) _ _
        · cases hb
      · cases ha
end Go.Proofs.YtgoeadgpbidgiaaGreatDoor
namespace Go.Proofs.YtgoeadgpbidgiaaGreatDoor
open Go.RowKit
set_option linter.unusedVariables false
/-- the words of less than i letters -/
def outTo (R : List RulD) (k i : Nat) : List ByteArray := (List.range i).flatMap fun m => wordsF R k m ⟨#[]⟩
theorem outTo_succ (R : List RulD) (k i : Nat) : outTo R k (i + 1) = outTo R k i ++ wordsF R k i ⟨#[]⟩ := by
  unfold outTo; rw [List.range_succ, List.flatMap_append]; simp
theorem outTo_len {R : List RulD} (hne : LeftsP R) (k i : Nat) : (outTo R k i).length = pSum R k i := by
  unfold outTo pSum
  rw [List.length_flatMap]
  congr 1
  apply List.map_congr_left
  intro m _
  exact wordsF_len hne k m _
/-- what AllReduced hands back -/
def RetAll (k : Int) (R : List RulD) (w : World) (e : Ending) (w' : World) : Prop :=
  (¬ (∃ c, CntIs k R c ∧ 0 ≤ c ∧ c ≤ 256) ∧ e = .returned (.tuple #[.slice none 0 0, .bool false]) ∧ Below w.heap.size w w') ∨
  ∃ (kn h : Nat), k = (kn : Int) ∧ SysG R kn ∧ HtIs R kn ⟨#[]⟩ (h : Int) ∧ pSum R kn (h + 1) ≤ 256 ∧ (∃ c, CntIs k R c ∧ 0 ≤ c ∧ c ≤ 256) ∧ ∃ a cap, e = .returned (.tuple #[.slice a (outTo R kn (h + 1)).length cap, .bool true]) ∧
    w'.ownsRow w.heap.size 9 1 (.slice a (outTo R kn (h + 1)).length cap) (outTo R kn (h + 1)).length (strVals (outTo R kn (h + 1))) ∧ Below w.heap.size w w'
def lenV : Value → Nat
  | .slice _ n _ => n
  | _ => 0
theorem strVals_app (l m : List ByteArray) : strVals (l ++ m) = strVals l ++ strVals m := by simp [strVals]
theorem strVals_length (l : List ByteArray) : (strVals l).length = l.length := by simp [strVals]
theorem pSum_ge {R : List RulD} {k h : Nat} (hh : HtIs R k ⟨#[]⟩ (h : Int)) : ∀ j, j ≤ h + 1 → j ≤ pSum R k j
  | 0, _ => Nat.zero_le _
  | j + 1, hj => by
    have ih := pSum_ge hh j (by omega)
    have h1 : paths R k j ⟨#[]⟩ ≠ 0 := by
      rcases hh with ⟨h1, _⟩ | ⟨m, h1, h2, _⟩
      · omega
      · exact fun h0 => h2 (paths_zero_le h0 (by omega))
    rw [pSum_succ]; omega
end Go.Proofs.YtgoeadgpbidgiaaGreatDoor
namespace Go.Proofs.YtgoeadgpbidgiaaGreatDoor
open Go.RowKit
set_option linter.unusedVariables false
/-- the letters a .. d alone -/
def LW (v : List UInt8) : Prop := ∀ y ∈ v, 97 ≤ y.toNat ∧ y.toNat ≤ 100
theorem LW.app {u v : List UInt8} (hu : LW u) (hv : LW v) : LW (u ++ v) := fun y hy => by
  rcases List.mem_append.1 hy with h | h
  · exact hu y h
  · exact hv y h
theorem LW.sub {u v : List UInt8} (h : LW v) (hs : u.Sublist v) : LW u := fun y hy => h y (hs.subset hy)
/-- the number of a word: its letters as the digits 1 to 4 in base 5 -/
def rkL : List UInt8 → Nat → Nat
  | [], a => a
  | y :: v, a => rkL v (a * 5 + (y.toNat - 96))
def rk (v : List UInt8) : Nat := rkL v 0
theorem rkL_add : ∀ (v : List UInt8) (a : Nat), rkL v a = a * 5 ^ v.length + rk v
  | [], a => by simp [rkL, rk]
  | y :: v, a => by
    unfold rk
    simp only [rkL]
    rw [rkL_add v, rkL_add v (0 * 5 + _)]
    rw [List.length_cons, Nat.pow_succ, Nat.add_mul, Nat.zero_mul, Nat.zero_add, Nat.mul_comm (5 ^ v.length) 5, ← Nat.mul_assoc]
    omega
theorem rk_app (u v : List UInt8) : rk (u ++ v) = rk u * 5 ^ v.length + rk v := by
  have h : ∀ (u : List UInt8) (a : Nat), rkL (u ++ v) a = rkL v (rkL u a) := fun u => by
    induction u with
    | nil => intro a; rfl
    | cons y u ih => intro a; exact ih _
  unfold rk
  rw [h, rkL_add]
  rfl
theorem rk_cons (y : UInt8) (v : List UInt8) : rk (y :: v) = (y.toNat - 96) * 5 ^ v.length + rk v := by
  have h := rk_app [y] v
  have e : rk [y] = y.toNat - 96 := by simp [rk, rkL]
  rw [e] at h
  exact h
theorem rk_lt : ∀ {v : List UInt8}, LW v → rk v < 5 ^ v.length
  | [], _ => by simp [rk, rkL]
  | y :: v, h => by
    have ih := rk_lt (v := v) (fun z hz => h z (List.mem_cons_of_mem _ hz))
    have h1 := h y List.mem_cons_self
    rw [rk_cons, List.length_cons, Nat.pow_succ]
    have h2 : (y.toNat - 96) * 5 ^ v.length ≤ 4 * 5 ^ v.length := Nat.mul_le_mul_right _ (by omega)
    omega
theorem rk_ge {y : UInt8} {v : List UInt8} (h : LW (y :: v)) : 5 ^ v.length ≤ rk (y :: v) := by
  have h1 := h y List.mem_cons_self
  rw [rk_cons]
  have h2 : 1 * 5 ^ v.length ≤ (y.toNat - 96) * 5 ^ v.length := Nat.mul_le_mul_right _ (by omega)
  omega
theorem rk_lex : ∀ {u v : List UInt8}, LW u → LW v → u.length = v.length → u < v → rk u < rk v
  | [], [], _, _, _, h => absurd h (List.lt_irrefl _)
  | [], _ :: _, _, _, h, _ => by simp at h
  | _ :: _, [], _, _, h, _ => by simp at h
  | a :: u, b :: v, hu, hv, hl, h => by
    have hl2 : u.length = v.length := by simpa using hl
    have hu2 : LW u := fun z hz => hu z (List.mem_cons_of_mem _ hz)
    have hv2 : LW v := fun z hz => hv z (List.mem_cons_of_mem _ hz)
    have ha := hu a List.mem_cons_self
    have hb := hv b List.mem_cons_self
    rw [rk_cons, rk_cons, hl2]
    rcases List.cons_lt_cons_iff.1 h with h1 | ⟨rfl, h1⟩
    · have h2 := UInt8.lt_iff_toNat_lt.1 h1
      have h3 := rk_lt hu2
      rw [hl2] at h3
      have h4 : (a.toNat - 96 + 1) * 5 ^ v.length ≤ (b.toNat - 96) * 5 ^ v.length := Nat.mul_le_mul_right _ (by omega)
      rw [Nat.add_mul] at h4
      omega
    · have := rk_lex hu2 hv2 hl2 h1
      omega
theorem rk_less {u v : List UInt8} (hu : LW u) (hv : LW v) (h : ltW u v = true) : rk u < rk v := by
  unfold ltW at h
  rcases of_decide_eq_true h with h | ⟨h1, h2⟩
  · cases v with
    | nil => simp at h
    | cons y v =>
      have h1 := rk_lt hu
      have h2 := rk_ge hv
      have h3 : 5 ^ u.length ≤ 5 ^ v.length := Nat.pow_le_pow_right (by omega) (by simp at h; omega)
      omega
  · exact rk_lex hu hv h1 h2
theorem rk_swap {u x y v : List UInt8} (hx : LW x) (hy : LW y) (h : ltW y x = true) : rk (u ++ (y ++ v)) < rk (u ++ (x ++ v)) := by
  have hlen : y.length ≤ x.length := by
    unfold ltW at h
    rcases of_decide_eq_true h with h | ⟨h, _⟩ <;> omega
  have h1 := rk_less hy hx h
  rw [rk_app u (y ++ v), rk_app u (x ++ v), rk_app y v, rk_app x v, List.length_append, List.length_append, Nat.pow_add, Nat.pow_add]
  have h2 : 5 ^ y.length ≤ 5 ^ x.length := Nat.pow_le_pow_right (by omega) hlen
  have h3 : rk u * (5 ^ y.length * 5 ^ v.length) ≤ rk u * (5 ^ x.length * 5 ^ v.length) := Nat.mul_le_mul_left _ (Nat.mul_le_mul_right _ h2)
  have h4 : (rk y + 1) * 5 ^ v.length ≤ rk x * 5 ^ v.length := Nat.mul_le_mul_right _ h1
  have h5 : 1 ≤ 5 ^ v.length := Nat.one_le_pow _ _ (by omega)
  rw [Nat.add_mul, Nat.one_mul] at h4
  omega
theorem rk_top {v : List UInt8} (h : LW v) (hl : v.length ≤ 16) : rk v < 152587890625 := by
  have h1 := rk_lt h
  have h2 : 5 ^ v.length ≤ 5 ^ 16 := Nat.pow_le_pow_right (by omega) hl
  have h3 : (5 : Nat) ^ 16 = 152587890625 := by decide
  omega
/-- l lies in w at the place i -/
def preAt (w : ByteArray) (i : Nat) (l : ByteArray) : Bool := l.data.toList.isPrefixOf (w.data.toList.drop i)
theorem preAt_fits {w l : ByteArray} {i : Nat} (h : preAt w i l = true) (hl : 0 < l.size) : i + l.size ≤ w.size := by
  have h1 := (List.isPrefixOf_iff_prefix.1 h).length_le
  have h2 : l.data.toList.length = l.size := rfl
  have h3 : w.data.toList.length = w.size := rfl
  rw [List.length_drop] at h1
  omega
/-- the steps with a rule at a place (the first k rules) -/
def stAt (R : List RulD) (w : ByteArray) (i k : Nat) : List (Nat × Nat) := ((List.range k).filter fun r => preAt w i (nthR R r).1).map fun r => (r, i)
/-- the steps at the places before i, and with the rules before k at i -/
def stTo (R : List RulD) (w : ByteArray) (i k : Nat) : List (Nat × Nat) := ((List.range i).flatMap fun j => stAt R w j R.length) ++ stAt R w i k
/-- all steps, by place and then by rule -/
def stepsF (R : List RulD) (w : ByteArray) : List (Nat × Nat) := (List.range w.size).flatMap fun j => stAt R w j R.length
theorem stAt_zero (R : List RulD) (w : ByteArray) (i : Nat) : stAt R w i 0 = [] := rfl
theorem stTo_yes {R : List RulD} {w : ByteArray} {i k : Nat} (h : preAt w i (nthR R k).1 = true) : stTo R w i (k + 1) = stTo R w i k ++ [(k, i)] := by
  unfold stTo stAt
  rw [List.range_succ, List.filter_append, List.map_append, List.append_assoc]
  simp [h]
theorem stTo_no {R : List RulD} {w : ByteArray} {i k : Nat} (h : preAt w i (nthR R k).1 = false) : stTo R w i (k + 1) = stTo R w i k := by
  unfold stTo stAt
  rw [List.range_succ, List.filter_append, List.map_append]
  simp [h]
theorem stTo_next (R : List RulD) (w : ByteArray) (i : Nat) : stTo R w i R.length = stTo R w (i + 1) 0 := by
  unfold stTo
  rw [stAt_zero, List.append_nil, List.range_succ, List.flatMap_append]
  simp
theorem stTo_done (R : List RulD) (w : ByteArray) : stTo R w w.size 0 = stepsF R w := by
  unfold stTo stepsF
  rw [stAt_zero, List.append_nil]
theorem stAt_pre (R : List RulD) (w : ByteArray) (i : Nat) {j k : Nat} (h : j ≤ k) : stAt R w i j <+: stAt R w i k := by
  unfold stAt
  refine List.IsPrefix.map _ (List.IsPrefix.filter _ ?_)
  obtain ⟨d, rfl⟩ := Nat.exists_eq_add_of_le h
  rw [List.range_add]
  exact List.prefix_append _ _
theorem stTo_rows (R : List RulD) (w : ByteArray) {i j : Nat} (h : i ≤ j) : stTo R w i 0 <+: stTo R w j 0 := by
  unfold stTo
  rw [stAt_zero, stAt_zero, List.append_nil, List.append_nil]
  obtain ⟨d, rfl⟩ := Nat.exists_eq_add_of_le h
  rw [List.range_add, List.flatMap_append]
  exact List.prefix_append _ _
theorem stTo_pre {R : List RulD} {w : ByteArray} {i k : Nat} (hi : i < w.size) (hk : k ≤ R.length) : stTo R w i k <+: stepsF R w := by
  rw [← stTo_done]
  refine List.IsPrefix.trans ?_ (stTo_rows R w (show i + 1 ≤ w.size from hi))
  rw [← stTo_next]
  unfold stTo
  exact List.prefix_append_right_inj _ |>.2 (stAt_pre R w i hk)
/-- the first step of all -/
theorem first_at {R : List RulD} {w : ByteArray} {i k : Nat} (hi : i < w.size) (hk : k < R.length) (h0 : stTo R w i k = []) (h : preAt w i (nthR R k).1 = true) : (stepsF R w).head? = some (k, i) := by
  have h1 := stTo_pre (R := R) (w := w) hi (show k + 1 ≤ R.length from hk)
  rw [stTo_yes h, h0] at h1
  obtain ⟨t, ht⟩ := h1
  rw [← ht]
  rfl
theorem mem_stepsF {R : List RulD} {w : ByteArray} {s : Nat × Nat} : s ∈ stepsF R w ↔ s.2 < w.size ∧ s.1 < R.length ∧ preAt w s.2 (nthR R s.1).1 = true := by
  unfold stepsF stAt
  simp only [List.mem_flatMap, List.mem_range, List.mem_map, List.mem_filter]
  constructor
  · rintro ⟨i, hi, r, ⟨hr, hp⟩, rfl⟩
    exact ⟨hi, hr, hp⟩
  · rintro ⟨h1, h2, h3⟩
    exact ⟨s.2, h1, s.1, ⟨h2, h3⟩, rfl⟩
theorem stepsF_len (R : List RulD) (w : ByteArray) : (stepsF R w).length ≤ w.size * R.length := by
  unfold stepsF
  rw [List.length_flatMap]
  have key : ∀ n, ((List.range n).map fun j => (stAt R w j R.length).length).sum ≤ n * R.length := fun n => by
    induction n with
    | zero => simp
    | succ n ih =>
      rw [List.range_succ, List.map_append, List.sum_append]
      have h1 : (stAt R w n R.length).length ≤ R.length := by
        unfold stAt
        rw [List.length_map]
        have := List.length_filter_le (fun r => preAt w n (nthR R r).1) (List.range R.length)
        simpa using this
      simp only [List.map_cons, List.map_nil, List.sum_cons, List.sum_nil, Nat.add_zero]
      rw [Nat.succ_mul]
      omega
  exact key w.size
/-- a part of a word replaced -/
def replF (w : ByteArray) (i l : Nat) (by_ : ByteArray) : ByteArray := w.extract 0 i ++ by_ ++ w.extract (i + l) w.size
theorem replF_size {w by_ : ByteArray} {i l : Nat} (h : i + l ≤ w.size) : (replF w i l by_).size = w.size - l + by_.size := by
  unfold replF
  simp only [ByteArray.size_append, ByteArray.size_extract]
  omega
theorem extract_lt (v : ByteArray) (i j : Nat) : (v.extract i j).data.toList = (v.data.toList.take j).drop i := by
  rw [ByteArray.data_extract, Array.toList_extract, List.extract_eq_take_drop, List.drop_take]
theorem replF_list (w : ByteArray) (i l : Nat) (by_ : ByteArray) : (replF w i l by_).data.toList = w.data.toList.take i ++ (by_.data.toList ++ w.data.toList.drop (i + l)) := by
  unfold replF
  rw [ByteArray.data_append, ByteArray.data_append, Array.toList_append, Array.toList_append, extract_lt, extract_lt, List.drop_zero, List.append_assoc]
  have h : w.data.toList.length = w.size := rfl
  rw [List.take_of_length_le (Nat.le_of_eq h)]
/-- the word behind a step -/
def applyF (R : List RulD) (w : ByteArray) (s : Nat × Nat) : ByteArray := replF w s.2 (nthR R s.1).1.size (nthR R s.1).2
theorem split_at {w l : ByteArray} {i : Nat} (h : preAt w i l = true) : w.data.toList = w.data.toList.take i ++ (l.data.toList ++ w.data.toList.drop (i + l.size)) := by
  obtain ⟨t, ht⟩ := List.isPrefixOf_iff_prefix.1 h
  have h2 : l.data.toList.length = l.size := rfl
  have h3 : w.data.toList.drop (i + l.size) = t := by
    rw [← List.drop_drop, ← ht, ← h2, List.drop_left]
  rw [h3, ht, List.take_append_drop]
/-- what a word is that a system takes -/
structure WdP (w : ByteArray) : Prop where
  len : w.size ≤ 16
  let4 : LW w.data.toList
theorem wdP_of {k : Int} {w : ByteArray} (h : wordOkB k w = true) : WdP w := by
  unfold wordOkB allB at h
  simp only [Bool.and_eq_true, List.all_eq_true, decide_eq_true_eq] at h
  refine ⟨h.2.1, fun y hy => ?_⟩
  have h1 := inB_bounds h.1
  have h2 := letB_true (h.2.2 y hy)
  omega
theorem lw_of {k : Int} {w : ByteArray} (h : wordOkB k w = true) : LW w.data.toList := (wdP_of h).let4
/-- a step of an ordered system makes a word less -/
theorem step_less {k : Int} {R : List RulD} (hs : sysP k R) {w : ByteArray} {s : Nat × Nat} (hm : s ∈ stepsF R w) : rk (applyF R w s).data.toList < rk w.data.toList := by
  obtain ⟨h1, h2, h3⟩ := mem_stepsF.1 hm
  have hr := nthR_mem h2
  have hp := hs.1.2 _ hr
  have hl := hs.2 _ hr
  unfold applyF
  rw [replF_list]
  conv => rhs; rw [split_at h3]
  exact rk_swap (lw_of hp.1.1.1) (lw_of hp.1.1.2) hl
theorem step_size {k : Int} {R : List RulD} (hs : sysP k R) {w : ByteArray} {s : Nat × Nat} (hm : s ∈ stepsF R w) : (applyF R w s).size ≤ w.size ∧ s.2 + (nthR R s.1).1.size ≤ w.size := by
  obtain ⟨h1, h2, h3⟩ := mem_stepsF.1 hm
  have hr := nthR_mem h2
  have hp := hs.1.2 _ hr
  have hl := hs.2 _ hr
  have hf := preAt_fits h3 (by have := hp.2; omega)
  have hle : (nthR R s.1).2.size ≤ (nthR R s.1).1.size := by
    unfold lessS ltW at hl
    have e1 : (blW (nthR R s.1).1).length = (nthR R s.1).1.size := rfl
    have e2 : (blW (nthR R s.1).2).length = (nthR R s.1).2.size := rfl
    rcases of_decide_eq_true hl with h | ⟨h, _⟩ <;> omega
  refine ⟨?_, hf⟩
  unfold applyF
  rw [replF_size hf]
  omega
/-- letters of the first k -/
def okLt (k : Int) (v : List UInt8) : Prop := ∀ y ∈ v, letB k y = true
theorem wordOk_iff {k : Int} {w : ByteArray} : wordOkB k w = true ↔ (1 ≤ k ∧ k ≤ 4) ∧ w.size ≤ 16 ∧ okLt k w.data.toList := by
  unfold wordOkB allB okLt
  rw [Bool.and_eq_true, Bool.and_eq_true, List.all_eq_true, decide_eq_true_eq]
  have h : inB k 1 4 = true ↔ 1 ≤ k ∧ k ≤ 4 := by simp [inB]
  rw [h]
theorem step_word {k : Int} {R : List RulD} (hs : sysP k R) {w : ByteArray} (hw : wordOkB k w = true) {s : Nat × Nat} (hm : s ∈ stepsF R w) : wordOkB k (applyF R w s) = true := by
  obtain ⟨h1, h2, h3⟩ := mem_stepsF.1 hm
  have hp := hs.1.2 _ (nthR_mem h2)
  obtain ⟨a1, a2, a3⟩ := wordOk_iff.1 hw
  obtain ⟨b1, b2, b3⟩ := wordOk_iff.1 hp.1.1.2
  refine wordOk_iff.2 ⟨a1, Nat.le_trans (step_size hs hm).1 a2, fun y hy => ?_⟩
  unfold applyF at hy
  rw [replF_list] at hy
  rcases List.mem_append.1 hy with hy | hy
  · exact a3 y ((List.take_sublist _ _).subset hy)
  rcases List.mem_append.1 hy with hy | hy
  · exact b3 y hy
  · exact a3 y ((List.drop_sublist _ _).subset hy)
/-- x is what the first steps lead to from w -/
inductive NormIs (R : List RulD) : ByteArray → ByteArray → Prop
  | done {w : ByteArray} : (stepsF R w).head? = none → NormIs R w w
  | step {w x : ByteArray} {s : Nat × Nat} : (stepsF R w).head? = some s → NormIs R (applyF R w s) x → NormIs R w x
theorem NormIs.uniq {R : List RulD} {w x y : ByteArray} (a : NormIs R w x) (b : NormIs R w y) : x = y := by
  induction a with
  | done h =>
    cases b with
    | done => rfl
    | step h' _ => rw [h] at h'; cases h'
  | step h _ ih =>
    cases b with
    | done h' => rw [h] at h'; cases h'
    | step h' b' =>
      rw [h] at h'
      cases h'
      exact ih b'
theorem head_mem {l : List (Nat × Nat)} {s : Nat × Nat} (h : l.head? = some s) : s ∈ l := by
  cases l with
  | nil => cases h
  | cons a l => cases h; exact List.mem_cons_self
theorem NormIs.ex {k : Int} {R : List RulD} (hs : sysP k R) : ∀ (n : Nat) (w : ByteArray), rk w.data.toList < n → wordOkB k w = true → ∃ x, NormIs R w x ∧ wordOkB k x = true
  | 0, w, h, _ => by omega
  | n + 1, w, h, hw => by
    cases hh : (stepsF R w).head? with
    | none => exact ⟨w, .done hh, hw⟩
    | some s =>
      have hm := head_mem hh
      have h1 := step_less hs hm
      obtain ⟨x, hx, hx2⟩ := NormIs.ex hs n (applyF R w s) (by omega) (step_word hs hw hm)
      exact ⟨x, .step hh hx, hx2⟩
theorem NormIs.word {k : Int} {R : List RulD} (hs : sysP k R) {w x : ByteArray} (h : NormIs R w x) (hw : wordOkB k w = true) : wordOkB k x = true := by
  obtain ⟨y, h1, h2⟩ := NormIs.ex hs _ w (Nat.lt_succ_self _) hw
  rw [h.uniq h1]; exact h2
end Go.Proofs.YtgoeadgpbidgiaaGreatDoor
