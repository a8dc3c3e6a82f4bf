/-
  Append of one element to a row of its own that is known by its base, at a plain region's list.
-/
import Derived.Test.YtgoeadgpbidgiaaGreatDoorMnp26
import Derived.Test.YtgoeadgpbidgiaaGreatDoorMnp17
import Derived.Test.YtgoeadgpbidgiaaGreatDoorMnp16
import Derived.Test.YtgoeadgpbidgiaaGreatDoorMnp04
import Derived.Test.YtgoeadgpbidgiaaGreatDoorMnp22
import Derived.Test.YtgoeadgpbidgiaaGreatDoorMnp11
import Derived.Test.YtgoeadgpbidgiaaGreatDoorMnp24
import Derived.Test.YtgoeadgpbidgiaaGreatDoorMnp18
namespace Go.Proofs.YtgoeadgpbidgiaaGreatDoor
open Go.RowKit
set_option linter.unusedVariables false
/-- valid images of a valid table -/
structure ImgsOk (m : Nat) (ln zn : List Nat) : Prop where
  tab : TabOk m ln
  rng : ∀ x ∈ zn, x < m
  one : 1 ≤ zn.length
  few : zn.length ≤ 4
theorem ImgsOk.img {m : Nat} {ln zn : List Nat} (h : ImgsOk m ln zn) : imgB (m : Nat) (ln.map Int.ofNat) (zn.map Int.ofNat) = true := by
  have ht : tabB ((m : Nat) : Int) (ln.map Int.ofNat) = true := TabG.tab ⟨ln, rfl, h.tab⟩
  have h1 := h.one
  have h4 := h.few
  have hi : inB (((zn.map Int.ofNat).length : Nat) : Int) 1 4 = true := by rw [List.length_map]; simp [inB]; omega
  rw [imgB_yes ht hi]
  unfold rngB
  rw [List.all_eq_true]
  intro x hx
  obtain ⟨y, hy, rfl⟩ := List.mem_map.1 hx
  have := h.rng y hy
  simp [inB]; omega
def reachL (m : Nat) (S : List ByteArray) : List Int := ((List.range m).filter fun i => !isHy (nthS S i)).map Int.ofNat
def RetRb (m : Nat) (ln zn : List Nat) (w : World) (e : Ending) (w' : World) : Prop := ∃ S, ShortP m ln zn S ∧ RetSl 3 1 (reachL m S).length (intVals (reachL m S)) w e w'
set_option maxHeartbeats 800000 in
theorem reach_pred (m : Nat) (S : List ByteArray) (a : Option Addr) (cap bw : Nat) (w : World) (hb : w.cell? ⟨bw, 0, none⟩ = some (.slice a m cap)) (hS : StrsIn w a S) (hl : S.length = m) (hm : m ≤ 40) :
    PredEl w.heap.size 67 #[.pointer (some ⟨bw, 0, none⟩)] (fun i => !isHy (nthS S i)) m w := by
  intro i hi W hW
  have k0 : W.cell? ⟨bw, 0, none⟩ = some (.slice a m cap) := by rw [hW.cell (World.block_lt_of_cell? w _ hb)]; exact hb
  obtain ⟨b, off, rfl, _, hc⟩ := (hS.later hW).cell (i := i) (by omega)
  have k1 := hc i (by omega)
  have hi2 : (i : Int) < (m : Int) := by omega
  obtain ⟨s, hs⟩ : ∃ s, nthS S i = s := ⟨_, rfl⟩
  have HQ : Hid ((!isHy (nthS S i)) = !(s.toList == [45])) := Lib.hid (by rw [hs]; rfl)
  rw [hs] at k1
  clear hb hS hW hc hs
  go_enter Tryz.func67, Tryz.ntmps67
  go_wp2_with fail
  go_ret
  exact ⟨congrArg (fun b => Ending.returned (Value.bool b)) HQ.out.symm, Below.refl _ _⟩
set_option maxRecDepth 20000 in
set_option maxHeartbeats 2000000 in
theorem implReachedBy_any (m : Nat) (ln zn : List Nat) (l z : List Int) (a : Option Addr) (cap : Nat) (az : Option Addr) (cz : Nat) (w : World) (hle : l = ln.map Int.ofNat) (hze : z = zn.map Int.ofNat) (h : ImgsOk m ln zn) (hl : IntsIn w a l) (hz : IntsIn w az z) :
    Calls Tryz.prog 26 #[.agg #[.int .i64 (m : Nat), .slice a l.length cap], .slice az z.length cz] w (RetRb m ln zn w) := by
  have hm1 := h.tab.lo
  have hm2 := h.tab.hi
  have hzl : z.length = zn.length := by rw [hze, List.length_map]
  have hll : l.length = m * m := by rw [hle, List.length_map]; exact h.tab.len
  have hsq := sq_le hm2
  have hz4 := h.few
  have HIM : Hid (∀ W, IntsIn W a l → IntsIn W az z → Calls Tryz.prog 64 #[.agg #[.int .i64 (m : Nat), .slice a l.length cap], .slice az z.length cz] W fun e w' => e = .returned (.bool true) ∧ Below W.heap.size W w') := Lib.hid (fun W h1 h2 => by
    have := implImagesOk_any (m : Nat) l a cap z az cz W h1 (by omega) h2 (by omega)
    rw [show imgB (m : Nat) l z = true by rw [hle, hze]; exact h.img] at this
    exact this)
  have HSH : Hid (∀ W, IntsIn W a l → IntsIn W az z → Calls Tryz.prog 65 #[.agg #[.int .i64 (m : Nat), .slice a l.length cap], .slice az z.length cz] W (RetSh m ln zn W)) := Lib.hid (fun W h1 h2 => by
    have := shortest_any m ln zn a l.length cap az cz W (by unfold NatsIn; rw [← hle]; exact h1) h.tab.toTb hll (by unfold NatsIn; rw [← hze]; exact h2) h.rng h.few
    rw [← hzl] at this
    exact this)
  have HTH : Hid (∀ W gb S a2 c2, IntsIn W a l → W.cell? ⟨gb, 0, none⟩ = some (.slice a2 m c2) → StrsIn W a2 S → S.length = m → Calls Tryz.prog 66 #[.agg #[.int .i64 (m : Nat), .slice a l.length cap], .func (.func 67) #[] #[.pointer (some ⟨gb, 0, none⟩)]] W (RetSl 3 1 (reachL m S).length (intVals (reachL m S)) W)) := Lib.hid (fun W gb S a2 c2 h1 h2 h3 h4 => by
    have ht : tabB ((m : Nat) : Int) l = true := by rw [hle]; exact TabG.tab ⟨ln, rfl, h.tab⟩
    have := those_any (m : Nat) l a cap W h1 (by omega) _ _ #[.pointer (some ⟨gb, 0, none⟩)] (fun i => !isHy (nthS S i)) (Nat.le_refl _) (fun _ => by rw [Int.toNat_natCast]; exact reach_pred m S a2 c2 gb W h2 h3 h4 hm2) (enters_of Tryz.func67 (by kernel_rfl) rfl)
    rw [show thoseL (m : Nat) l (fun i => !isHy (nthS S i)) = reachL m S by unfold thoseL reachL; rw [if_pos ht, Int.toNat_natCast]] at this
    exact this)
  have HB := Lib.hid (alloc_belowS w (.cells #[.int .i64 (m : Nat), .slice a l.length cap] 47))
  have HX : Hid (∀ W, Below (w.alloc (.cells #[.int .i64 (m : Nat), .slice a l.length cap] 47)).heap.size (w.alloc (.cells #[.int .i64 (m : Nat), .slice a l.length cap] 47)) W → W.cell? ⟨w.heap.size, 0, none⟩ = some (.int .i64 (m : Nat)) ∧ W.cell? ⟨w.heap.size, 1, none⟩ = some (.slice a l.length cap)) := Lib.hid (fun W hW => ⟨by rw [hW.cell (by simp)]; simp, by rw [hW.cell (by simp)]; simp⟩)
  have HN := Lib.hid (hl.later HB.out)
  have HZ := Lib.hid (hz.later HB.out)
  clear hl hz hle hze h hzl hll hsq
  go_enter Tryz.func26, Tryz.ntmps26
  go_upto_region 1 with fail
  generalize w.alloc (.cells #[.int .i64 (m : Nat), .slice a l.length cap] 47) = w1 at *
  obtain ⟨z0, z1⟩ := HX.out w1 (Below.refl _ _)
  go_wp2_with fail
  refine (HIM.out _ HN.out HZ.out).mono ?_
  rintro e w2 ⟨rfl, hb2⟩
  have HB2 := Lib.hid hb2
  clear z0 z1 hb2
  obtain ⟨z0, z1⟩ := HX.out _ HB2.out
  go_wp2_with fail
  refine (HSH.out _ (HN.out.later HB2.out) (HZ.out.later HB2.out)).mono ?_
  rintro e w3 ⟨S, hsh, a2, c2, rfl, ho, hb3⟩
  have HSP := Lib.hid hsh
  have HB3 := Lib.hid (Below.now HB2.out hb3)
  have HSI := Lib.hid (owns_strs ho)
  clear z0 z1 hb3 hsh ho
  go_upto_region 4 with fail
  have HB4 := Lib.hid (alloc_belowS w3 (.cells #[.slice a2 m c2] 48))
  obtain ⟨z0, z1⟩ := HX.out _ (Below.now HB3.out HB4.out)
  have HC4 : Hid ((w3.alloc (.cells #[.slice a2 m c2] 48)).cell? ⟨w3.heap.size, 0, none⟩ = some (.slice a2 m c2)) := Lib.hid (by simp)
  generalize w3.alloc (.cells #[.slice a2 m c2] 48) = w4 at *
  go_wp2_with fail
  refine (HTH.out _ _ S a2 c2 (HN.out.later (Below.now HB3.out HB4.out)) HC4.out (HSI.out.later HB4.out) HSP.out.len).mono ?_
  rintro e w5 ⟨a5, c5, rfl, ho5, hb5⟩
  have F : Hid (RetRb m ln zn w (.returned (.slice a5 (reachL m S).length c5)) w5) := Lib.hid ⟨S, HSP.out, a5, c5, rfl, owns_mono ho5 (by have := HB.out.size; have := HB3.out.size; have := HB4.out.size; omega), Below.now HB.out (Below.now (Below.now HB3.out HB4.out) hb5)⟩
  clear ho5 hb5 z0 z1
  generalize (reachL m S).length = rn at *
  go_wp2_with fail
  go_ret
  exact F.out
/-- the word of an element -/
def RetSw (m : Nat) (ln zn : List Nat) (i : Nat) (w : World) (e : Ending) (w' : World) : Prop := ∃ S, ShortP m ln zn S ∧ Below w.heap.size w w' ∧
  ((isHy (nthS S i) = false ∧ (nthS S i).size ≤ 16 ∧ e = .returned (.tuple #[.string (nthS S i), .bool true])) ∨ (¬ (isHy (nthS S i) = false ∧ (nthS S i).size ≤ 16) ∧ e = .returned (.tuple #[.string ⟨#[]⟩, .bool false])))
set_option maxRecDepth 20000 in
set_option maxHeartbeats 2000000 in
theorem implShortestWord_any (m : Nat) (ln zn : List Nat) (l z : List Int) (a : Option Addr) (cap : Nat) (az : Option Addr) (cz i : Nat) (w : World) (hle : l = ln.map Int.ofNat) (hze : z = zn.map Int.ofNat) (h : ImgsOk m ln zn) (hl : IntsIn w a l) (hz : IntsIn w az z) (hi : i < m) :
    Calls Tryz.prog 28 #[.agg #[.int .i64 (m : Nat), .slice a l.length cap], .slice az z.length cz, .int .i64 (i : Nat)] w (RetSw m ln zn i w) := by
  have hm1 := h.tab.lo
  have hm2 := h.tab.hi
  have hzl : z.length = zn.length := by rw [hze, List.length_map]
  have hll : l.length = m * m := by rw [hle, List.length_map]; exact h.tab.len
  have hsq := sq_le hm2
  have hz4 := h.few
  have HIM : Hid (∀ W, IntsIn W a l → IntsIn W az z → Calls Tryz.prog 64 #[.agg #[.int .i64 (m : Nat), .slice a l.length cap], .slice az z.length cz] W fun e w' => e = .returned (.bool true) ∧ Below W.heap.size W w') := Lib.hid (fun W h1 h2 => by
    have := implImagesOk_any (m : Nat) l a cap z az cz W h1 (by omega) h2 (by omega)
    rw [show imgB (m : Nat) l z = true by rw [hle, hze]; exact h.img] at this
    exact this)
  have HSH : Hid (∀ W, IntsIn W a l → IntsIn W az z → Calls Tryz.prog 65 #[.agg #[.int .i64 (m : Nat), .slice a l.length cap], .slice az z.length cz] W (RetSh m ln zn W)) := Lib.hid (fun W h1 h2 => by
    have := shortest_any m ln zn a l.length cap az cz W (by unfold NatsIn; rw [← hle]; exact h1) h.tab.toTb hll (by unfold NatsIn; rw [← hze]; exact h2) h.rng h.few
    rw [← hzl] at this
    exact this)
  have HHA := Lib.hid (fun W v => has_any m (i : Nat) v W hm1 hm2)
  have hib : inB (i : Nat) 0 ((m : Int) - 1) = true := by simp [inB]; omega
  have HB := Lib.hid (alloc_belowS w (.cells #[.int .i64 (m : Nat), .slice a l.length cap] 47))
  have HX : Hid (∀ W, Below (w.alloc (.cells #[.int .i64 (m : Nat), .slice a l.length cap] 47)).heap.size (w.alloc (.cells #[.int .i64 (m : Nat), .slice a l.length cap] 47)) W → W.cell? ⟨w.heap.size, 0, none⟩ = some (.int .i64 (m : Nat)) ∧ W.cell? ⟨w.heap.size, 1, none⟩ = some (.slice a l.length cap)) := Lib.hid (fun W hW => ⟨by rw [hW.cell (by simp)]; simp, by rw [hW.cell (by simp)]; simp⟩)
  have HN := Lib.hid (hl.later HB.out)
  have HZ := Lib.hid (hz.later HB.out)
  clear hl hz hle hze h hzl hll hsq
  go_enter Tryz.func28, Tryz.ntmps28
  go_upto_region 1 with fail
  generalize w.alloc (.cells #[.int .i64 (m : Nat), .slice a l.length cap] 47) = w1 at *
  obtain ⟨z0, z1⟩ := HX.out w1 (Below.refl _ _)
  go_wp2_with fail
  refine (HIM.out _ HN.out HZ.out).mono ?_
  rintro e w2 ⟨rfl, hb2⟩
  have HB2 := Lib.hid hb2
  clear z0 z1 hb2
  obtain ⟨z0, z1⟩ := HX.out _ HB2.out
  go_wp2_with fail
  refine (HHA.out _ _).mono ?_
  rintro e w3 ⟨rfl, hb3⟩
  rw [hib]
  have HB3 := Lib.hid (Below.now HB2.out hb3)
  clear z0 z1 hb3 HB2
  obtain ⟨z0, z1⟩ := HX.out _ HB3.out
  go_wp2_with fail
  refine (HSH.out _ (HN.out.later HB3.out) (HZ.out.later HB3.out)).mono ?_
  rintro e w4 ⟨S, hsh, a2, c2, rfl, ho, hb4⟩
  have HSP := Lib.hid hsh
  have HB4 := Lib.hid (Below.now HB.out (Below.now HB3.out hb4))
  obtain ⟨b, off, rfl, _, hc⟩ := (owns_strs ho).cell (i := i) (by rw [hsh.len]; exact hi)
  have k1 := hc i (by rw [hsh.len]; exact hi)
  have hi2 : (i : Int) < (m : Int) := by omega
  have F : Hid (∀ e, ((isHy (nthS S i) = false ∧ (nthS S i).size ≤ 16 ∧ e = .returned (.tuple #[.string (nthS S i), .bool true])) ∨ (¬ (isHy (nthS S i) = false ∧ (nthS S i).size ≤ 16) ∧ e = .returned (.tuple #[.string ⟨#[]⟩, .bool false]))) → RetSw m ln zn i w e w4) := Lib.hid (fun e he => ⟨S, HSP.out, HB4.out, he⟩)
  have HQ : Hid (isHy (nthS S i) = ((nthS S i).toList == [45])) := Lib.hid rfl
  clear z0 z1 hb4 hsh ho hc
  generalize nthS S i = s at *
  cases hq : (s.toList == [45])
  · by_cases h16 : s.size ≤ 16
    · have h16b : ¬ (16 : Int) < (s.size : Int) := by omega
      have F2 := Lib.hid (F.out _ (.inl ⟨by rw [HQ.out]; exact hq, h16, rfl⟩))
      go_wp2_with fail
      refine bodyPost_ret (v := .tuple #[.string s, .bool true]) ?_ rfl F2.out
      simp [results, Tryz.results28, go_sem]
    · have h16b : (16 : Int) < (s.size : Int) := by omega
      have F2 := Lib.hid (F.out _ (.inr ⟨fun hh => h16 hh.2, rfl⟩))
      go_wp2_with fail
      refine bodyPost_ret (v := .tuple #[.string ⟨#[]⟩, .bool false]) ?_ rfl F2.out
      simp [results, Tryz.results28, go_sem]
  · have F2 := Lib.hid (F.out _ (.inr ⟨fun hh => (by have h1 := hh.1; rw [HQ.out, hq] at h1; exact Bool.noConfusion h1), rfl⟩))
    go_wp2_with fail
    refine bodyPost_ret (v := .tuple #[.string ⟨#[]⟩, .bool false]) ?_ rfl F2.out
    simp [results, Tryz.results28, go_sem]
set_option maxRecDepth 20000 in
set_option maxHeartbeats 2000000 in
theorem implValueOf_any (m : Nat) (ln zn : List Nat) (l z : List Int) (a : Option Addr) (cap : Nat) (az : Option Addr) (cz : Nat) (v : ByteArray) (w : World) (hle : l = ln.map Int.ofNat) (hze : z = zn.map Int.ofNat) (h : ImgsOk m ln zn) (hl : IntsIn w a l) (hz : IntsIn w az z) (hw : wordOkB (zn.length : Nat) v = true) :
    Calls Tryz.prog 29 #[.agg #[.int .i64 (m : Nat), .slice a l.length cap], .slice az z.length cz, .string v] w fun e w' => e = .returned (.tuple #[.int .i64 (valF m ln zn v : Nat), .bool true]) ∧ Below w.heap.size w w' := by
  have hm1 := h.tab.lo
  have hm2 := h.tab.hi
  have hzl : z.length = zn.length := by rw [hze, List.length_map]
  have hll : l.length = m * m := by rw [hle, List.length_map]; exact h.tab.len
  have hsq := sq_le hm2
  have hz4 := h.few
  have hv16 := (wordOk_iff.1 hw).2.1
  have HIM : Hid (∀ W, IntsIn W a l → IntsIn W az z → Calls Tryz.prog 64 #[.agg #[.int .i64 (m : Nat), .slice a l.length cap], .slice az z.length cz] W fun e w' => e = .returned (.bool true) ∧ Below W.heap.size W w') := Lib.hid (fun W h1 h2 => by
    have := implImagesOk_any (m : Nat) l a cap z az cz W h1 (by omega) h2 (by omega)
    rw [show imgB (m : Nat) l z = true by rw [hle, hze]; exact h.img] at this
    exact this)
  have HVA : Hid (∀ W, IntsIn W a l → IntsIn W az z → Calls Tryz.prog 69 #[.agg #[.int .i64 (m : Nat), .slice a l.length cap], .slice az z.length cz, .string v] W fun e w' => e = .returned (.int .i64 (valF m ln zn v : Nat)) ∧ Below W.heap.size W w') := Lib.hid (fun W h1 h2 => by
    have := implValue_any m ln zn a l.length cap az cz v W (by unfold NatsIn; rw [← hle]; exact h1) h.tab.toTb hll (by unfold NatsIn; rw [← hze]; exact h2) h.rng (letIn_of hw rfl) (by omega)
    rw [← hzl] at this
    exact this)
  have HWO : Hid (∀ W, Calls Tryz.prog 71 #[.int .i64 (z.length : Nat), .string v] W fun e w' => e = .returned (.bool true) ∧ W = w') := Lib.hid (fun W => by
    have := implWordOk_any (z.length : Nat) v W (by unfold maxLen; omega)
    rw [hzl, hw] at this
    rw [hzl]
    exact this)
  have HB := Lib.hid (alloc_belowS w (.cells #[.int .i64 (m : Nat), .slice a l.length cap] 47))
  have HX : Hid (∀ W, Below (w.alloc (.cells #[.int .i64 (m : Nat), .slice a l.length cap] 47)).heap.size (w.alloc (.cells #[.int .i64 (m : Nat), .slice a l.length cap] 47)) W → W.cell? ⟨w.heap.size, 0, none⟩ = some (.int .i64 (m : Nat)) ∧ W.cell? ⟨w.heap.size, 1, none⟩ = some (.slice a l.length cap)) := Lib.hid (fun W hW => ⟨by rw [hW.cell (by simp)]; simp, by rw [hW.cell (by simp)]; simp⟩)
  have HN := Lib.hid (hl.later HB.out)
  have HZ := Lib.hid (hz.later HB.out)
  clear hl hz hle hze h hzl hll hsq hw hv16
  go_enter Tryz.func29, Tryz.ntmps29
  go_upto_region 1 with fail
  generalize w.alloc (.cells #[.int .i64 (m : Nat), .slice a l.length cap] 47) = w1 at *
  obtain ⟨z0, z1⟩ := HX.out w1 (Below.refl _ _)
  go_wp2_with fail
  refine (HIM.out _ HN.out HZ.out).mono ?_
  rintro e w2 ⟨rfl, hb2⟩
  have HB2 := Lib.hid hb2
  clear z0 z1 hb2
  obtain ⟨z0, z1⟩ := HX.out _ HB2.out
  go_wp2_with fail
  refine (HWO.out _).mono ?_
  rintro e w3 ⟨rfl, rfl⟩
  go_wp2_with fail
  refine (HVA.out _ (HN.out.later HB2.out) (HZ.out.later HB2.out)).mono ?_
  rintro e w4 ⟨rfl, hb4⟩
  have HB4 := Lib.hid (Below.now HB.out (Below.now HB2.out hb4))
  clear z0 z1 hb4
  go_wp2_with fail
  refine bodyPost_ret (v := .tuple #[.int .i64 (valF m ln zn v : Nat), .bool true]) ?_ rfl ⟨rfl, HB4.out⟩
  simp [results, Tryz.results29, go_sem]
end Go.Proofs.YtgoeadgpbidgiaaGreatDoor
namespace Go.Proofs.YtgoeadgpbidgiaaGreatDoor
open Go.RowKit
set_option linter.unusedVariables false
theorem RetCn.at {k : Int} {R : List RulD} {h c : Int} (hl : LngIs k R h) (h0 : 0 ≤ h) (hc : CntIs k R c) : 0 ≤ c := by
  obtain ⟨h2, a1, a2⟩ := hc
  obtain rfl := hl.uniq a1
  rcases a2 with ⟨a3, _⟩ | ⟨_, rfl⟩
  · omega
  · exact Int.natCast_nonneg _
theorem mon_no {k : Int} {R : List RulD} {L : List ByteArray} {P : List Int} {h c : Int} (hc : ComplP k R) (hm : MonIs k R L P false) (hl : LngIs k R h) (h0 : 0 ≤ h) (h8 : h ≤ 8) (hcn : CntIs k R c) : 40 < c := by
  have hng : ¬ GoM k R := by
    rcases hm with ⟨a, _⟩ | ⟨_, _, _, a⟩
    · exact a
    · cases a
  refine Classical.byContradiction fun hn => hng ⟨hc, ⟨c, hcn, CntIs.one hcn (RetCn.at hl h0 hcn), by omega⟩, ⟨h, hl, h8⟩⟩
theorem word_nums {kn : Nat} {u : ByteArray} (hu : okLt (kn : Int) u.data.toList) : ∃ ys : List Nat, (∀ y ∈ ys, y < kn) ∧ wdN ys = u := by
  have key : ∀ v : List UInt8, okLt (kn : Int) v → ∃ ys : List Nat, (∀ y ∈ ys, y < kn) ∧ ys.map lt97 = v := fun v => by
    induction v with
    | nil => exact fun _ => ⟨[], (fun y hy => by cases hy), rfl⟩
    | cons c v ih =>
      intro hv
      obtain ⟨ys, h1, h2⟩ := ih (fun y hy => hv y (List.mem_cons_of_mem _ hy))
      obtain ⟨j, hj, rfl⟩ := let_lt97 hv c List.mem_cons_self
      refine ⟨j :: ys, fun y hy => ?_, by rw [List.map_cons, h2]⟩
      rcases List.mem_cons.1 hy with rfl | hy
      · exact hj
      · exact h1 y hy
  obtain ⟨ys, h1, h2⟩ := key _ hu
  exact ⟨ys, h1, ba_lists (by rw [wdN_list, h2])⟩
section
variable {kn : Nat} {R : List RulD} {L : List ByteArray} {ln zn : List Nat}
theorem nums_word {ys : List Nat} (hk : kn ≤ 4) (h : ∀ y ∈ ys, y < kn) : okLt (kn : Int) (wdN ys).data.toList := by
  intro c hc
  rw [wdN_list] at hc
  obtain ⟨y, hy, rfl⟩ := List.mem_map.1 hc
  exact letB_lt97 (h y hy) hk
theorem mon_short (h : MonG (kn : Int) R L ln) (hc : ComplP (kn : Int) R) (hz : ImgP R L kn zn) (hk : kn ≤ 4) {S : List ByteArray} (hS : ShortP L.length ln zn S) {i : Nat} (hi : i < L.length) : isHy (nthS S i) = false ∧ nthS S i = nthS L i := by
  have hw := ((h.mem _).1 (nth_mem hi)).1
  obtain ⟨ys, h1, h2⟩ := word_nums hw
  have hv : ys.foldl (nxT L.length ln zn) 0 = i := by
    rw [← val_wdN L.length ln zn (fun y hy => by have := h1 y hy; omega), h2]
    exact val_word h hc hz hk hi
  have hne : nthS S i ≠ hyB := fun e => hS.none i hi e ys (fun y hy => by rw [hz.len]; exact h1 y hy) hv
  obtain ⟨zs, a1, a2, a3, a4, a5⟩ := hS.some i hi hne
  rw [hz.len] at a1
  have hrk := a5 ys (fun y hy => by rw [hz.len]; exact h1 y hy) hv
  refine ⟨?_, ?_⟩
  · cases hb : isHy (nthS S i)
    · rfl
    · exact absurd (isHy_iff.1 hb) hne
  · rw [a3]
    refine mon_least h hc hz hk hi (nums_word hk a1) ?_ ?_
    · rw [val_wdN L.length ln zn (fun y hy => by have := a1 y hy; omega)]; exact a4
    · rw [rk_wdN (fun y hy => by have := a1 y hy; omega), ← h2, rk_wdN (fun y hy => by have := h1 y hy; omega)]
      exact hrk
theorem mon_reach (h : MonG (kn : Int) R L ln) (hc : ComplP (kn : Int) R) (hz : ImgP R L kn zn) (hk : kn ≤ 4) {S : List ByteArray} (hS : ShortP L.length ln zn S) : (reachL L.length S).length = L.length := by
  unfold reachL
  rw [List.length_map, List.filter_eq_self.2, List.length_range]
  intro i hi
  rw [(mon_short h hc hz hk hS (List.mem_range.1 hi)).1]
  rfl
theorem mon_imgs (h : MonG (kn : Int) R L ln) (hc : ComplP (kn : Int) R) (hz : ImgP R L kn zn) (hk : 1 ≤ kn ∧ kn ≤ 4) : ImgsOk L.length ln zn :=
  ⟨h.tab hc, hz.lt, by rw [hz.len]; exact hk.1, by rw [hz.len]; exact hk.2⟩
/-- the normal form of a word is one of the words -/
theorem mon_idx (h : MonG (kn : Int) R L ln) (hc : ComplP (kn : Int) R) (u : ByteArray) (hu : wordOkB (kn : Int) u = true) : ∃ p, p < L.length ∧ nthS L p = nfC R u ∧ NormIs R u (nthS L p) := by
  obtain ⟨x, hx, hxo⟩ := NormIs.ex hc.1 _ _ (Nat.lt_succ_self _) hu
  have hx2 : x ∈ L := (h.mem x).2 ⟨(wordOk_iff.1 hxo).2.2, (norm_nf (sys_ne hc.1.1) hx).2⟩
  obtain ⟨p, hp, e1, e2⟩ := idxB_mem hx2
  exact ⟨p, hp, by rw [e2, nfC_eq hx], by rw [e2]; exact hx⟩
theorem letter_ok {j : Nat} (hj : j < kn) (hk : kn ≤ 4) : wordOkB (kn : Int) (letterN j) = true := by
  rw [wordOk_iff]
  refine ⟨by omega, by rw [letterN_size]; omega, fun y hy => ?_⟩
  rw [letterN_lt] at hy
  rw [List.mem_singleton.1 hy]
  exact letB_lt97 hj hk
/-- one image more -/
def imT (zq : List Nat) (p t : Nat) : List Nat := if t ≤ p then zq else zq ++ [p]
theorem ImgP.start (R : List RulD) (L : List ByteArray) : ImgP R L 0 [] := ⟨rfl, fun j hj => by omega⟩
theorem ImgP.next {zq : List Nat} {j p : Nat} (h : ImgP R L j zq) (hp : p < L.length) (hn : NormIs R (letterN j) (nthS L p)) : ImgP R L (j + 1) (zq ++ [p]) := by
  have hl := h.len
  refine ⟨by simp [hl], fun i hi => ?_⟩
  by_cases e : i = j
  · subst e
    have : (zq ++ [p]).getD i 0 = p := by rw [List.getD_eq_getElem?_getD, List.getElem?_append_right (by omega), hl, Nat.sub_self]; rfl
    rw [this]
    exact ⟨hp, hn⟩
  · have : (zq ++ [p]).getD i 0 = zq.getD i 0 := by rw [List.getD_eq_getElem?_getD, List.getElem?_append_left (by omega), ← List.getD_eq_getElem?_getD]
    rw [this]
    exact h.img i (by omega)
end
end Go.Proofs.YtgoeadgpbidgiaaGreatDoor
namespace Go.Proofs.YtgoeadgpbidgiaaGreatDoor
open Go.RowKit
set_option linter.unusedVariables false
set_option maxRecDepth 100000 in
set_option maxHeartbeats 1000000 in
theorem specStepsOf_bad (k : Int) (R : List RulD) (a : Option Addr) (cap : Nat) (w0 : ByteArray) (w : World) (hl : RulesIn w a R) (hlen : R.length ≤ 2 ^ 40) (hz : SzR R) (hn : ¬ rulesP k R) :
    Calls Tryz.prog 213 #[.agg #[.int .i64 k, .slice a R.length cap], .string w0] w fun e w' => e = .returned (.slice none 0 0) ∧ Below w.heap.size w w' := by
  have HL := Lib.hid hl
  have HN := Lib.hid hn
  have HRO := Lib.hid (fun W h => specRulesOk_any k R a cap W h hlen hz)
  have HA := Lib.hid (fun o => alloc_belowS w o)
  clear hl hz hn
  go_enter Tryz.func213, Tryz.ntmps213
  go_wp2_with fail
  refine (HRO.out _ (HL.out.later (HA.out _))).mono ?_
  rintro e w1 ⟨bb, hbb, rfl, hb1⟩
  have HW1 := Lib.hid (Below.now (HA.out _) hb1)
  have hbf : bb = false := by
    cases bb with
    | false => rfl
    | true => exact absurd (hbb.1 rfl) HN.out
  subst hbf
  clear hbb hb1
  go_wp2_with fail
  go_ret
  exact ⟨rfl, HW1.out⟩
set_option maxRecDepth 100000 in
set_option maxHeartbeats 1000000 in
theorem specFirstStep_bad (k : Int) (R : List RulD) (a : Option Addr) (cap : Nat) (w0 : ByteArray) (w : World) (hl : RulesIn w a R) (hlen : R.length ≤ 2 ^ 40) (hz : SzR R) (hn : ¬ rulesP k R) :
    Calls Tryz.prog 193 #[.agg #[.int .i64 k, .slice a R.length cap], .string w0] w fun e w' => e = .returned (.tuple #[.agg #[.int .i64 0, .int .i64 0], .bool false]) ∧ Below w.heap.size w w' := by
  have HL := Lib.hid hl
  have HSO := Lib.hid (fun W h => specStepsOf_bad k R a cap w0 W h hlen hz hn)
  have HA2 := Lib.hid (fun o o2 => Below.now (alloc_belowS w o) (alloc_belowS (w.alloc o) o2))
  have e1 : (w.alloc (.cells #[.int .i64 k, .slice a R.length cap] 33)).heap.size = w.heap.size + 1 := by simp
  have HBX := Lib.hid (fun W2 (h : Below ((w.alloc (.cells #[.int .i64 k, .slice a R.length cap] 33)).alloc (.cells #[.int .i64 0, .int .i64 0] 116)).heap.size ((w.alloc (.cells #[.int .i64 k, .slice a R.length cap] 33)).alloc (.cells #[.int .i64 0, .int .i64 0] 116)) W2) => box_facts h)
  rw [e1] at HBX
  clear hl hz hn e1
  go_enter Tryz.func193, Tryz.ntmps193
  go_wp2_with fail
  refine (HSO.out _ (HL.out.later (HA2.out _ _))).mono ?_
  rintro e w1 ⟨rfl, hb1⟩
  obtain ⟨⟨b0, b1⟩, f0, f1⟩ := HBX.out w1 hb1
  have HW1 := Lib.hid (Below.now (HA2.out _ _) hb1)
  have HSZ : Hid (w.heap.size ≤ w.heap.size + 1) := Lib.hid (by omega)
  clear hb1
  go_wp2_with fail
  refine bodyPost_ret (v := .tuple #[.agg #[.int .i64 0, .int .i64 0], .bool false]) ?_ rfl ?_
  · simp [results, Tryz.results193, go_sem, b0, b1]
  · exact ⟨rfl, (HW1.out.setCell HSZ.out _).setCell HSZ.out _⟩
set_option maxRecDepth 100000 in
set_option maxHeartbeats 1000000 in
theorem l04Trace_bad (k : Int) (R : List RulD) (a : Option Addr) (cap : Nat) (w0 : ByteArray) (w : World) (hl : RulesIn w a R) (hlen : R.length ≤ 2 ^ 40) (hz : SzR R) (hn : ¬ rulesP k R) :
    Calls Tryz.prog 155 #[.agg #[.int .i64 k, .slice a R.length cap], .string w0] w fun e w' => ∃ v, e = .returned (.tuple #[v, .string w0]) ∧ Below w.heap.size w w' := by
  have HL := Lib.hid hl
  have HFS := Lib.hid (fun W h => specFirstStep_bad k R a cap w0 W h hlen hz hn)
  have hb1 := alloc_belowS w (.cells #[.int .i64 k, .slice a R.length cap] 33)
  have HBX := Lib.hid (fun W2 (h : Below (w.alloc (.cells #[.int .i64 k, .slice a R.length cap] 33)).heap.size (w.alloc (.cells #[.int .i64 k, .slice a R.length cap] 33)) W2) => box_two h)
  clear hl hz hn
  go_enter Tryz.func155, Tryz.ntmps155
  go_wp2_with fail
  have HW1 := Lib.hid hb1
  generalize w.alloc (.cells #[.int .i64 k, .slice a R.length cap] 33) = w1 at *
  clear hb1
  go_loopw [1, 6] (fun vw vo wr => vw = .string w0 ∧ (∃ g, vo = .slice (some ⟨g, 0, none⟩) 0 0) ∧ Below w1.heap.size w1 wr) (fun _ _ _ => 0)
  case atStart => exact ⟨rfl, ⟨_, rfl⟩, alloc_belowS _ _⟩
  case round =>
    obtain ⟨rfl, ⟨g, rfl⟩, hbd⟩ := hrel
    obtain ⟨s0, s1⟩ := HBX.out wr hbd
    have HB := Lib.hid hbd
    clear hbd
    go_wp2_with fail
    refine (HFS.out wr (HL.out.later (Below.now HW1.out HB.out))).mono ?_
    rintro e w2 ⟨rfl, hb2⟩
    have HB2 := Lib.hid (Below.now HW1.out (Below.now HB.out hb2))
    clear hb2
    go_wp2_with fail
    go_ret2
    exact ⟨_, rfl, Below.now HB2.out (alloc_belowS _ _)⟩
/-- the words behind an insertion: reduced, if the rules are not too many -/
noncomputable def phiF (R : List RulD) (r : RulD) (u : ByteArray) : ByteArray := if (allF R r).length ≤ 12 then nfC (allF R r) u else u
theorem l04Trace_all (k : Int) (R : List RulD) (r : RulD) (a : Option Addr) (cap : Nat) (u : ByteArray) (w : World) (hl : RulesIn w a (allF R r)) (hs : sysP k R) (hr : NewR k r) (hu : wordOkB k u = true) :
    Calls Tryz.prog 155 #[.agg #[.int .i64 k, .slice a (allF R r).length cap], .string u] w fun e w' => ∃ v, e = .returned (.tuple #[v, .string (phiF R r u)]) ∧ Below w.heap.size w w' := by
  have ha := allF_sys hs hr
  have hlen := allF_len hs r
  unfold phiF
  by_cases h : (allF R r).length ≤ 12
  · rw [if_pos h]
    have hsys : sysP k (allF R r) := ⟨⟨⟨ha.1.1, h⟩, ha.1.2⟩, ha.2⟩
    exact (l04Trace_any k (allF R r) a cap u w hl hsys hu).mono fun e w' ⟨v, x, hx, he, hb⟩ => ⟨v, by rw [nfC_eq hx]; exact he, hb⟩
  · rw [if_neg h]
    refine l04Trace_bad k (allF R r) a cap u w hl (by omega) (fun j hj => ?_) (fun hp => h hp.1.2)
    have h1 := (ha.1.2 _ (nthR_mem hj)).1.2
    unfold maxLen
    omega
end Go.Proofs.YtgoeadgpbidgiaaGreatDoor
namespace Go.Proofs.YtgoeadgpbidgiaaGreatDoor
open Go.RowKit
set_option linter.unusedVariables false
/-- the sides of those pairs among some that have to do with the last rule -/
def newL (N : List RulD) (l : List PairD) : List RulD := (l.filter (lastP N)).map (sidesF N)
theorem newL_take {N : List RulD} {S : List PairD} {q : Nat} (h : q < S.length) : newL N (S.take (q + 1)) = newL N (S.take q) ++ newL N [S[q]] := by
  unfold newL
  rw [List.take_succ_eq_append_getElem h, List.filter_append, List.map_append]
theorem newL_yes {N : List RulD} {p : PairD} (h : lastP N p = true) : newL N [p] = [sidesF N p] := by simp [newL, h]
theorem newL_no {N : List RulD} {p : PairD} (h : lastP N p = false) : newL N [p] = [] := by simp [newL, h]
theorem newL_len (N : List RulD) (l : List PairD) : (newL N l).length ≤ l.length := by
  unfold newL
  rw [List.length_map]
  exact List.length_filter_le _ _
theorem ruleCells_one1 (l : List RulD) (x y : ByteArray) : ruleCells (l ++ [(x, y)]) = ruleCells l ++ [.string x, .string y] := by rw [ruleCells_app]; rfl
theorem lastP_int {N : List RulD} (h : 0 < N.length) (x y : Nat) (u : ByteArray) (i : Nat) : lastP N (u, x, y, i) = (((x : Int) == (N.length : Int) - 1) || ((y : Int) == (N.length : Int) - 1)) := by
  have key : ∀ z : Nat, decide (z = N.length - 1) = ((z : Int) == (N.length : Int) - 1) := fun z => by
    rw [Bool.eq_iff_iff, decide_eq_true_eq, beq_iff_eq]
    omega
  unfold lastP
  rw [← key, ← key]
set_option maxRecDepth 100000 in
set_option maxHeartbeats 4000000 in
theorem l06Pairs_any (k : Int) (R : List RulD) (a : Option Addr) (cap : Nat) (w : World) (hl : RulesIn w a R) (hs : sysP k R) (hne : 0 < R.length) :
    Calls Tryz.prog 158 #[.agg #[.int .i64 k, .slice a R.length cap]] w (RetSl 39 2 (newQ R).length (ruleCells (newQ R)) w) := by
  have HL := Lib.hid hl
  have HPF := Lib.hid (fun W h => specPairsOf_any k R a cap W h hs)
  have HIJ := Lib.hid (fun p W h (hm : p ∈ pairsF R) => specSidesOf_any k R a cap p W h hs (pairOk hs hm))
  have HSZ : (pairsF R).length ≤ 2496 := by
    have h := pairTo_len (left8 hs) hs.1.1.2 (i := R.length) (j := 0) hs.1.1.2 (by omega)
    rw [pairTo_done] at h
    exact h
  have HLP := Lib.hid (fun u x y i => lastP_int hne x y u i)
  have HSD : Hid (∀ p, sidesF R p = (leftP R p, rightP R p)) := Lib.hid (fun p => rfl)
  have HFE : Hid (newQ R = newL R ((pairsF R).take (pairsF R).length)) := Lib.hid (by rw [List.take_length]; rfl)
  have h12 : R.length ≤ 12 := hs.1.1.2
  have hb1 := alloc_belowS w (.cells #[.int .i64 k, .slice a R.length cap] 33)
  have HBX := Lib.hid (fun W2 (h : Below (w.alloc (.cells #[.int .i64 k, .slice a R.length cap] 33)).heap.size (w.alloc (.cells #[.int .i64 k, .slice a R.length cap] 33)) W2) => box_two h)
  have HW1 := Lib.hid hb1
  clear hl hs
  go_enter Tryz.func158, Tryz.ntmps158
  have s0 := fun o => (HBX.out _ (alloc_belowS _ o)).1
  have s1 := fun o => (HBX.out _ (alloc_belowS _ o)).2
  go_wp2_with fail
  have HB0 : Hid (Bld 39 2 (w.alloc (.cells #[.int .i64 k, .slice a R.length cap] 33)) ((w.alloc (.cells #[.int .i64 k, .slice a R.length cap] 33)).alloc (.cells #[] 39)) (.slice (some ⟨(w.alloc (.cells #[.int .i64 k, .slice a R.length cap] 33)).heap.size, 0, none⟩) 0 0) 0 (ruleCells [])) := Lib.hid (Bld.empty 39 2 _)
  have e1 : (w.alloc (.cells #[.int .i64 k, .slice a R.length cap] 33)).heap.size = w.heap.size + 1 := by simp
  rw [e1] at HB0
  clear s0 s1
  generalize hW1 : w.alloc (.cells #[.int .i64 k, .slice a R.length cap] 33) = w1 at *
  have hb3 := alloc_belowS w1 (.cells #[] 39)
  obtain ⟨w2, hw2⟩ : ∃ w2, w2 = w1.alloc (.cells #[] 39) := ⟨_, rfl⟩
  rw [← hw2] at hb3 HB0 ⊢
  have HB3 := Lib.hid hb3
  have hs12 : w1.heap.size = w.heap.size + 1 := by rw [← hW1]; simp
  have hs22 : w2.heap.size = w1.heap.size + 1 := by rw [hw2]; simp
  clear hb1 hb3 hw2 e1 hW1
  have HMM : Hid (∀ q (h : q < (pairsF R).length), (pairsF R)[q] ∈ pairsF R) := Lib.hid (fun q h => List.getElem_mem h)
  refine (HPF.out _ (HL.out.later (Below.now HW1.out HB3.out))).mono ?_
  rintro e wc ⟨a2, c2, rfl, ho6, hbc⟩
  have hba : ∀ x, a2 = some x → w2.heap.size ≤ x.block ∧ x.block < wc.heap.size := fun x hx => ho6.lt x.block (by rw [hx]; rfl)
  have HI : Hid (RowsIn prV wc a2 (pairsF R)) := Lib.hid (owns_rows ho6)
  have HB1 : Hid (Bld 39 2 w1 wc (.slice (some ⟨w.heap.size + 1, 0, none⟩) 0 0) (newL R ((pairsF R).take 0)).length (ruleCells (newL R ((pairsF R).take 0)))) := Lib.hid (HB0.out.later hbc)
  have HA1 : Hid (Away wc a2 (.slice (some ⟨w.heap.size + 1, 0, none⟩) 0 0)) := Lib.hid (fun x hx => by
    obtain ⟨h1, h2⟩ := hba x hx
    exact ⟨h2, fun e => by have e2 : x.block = w.heap.size + 1 := Option.some.inj e; omega⟩)
  have HIJ2 : Hid (∀ q (h : q < (pairsF R).length) W, RulesIn W a R → Calls Tryz.prog 177 #[.agg #[.int .i64 k, .slice a R.length cap], pairVal (pairsF R)[q]] W fun e w' => e = .returned (.tuple #[.string (leftP R (pairsF R)[q]), .string (rightP R (pairsF R)[q]), .bool true]) ∧ Below W.heap.size W w') := Lib.hid (fun q h W hW => HIJ.out _ W hW (HMM.out q h))
  clear hbc ho6 HB0 HPF hba HIJ HMM
  generalize pairsF R = S at *
  generalize hMI : (R.length : Int) - 1 = M at *
  have HMI := Lib.hid hMI
  clear hMI
  go_wp2_with fail
  go_loopw [3, 18] (fun vo vq wr => ∃ q : Nat, q ≤ S.length ∧ vq = .int .i64 (q : Nat) ∧ Bld 39 2 w1 wr vo (newL R (S.take q)).length (ruleCells (newL R (S.take q))) ∧ Hid (RowsIn prV wr a2 S) ∧ Hid (Away wr a2 vo)) (fun _ vq _ => S.length - (intOf vq).toNat)
  case atStart => exact ⟨0, Nat.zero_le _, rfl, HB1.out, HI, HA1⟩
  case round =>
    clear HB1 HI HA1
    obtain ⟨q, hq, rfl, hbd, HI, HAW⟩ := hrel
    obtain ⟨ao, co, rfl⟩ := owns_form hbd.1
    have HB := Lib.hid hbd
    have hil := newL_len R (S.take q)
    have htl : (S.take q).length ≤ 2496 := by rw [List.length_take]; omega
    by_cases hlt : q < S.length
    · obtain ⟨b2, off2, rfl, hb2, hcs⟩ := RowsIn.cell prV_len (by omega) HI.out hlt
      have HNX := Lib.hid (newL_take (N := R) hlt)
      have HC := Lib.hid (HIJ2.out q hlt)
      have c0 : wr.cell? ⟨b2, off2 + q * 5, none⟩ = some (.string S[q].1) := hcs q hlt 0 _ rfl
      have c1 : wr.cell? ⟨b2, off2 + q * 5 + 1, none⟩ = some (.int .i64 (S[q].2.1 : Nat)) := hcs q hlt 1 _ rfl
      have c2 : wr.cell? ⟨b2, off2 + q * 5 + 2, none⟩ = some (.int .i64 0) := hcs q hlt 2 _ rfl
      have c3 : wr.cell? ⟨b2, off2 + q * 5 + 3, none⟩ = some (.int .i64 (S[q].2.2.1 : Nat)) := hcs q hlt 3 _ rfl
      have c4 : wr.cell? ⟨b2, off2 + q * 5 + 4, none⟩ = some (.int .i64 (S[q].2.2.2 : Nat)) := hcs q hlt 4 _ rfl
      have HLR := Lib.hid (fun o => HL.out.later (Below.now HW1.out (Below.now hbd.2 (alloc_belowS wr o))))
      have s0 := fun o => (HBX.out _ (Below.now hbd.2 (alloc_belowS wr o))).1
      have s1 := fun o => (HBX.out _ (Below.now hbd.2 (alloc_belowS wr o))).2
      have HSQ := Lib.hid (HSD.out S[q])
      unfold pairVal at HC
      clear hcs hbd
      generalize S[q] = p at *
      obtain ⟨u, x, y, z⟩ := p
      have HLX := Lib.hid (HLP.out u x y z)
      generalize leftP R (u, x, y, z) = lp at *
      generalize rightP R (u, x, y, z) = rp at *
      have HA0 : Hid (Away (wr.alloc (.cells #[.string u, .int .i64 (x : Nat), .int .i64 0, .int .i64 (y : Nat), .int .i64 (z : Nat)] 122)) (some ⟨b2, off2, none⟩) (.slice ao (newL R (S.take q)).length co)) := Lib.hid (fun x hx => ⟨Nat.lt_of_lt_of_le (HAW.out x hx).1 (alloc_belowS wr _).size, (HAW.out x hx).2⟩)
      have HB0 := Lib.hid (HB.out.later (alloc_belowS wr (.cells #[.string u, .int .i64 (x : Nat), .int .i64 0, .int .i64 (y : Nat), .int .i64 (z : Nat)] 122)))
      have HI0 := Lib.hid (HI.out.later (alloc_belowS wr (.cells #[.string u, .int .i64 (x : Nat), .int .i64 0, .int .i64 (y : Nat), .int .i64 (z : Nat)] 122)))
      cases hlast : lastP R (u, x, y, z)
      · have hx1 : ((x : Int) == M) = false := by have h := HLX.out; rw [hlast] at h; exact (Bool.or_eq_false_iff.1 h.symm).1
        have hx2 : ((y : Int) == M) = false := by have h := HLX.out; rw [hlast] at h; exact (Bool.or_eq_false_iff.1 h.symm).2
        have HNY : Hid (newL R (S.take (q + 1)) = newL R (S.take q)) := Lib.hid (by rw [HNX.out, newL_no hlast, List.append_nil])
        clear hlast
        generalize newL R (S.take q) = X at *
        go_wp2_with fail
        go_roundw
        case rel => exact ⟨q + 1, by omega, by go_num, by rw [HNY.out]; exact HB0.out, HI0, HA0⟩
        case measure => simp [intOf]; omega
      · have HNY : Hid (newL R (S.take (q + 1)) = newL R (S.take q) ++ [(lp, rp)]) := Lib.hid (by rw [HNX.out, newL_yes hlast, HSQ.out])
        have hor : ((x : Int) == M) = true ∨ (((x : Int) == M) = false ∧ ((y : Int) == M) = true) := by
          have h := HLX.out
          rw [hlast] at h
          cases h1 : ((x : Int) == M)
          · rw [h1] at h; exact .inr ⟨rfl, by simpa using h.symm⟩
          · exact .inl rfl
        have HN1 : Hid ([Value.string lp, .string rp].length = 1 * 2) := Lib.hid rfl
        have HN2 : Hid (∀ v ∈ [Value.string lp, .string rp], v.oneCell' = true) := Lib.hid (fun v hv => by simp at hv; rcases hv with rfl | rfl <;> rfl)
        clear hlast
        generalize newL R (S.take q) = X at *
        rcases hor with hx1 | ⟨hx1, hx2⟩
        all_goals
          go_wp2_with fail
          refine (HC.out _ (HLR.out _)).mono ?_
          rintro e w5 ⟨rfl, hb5⟩
          have HB5 := Lib.hid (HB0.out.later hb5)
          have HI5 := Lib.hid (HI0.out.later hb5)
          have HA5 : Hid (Away w5 (some ⟨b2, off2, none⟩) (.slice ao X.length co)) := Lib.hid (fun x hx => ⟨Nat.lt_of_lt_of_le (HA0.out x hx).1 hb5.size, (HA0.out x hx).2⟩)
          have HB6 := Lib.hid (HB5.out.later (alloc_belowS w5 (.cells #[.string lp, .string rp] 39)))
          clear hb5 s0 s1 c0 c1 c2 c3 c4 HC HLR
          go_wp2_with (at_builtin; refine wpList_appM rfl (.tmp 41) (.tmp 45) rfl Tryz.underlying25 Tryz.infoRule rfl (by decide) rfl HB6.out rfl (Src.lit _) HN1.out HN2.out (by unfold maxLen; omega) (by omega) ?_; intro v4 w4 hb4 hg4 ho4)
          have HB4 : Hid (Bld 39 2 w1 w4 v4 (newL R (S.take (q + 1))).length (ruleCells (newL R (S.take (q + 1))))) := Lib.hid (by
            rw [HNY.out, List.length_append, ruleCells_one1]; exact hb4)
          have HG4 := Lib.hid ((World.grownBy_alloc w5 _ (Value.slice ao X.length co).ownBlock).trans hg4)
          have HI4 : Hid (RowsIn prV w4 (some ⟨b2, off2, none⟩) S) := Lib.hid (CellsIn.grownC HI5.out HG4.out (fun x hx => (HA5.out x hx).2))
          have HA4 : Hid (Away w4 (some ⟨b2, off2, none⟩) v4) := Lib.hid (fun x hx => by
            obtain ⟨h1, h2⟩ := HA5.out x hx
            refine ⟨Nat.lt_of_lt_of_le h1 HG4.out.size, fun e => ?_⟩
            rcases ho4 with h | h
            · exact h2 (e.trans h)
            · have e4 := Option.some.inj (e.trans h)
              first | omega | (simp at e4; omega))
          obtain ⟨a4, c4, hv4⟩ := owns_form HB4.out.1
          subst hv4
          clear hb4 hg4 ho4
          go_wp2_with fail
          go_roundw
          case rel => exact ⟨q + 1, by omega, by go_num, HB4.out, HI4, HA4⟩
          case measure => simp [intOf]; omega
    · obtain rfl : q = S.length := by omega
      have F : Hid (RetSl 39 2 (newQ R).length (ruleCells (newQ R)) w (.returned (.slice ao (newL R (S.take S.length)).length co)) wr) := Lib.hid (by
        rw [HFE.out]
        exact (HB.out.since HW1.out).ret)
      clear hbd
      go_wp2_with fail
      go_ret
      exact F.out
end Go.Proofs.YtgoeadgpbidgiaaGreatDoor
namespace Go.Proofs.YtgoeadgpbidgiaaGreatDoor
open Go.RowKit
set_option linter.unusedVariables false
section
variable {P : Program}
/-- append of one element to a row that lies from H on, at a plain region's list -/
theorem wpList_appH {ops : Array Oper} {rest : List Oper} {o : Oper} {a : Act} {Q : Exit → Act → World → Prop} {T tsl : TypeId} {z : Value} {size bytes : Nat} (hg : o.guard = none) (s x : Operand)
    (ho : o.op = .call { callee := .builtin .append, args := #[s, x], argTypes := #[tsl, tsl] }) (ht : P.underlying tsl = some (.slice T)) (hinfo : (P.info? T).map (fun i => (i.zero, i.size, i.bytes)) = some (some z, size, bytes))
    (hzs : z.cells.size = size) (hpos : 0 < size) {H : Nat} {wr : World} {v : Value} {n : Nat} {xs news : List Value} (hs : a.eval s = v) (hb : wr.ownsRow H T size v n xs) (hH : H ≤ wr.heap.size) (hx : a.eval x = .slice (some ⟨wr.heap.size, 0, none⟩) 1 1)
    (hn : news.length = size) (h1 : ∀ u ∈ news, u.oneCell' = true) (h63 : n + 1 ≤ maxLen) (hbytes : (n + 1) * bytes ≤ 140737488355328)
    (hK : ∀ g cap w', w'.ownsRow H T size (.slice (some ⟨g, 0, none⟩) (n + 1) cap) (n + 1) (xs ++ news) → (wr.alloc (.cells news.toArray T)).grownBy w' v.ownBlock → ((Value.slice (some ⟨g, 0, none⟩) (n + 1) cap).ownBlock = v.ownBlock ∨ (Value.slice (some ⟨g, 0, none⟩) (n + 1) cap).ownBlock = some (wr.alloc (.cells news.toArray T)).heap.size) → wpList P ops Q rest (a.put o.dst (.slice (some ⟨g, 0, none⟩) (n + 1) cap)) w') :
    wpList P ops Q (o :: rest) a (wr.alloc (.cells news.toArray T)) := by
  obtain ⟨i0, hi, hz0, hz1, hz2⟩ := info_parts hinfo
  refine wpList_append_lies (w := wr.alloc (.cells news.toArray T)) hg s x tsl ho H T i0 z size bytes ht hi hz0 hz1 hz2 hzs hpos v n xs hs (hb.alloc _) ⟨wr.heap.size, 0, none⟩ 1 1 news hx (by omega) ?_ h1 (by omega) h63 hbytes ?_ _ rfl ?_
  · intro j u hu
    have hadd : (⟨wr.heap.size, 0, none⟩ : Addr).add j = ⟨wr.heap.size, j, none⟩ := by unfold Addr.add; split <;> simp_all
    rw [hadd, World.cell?_alloc_new]
    simpa using hu
  · simp; omega
  · intro g cap w' hown hgr ho _
    refine hK g cap w' hown hgr ?_
    rcases ho with ho | ho
    · exact .inl ho.symm
    · exact .inr (by rw [ho]; rfl)
end
end Go.Proofs.YtgoeadgpbidgiaaGreatDoor
