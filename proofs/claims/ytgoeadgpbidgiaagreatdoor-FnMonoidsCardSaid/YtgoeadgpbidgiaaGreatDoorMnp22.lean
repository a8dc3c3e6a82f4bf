/-
  The words of a complete system and its table, as plain data: the letters' elements reach all, and each word is the least of its element.
-/
import Derived.Test.YtgoeadgpbidgiaaGreatDoorMnp18
import Derived.Test.YtgoeadgpbidgiaaGreatDoorMnp21
import Derived.Deep.RegionHeld3
import Derived.Test.YtgoeadgpbidgiaaGreatDoorMnp01
import Derived.Test.YtgoeadgpbidgiaaGreatDoorMnp19
import Derived.Test.YtgoeadgpbidgiaaGreatDoorMnp10
import Derived.Test.YtgoeadgpbidgiaaGreatDoorMnp16
import Derived.Test.YtgoeadgpbidgiaaGreatDoorMnp09
namespace Go.Proofs.YtgoeadgpbidgiaaGreatDoor
open Go.RowKit
set_option linter.unusedVariables false
/-- the values of words -/
def valsF (m : Nat) (ln zn : List Nat) (L : List ByteArray) : List Int := L.map fun u => ((valF m ln zn u : Nat) : Int)
/-- IsFaithful -/
def faiP (k : Int) (R : List RulD) (n : Int) (l z : List Int) : Prop := ∃ L P, MonIs k R L P true ∧ satP k R n l z ∧ (valsF n.toNat (l.map Int.toNat) (z.map Int.toNat) L).Nodup
section
variable {m : Nat} {ln zn : List Nat} {L : List ByteArray}
theorem valsF_take {j : Nat} (h : j < L.length) : valsF m ln zn (L.take (j + 1)) = valsF m ln zn (L.take j) ++ [((valF m ln zn (nthS L j) : Nat) : Int)] := by
  unfold valsF
  rw [List.take_succ_eq_append_getElem h, List.map_append, nthS_lt h]
  rfl
end
theorem MonIs.pos {k : Int} {R : List RulD} {L : List ByteArray} {P : List Int} (h : MonIs k R L P true) : 0 < L.length := by
  rcases h with ⟨_, _, _, h⟩ | ⟨hg, hal, _, _⟩
  · cases h
  · rcases hal with ⟨_, _, h3⟩ | ⟨kn, h, rfl, h2, _, rfl, _, _⟩
    · cases h3
    · rw [outTo_len (sysG_of hg.1.1).ne]
      have := pSum_ge h2 (h + 1) (Nat.le_refl _)
      omega
theorem MonIs.goM {k : Int} {R : List RulD} {L : List ByteArray} {P : List Int} (h : MonIs k R L P true) : GoM k R ∧ MonW k L := by
  rcases h with ⟨_, _, _, h⟩ | ⟨hg, hal, _, _⟩
  · cases h
  · exact ⟨hg, hg.words hal⟩
theorem MonIs.noGo {k : Int} {R : List RulD} {L L' : List ByteArray} {P P' : List Int} (h : MonIs k R L P false) (h' : MonIs k R L' P' true) : False := by
  obtain ⟨_, _, e⟩ := h.uniq h'
  cases e
theorem retP_iff {P P' : Prop} {w w' : World} {e : Ending} (h : P' ↔ P) (r : RetP P w e w') : RetP P' w e w' := by
  obtain ⟨b, hb, he, hw⟩ := r
  exact ⟨b, hb.trans h.symm, he, hw⟩
set_option maxRecDepth 20000 in
set_option maxHeartbeats 4000000 in
theorem implIsFaithful_any (k : Int) (R : List RulD) (aR : Option Addr) (cR : Nat) (n : Int) (l : List Int) (a : Option Addr) (cap : Nat) (z : List Int) (az : Option Addr) (cz : Nat) (w : World) (hR : RulesIn w aR R) (hRl : R.length ≤ 2 ^ 40) (hS : SzR R)
    (hl : IntsIn w a l) (hlen : l.length ≤ 2 ^ 47) (hz : IntsIn w az z) (hzl : z.length ≤ 2 ^ 47) (htb : Tab10 w) :
    Calls Tryz.prog 27 #[.agg #[.int .i64 k, .slice aR R.length cR], .agg #[.int .i64 n, .slice a l.length cap], .slice az z.length cz] w (RetP (faiP k R n l z) w) := by
  have HMO := Lib.hid (fun W h hT => implMonoidOf_any k R aR cR W h hRl hS hT)
  have HSR := Lib.hid (fun W h1 h2 h3 => implSatisfiesRules_any k R aR cR n l a cap z az cz W h1 hRl hS h2 hlen h3 hzl)
  have hb1 : Below w.heap.size w ((w.alloc (.cells #[.int .i64 k, .slice aR R.length cR] 33)).alloc (.cells #[.int .i64 n, .slice a l.length cap] 47)) := Below.now (alloc_belowS w _) (alloc_belowS _ _)
  have HX : Hid (∀ W, Below ((w.alloc (.cells #[.int .i64 k, .slice aR R.length cR] 33)).alloc (.cells #[.int .i64 n, .slice a l.length cap] 47)).heap.size ((w.alloc (.cells #[.int .i64 k, .slice aR R.length cR] 33)).alloc (.cells #[.int .i64 n, .slice a l.length cap] 47)) W → W.cell? ⟨w.heap.size, 0, none⟩ = some (.int .i64 k) ∧ W.cell? ⟨w.heap.size, 1, none⟩ = some (.slice aR R.length cR) ∧ W.cell? ⟨w.heap.size + 1, 0, none⟩ = some (.int .i64 n) ∧ W.cell? ⟨w.heap.size + 1, 1, none⟩ = some (.slice a l.length cap)) := Lib.hid (fun W hW => by
    refine ⟨?_, ?_, ?_, ?_⟩ <;> rw [hW.cell (by simp; try omega)] <;> simp [go_sem])
  have HB := Lib.hid hb1
  have HL := Lib.hid (hl.later hb1)
  have HZ := Lib.hid (hz.later hb1)
  have HRR := Lib.hid (hR.later hb1)
  have HTB := Lib.hid (htb.later hb1)
  have HN2 : Hid (((w.alloc (.cells #[.int .i64 k, .slice aR R.length cR] 33)).alloc (.cells #[.int .i64 n, .slice a l.length cap] 47)).heap.size = w.heap.size + 2) := Lib.hid (by simp)
  clear hl hz hR hS hb1 htb
  go_enter Tryz.func27, Tryz.ntmps27
  go_wp2_with fail
  generalize ((w.alloc (.cells #[.int .i64 k, .slice aR R.length cR] 33)).alloc (.cells #[.int .i64 n, .slice a l.length cap] 47)) = w1 at *
  refine (HMO.out _ HRR.out HTB.out).mono ?_
  rintro e w2 ⟨L, P, f, aP, aL, cP, cL, hmon, rfl, hoP, hoL, hb2⟩
  have HM := Lib.hid hmon
  have HB2 := Lib.hid hb2
  have HSL : Hid (StrsIn w2 aL L) := Lib.hid (owns_cells hoL)
  have hb3 := alloc_belowS w2 (.cells #[.int .i64 (L.length : Nat), .slice aP P.length cP] 47)
  have HB3 := Lib.hid (Below.now hb2 hb3)
  have HSL3 := Lib.hid (HSL.out.later hb3)
  obtain ⟨hf1, hf2⟩ := hmon.few
  obtain ⟨s0, s1, s2, s3⟩ := HX.out _ HB3.out
  clear hmon hoP hoL hb2 hb3
  cases f
  · have F : Hid (∀ W, Below w1.heap.size w1 W → RetP (faiP k R n l z) w (.returned (.bool false)) W) := Lib.hid (fun W hW => RetP.no (fun ⟨_, _, h, _⟩ => HM.out.noGo h) (Below.now HB.out hW))
    go_wp2_with fail
    go_ret
    exact F.out _ HB3.out
  obtain ⟨hgo, hmw⟩ := HM.out.goM
  have HGO := Lib.hid hgo
  have HMW := Lib.hid hmw
  have HPO := Lib.hid HM.out.pos
  clear hgo hmw
  go_wp2_with fail
  generalize w2.alloc (.cells #[.int .i64 (L.length : Nat), .slice aP P.length cP] 47) = w3 at *
  refine (HSR.out _ (HRR.out.later HB3.out) (HL.out.later HB3.out) (HZ.out.later HB3.out)).mono ?_
  rintro e w4 ⟨bb, hbb, rfl, hb4⟩
  have HBB := Lib.hid hbb
  have HB4 := Lib.hid (Below.now HB3.out hb4)
  have HSL4 := Lib.hid (HSL3.out.later hb4)
  obtain ⟨t0, t1, t2, t3⟩ := HX.out _ HB4.out
  clear hbb hb4 s0 s1 s2 s3
  cases bb
  · have F : Hid (RetP (faiP k R n l z) w (.returned (.bool false)) w4) := Lib.hid (RetP.no (fun ⟨_, _, _, h, _⟩ => by have := HBB.out.2 h; cases this) (Below.now HB.out HB4.out))
    go_wp2_with fail
    go_ret
    exact F.out
  have HSA := Lib.hid (HBB.out.1 rfl)
  obtain ⟨m, ln, zn, rfl, hlm, hT, hzn, hzm, hz1, hz4⟩ := imgB_out HSA.out.1.1.2
  have hm0 := hT.lo
  have hm1 := hT.hi
  have HT := Lib.hid hT.toTb
  have HLL : Hid (l.length = m * m) := Lib.hid (by rw [hlm, List.length_map]; exact hT.len)
  have HZM := Lib.hid hzm
  have HZL : Hid (z.length = zn.length) := Lib.hid (by rw [hzn, List.length_map])
  have HFP : Hid (faiP k R (m : Nat) l z ↔ (valsF m ln zn L).Nodup) := Lib.hid (by
    unfold faiP
    rw [hlm, hzn, map_toNat', map_toNat', Int.toNat_natCast]
    constructor
    · rintro ⟨L', P', h1, _, h3⟩
      obtain ⟨rfl, _, _⟩ := HM.out.uniq h1
      exact h3
    · intro h
      refine ⟨L, P, HM.out, ?_, h⟩
      rw [← hlm, ← hzn]
      exact HSA.out)
  have HLE : Hid (∀ u ∈ L, letIn zn u ∧ u.size ≤ 8) := Lib.hid (fun u hu => ⟨letIn_of (HMW.out.word u hu).1 (by rw [← HZL.out]; exact HSA.out.1.2.symm), (HMW.out.word u hu).2⟩)
  have HN4 : Hid (∀ W, Below w4.heap.size w4 W → NatsIn W a ln ∧ NatsIn W az zn) := Lib.hid (fun W hW => by
    unfold NatsIn
    rw [← hlm, ← hzn]
    exact ⟨HL.out.later (Below.now HB4.out hW), HZ.out.later (Below.now HB4.out hW)⟩)
  have HVA : Hid (∀ u W, letIn zn u → u.size ≤ 8 → NatsIn W a ln → NatsIn W az zn → Calls Tryz.prog 69 #[.agg #[.int .i64 (m : Nat), .slice a l.length cap], .slice az z.length cz, .string u] W fun e w' => e = .returned (.int .i64 (valF m ln zn u : Nat)) ∧ Below W.heap.size W w') := Lib.hid (fun u W h1 h2 h3 h4 => by
    have h := implValue_any m ln zn a l.length cap az cz u W h3 hT.toTb HLL.out h4 hzm h1 (by omega)
    rw [← HZL.out] at h
    exact h)
  clear hlm hT hzn hzm hz1 hz4
  go_wp2_with fail
  clear t0 t1 t2 t3
  go_loopw [10, 30] (fun q i wr => ∃ j : Nat, j ≤ L.length ∧ i = .int .i64 j ∧ Hid (Bld 3 1 w4 wr q (valsF m ln zn (L.take j)).length (intVals (valsF m ln zn (L.take j))))) (fun _ i _ => L.length - (intOf i).toNat)
  case atStart => exact ⟨0, Nat.zero_le _, rfl, Lib.hid (Bld.nil _ _ (Below.refl _ _))⟩
  case round =>
    obtain ⟨j, hj, rfl, HO⟩ := hrel
    obtain ⟨t0, t1, t2, t3⟩ := HX.out _ (Below.now HB4.out HO.out.2)
    have hql : (valsF m ln zn (L.take j)).length ≤ 40 := by unfold valsF; rw [List.length_map, List.length_take]; omega
    by_cases hlt : j < L.length
    · obtain ⟨b, off, rfl, _, hc⟩ := (HSL4.out.later HO.out.2).cell hlt
      have hcj := hc j hlt
      have hmem : nthS L j ∈ L := by rw [nthS_lt hlt]; exact List.getElem_mem hlt
      obtain ⟨hle, hsz⟩ := HLE.out _ hmem
      have HLI := Lib.hid hle
      have HTK := Lib.hid (valsF_take (m := m) (ln := ln) (zn := zn) hlt)
      clear hc hmem hle
      generalize nthS L j = u at *
      go_wp2_with fail
      refine (HVA.out u _ HLI.out hsz (HN4.out _ HO.out.2).1 (HN4.out _ HO.out.2).2).mono ?_
      rintro e w6 ⟨rfl, hb6⟩
      have HO6 := Lib.hid (HO.out.later hb6)
      have hone : ∀ s : Int, ∀ u ∈ [Value.int .i64 s], u.oneCell' = true := fun s u hu => by rw [List.mem_singleton.1 hu]; rfl
      clear hb6 t0 t1 t2 t3 hcj HVA
      generalize valF m ln zn u = v at *
      go_wp2_with (at_builtin; refine wpList_app1 rfl _ _ rfl Tryz.underlying45 Tryz.infoInt rfl (by decide) rfl HO6.out rfl rfl (hone _) ?c2 ?c3 ?c4)
      case c2 => unfold maxLen; omega
      case c3 => omega
      intro v2 w7 hb7
      have F : Hid (Bld 3 1 w4 w7 v2 (valsF m ln zn (L.take (j + 1))).length (intVals (valsF m ln zn (L.take (j + 1))))) := Lib.hid (by rw [HTK.out, List.length_append]; unfold intVals at *; rw [List.map_append]; exact hb7)
      clear hb7
      go_wp2_with fail
      go_roundw
      case rel => exact ⟨j + 1, by omega, by go_num, F⟩
      case measure => simp [intOf]; omega
    · have e : L.take j = L := List.take_of_length_le (by omega)
      rw [e] at hql
      have HO2 := HO
      rw [e] at HO2
      obtain ⟨oa, oc, rfl⟩ := owns_form HO.out.1
      rw [e]
      have hp : 0 < (valsF m ln zn L).length := by unfold valsF; rw [List.length_map]; exact HPO.out
      have HC := Lib.hid (collected_any _ oa oc wr (owns_ints (l := valsF m ln zn L) HO2.out.1) hp (by omega))
      have HCN := Lib.hid (coll_nodup (q := valsF m ln zn L))
      have hcl := collL_len (valsF m ln zn L)
      have HBE := Lib.hid (Below.now HB.out (Below.now HB4.out HO.out.2))
      clear t0 t1 t2 t3 e hp HO HO2
      generalize collL (valsF m ln zn L) = q1 at *
      generalize valsF m ln zn L = q2 at *
      go_wp2_with fail
      refine HC.out.mono ?_
      rintro e w6 ⟨a6, c6, rfl, _, hb6⟩
      have HB6 := Lib.hid (Below.now HBE.out hb6)
      clear hb6
      cases e1 : (((q1.length : Nat) : Int) == ((q2.length : Nat) : Int))
      · have F : Hid (RetP q2.Nodup w (.returned (.bool false)) w6) := Lib.hid (RetP.no (fun h => by have := HCN.out.2 h; simp at e1; omega) HB6.out)
        go_wp2_with fail
        go_ret
        exact retP_iff HFP.out F.out
      · have F : Hid (RetP q2.Nodup w (.returned (.bool true)) w6) := Lib.hid (RetP.yes (HCN.out.1 (by simp at e1; omega)) HB6.out)
        go_wp2_with fail
        go_ret
        exact retP_iff HFP.out F.out
open Classical in
noncomputable def faiB (k : Int) (R : List RulD) (n : Int) (l z : List Int) : Bool := decide (faiP k R n l z)
end Go.Proofs.YtgoeadgpbidgiaaGreatDoor
namespace Go.Proofs.YtgoeadgpbidgiaaGreatDoor
set_option linter.unusedVariables false
/-- words W of rank r, made longer by sn; elements, led on by nx; D are done, Q are waiting, j letters are done with the first of Q -/
structure BfsP {W : Type} (r : W → Nat) (sn : W → Nat → W) (e : W) (nx : Nat → Nat → Nat) (k : Nat) (O : Nat → W) (D Q : List Nat) (j : Nat) : Prop where
  nd : (D ++ Q).Nodup
  rise : (D ++ Q).Pairwise fun a b => r (O a) < r (O b)
  root : 0 ∈ D ++ Q
  zero : O 0 = e
  par : ∀ v ∈ D ++ Q, v = 0 ∨ ∃ d y, y < k ∧ O v = sn (O d) y ∧ (d ∈ D ∨ (Q.head? = some d ∧ y < j))
  comp : ∀ d y, y < k → (d ∈ D ∨ (Q.head? = some d ∧ y < j)) → nx d y ∈ D ++ Q ∧ r (O (nx d y)) ≤ r (sn (O d) y)
  way : ∀ i (h : i < (D ++ Q).length), ∃ ys : List Nat, (∀ y ∈ ys, y < k) ∧ O (D ++ Q)[i] = ys.foldl sn e ∧ ys.foldl nx 0 = (D ++ Q)[i] ∧ ys.length ≤ i
section
variable {W : Type} {r : W → Nat} {sn : W → Nat → W} {e : W} {nx : Nat → Nat → Nat} {k : Nat} {O : Nat → W} {D Q : List Nat} {j : Nat}
theorem BfsP.start (h0 : O 0 = e) : BfsP r sn e nx k O [] [0] 0 := by
  refine ⟨List.nodup_cons.2 ⟨by simp, List.nodup_nil⟩, List.pairwise_singleton _ _, List.mem_singleton.2 rfl, h0, fun v hv => .inl (by simpa using hv), fun d y _ h => ?_, fun i hi => ?_⟩
  · rcases h with h | ⟨_, h⟩
    · cases h
    · omega
  · have : i = 0 := by simp at hi; omega
    subst this
    exact ⟨[], (fun y hy => by cases hy), h0, rfl, Nat.le_refl _⟩
/-- the first of Q stands behind all of D -/
theorem BfsP.head_lt (h : BfsP r sn e nx k O D Q j) {q d : Nat} (hq : Q.head? = some q) (hd : d ∈ D) : r (O d) < r (O q) :=
  (List.pairwise_append.1 h.rise).2.2 d hd q (List.mem_of_mem_head? hq)
theorem BfsP.all_lt (hs : ∀ w y, r (sn w y) = 5 * r w + y + 1) (he : r e = 0) (hk : k ≤ 4) (h : BfsP r sn e nx k O D Q j) {q : Nat} (hq : Q.head? = some q) {v : Nat} (hv : v ∈ D ++ Q) : r (O v) < r (sn (O q) j) := by
  rw [hs]
  rcases h.par v hv with rfl | ⟨d, y, hy, e2, hd⟩
  · rw [h.zero, he]; omega
  · rw [e2, hs]
    rcases hd with hd | ⟨hd, hyj⟩
    · have := h.head_lt hq hd; omega
    · rw [hq] at hd
      cases hd
      omega
theorem BfsP.old (hs : ∀ w y, r (sn w y) = 5 * r w + y + 1) (he : r e = 0) (hk : k ≤ 4) (h : BfsP r sn e nx k O D Q j) {q : Nat} (hq : Q.head? = some q) (hm : nx q j ∈ D ++ Q) : BfsP r sn e nx k O D Q (j + 1) := by
  refine ⟨h.nd, h.rise, h.root, h.zero, fun v hv => ?_, fun d y hy hd => ?_, h.way⟩
  · rcases h.par v hv with h1 | ⟨d, y, hy, e2, hd⟩
    · exact .inl h1
    · exact .inr ⟨d, y, hy, e2, hd.imp id fun hd => ⟨hd.1, by omega⟩⟩
  · by_cases hc : Q.head? = some d ∧ y = j
    · obtain ⟨h1, rfl⟩ := hc
      rw [hq] at h1
      cases h1
      exact ⟨hm, Nat.le_of_lt (h.all_lt hs he hk hq hm)⟩
    · refine h.comp d y hy (hd.imp id fun hd => ⟨hd.1, ?_⟩)
      have : y ≠ j := fun e => hc ⟨hd.1, e⟩
      omega
/-- a new element -/
def putO (O : Nat → W) (v : Nat) (w : W) : Nat → W := fun i => if i = v then w else O i
theorem putO_at (v : Nat) (w : W) : putO O v w v = w := if_pos rfl
theorem putO_ne {v i : Nat} (w : W) (h : i ≠ v) : putO O v w i = O i := if_neg h
theorem BfsP.new (hs : ∀ w y, r (sn w y) = 5 * r w + y + 1) (he : r e = 0) (hk : k ≤ 4) (hj : j < k) (h : BfsP r sn e nx k O D Q j) {q : Nat} (hq : Q.head? = some q) (hm : nx q j ∉ D ++ Q) : BfsP r sn e nx k (putO O (nx q j) (sn (O q) j)) D (Q ++ [nx q j]) (j + 1) := by
  have eo : ∀ v ∈ D ++ Q, putO O (nx q j) (sn (O q) j) v = O v := fun v hv => putO_ne _ (fun e => hm (e ▸ hv))
  have hqm : q ∈ D ++ Q := List.mem_append.2 (.inr (List.mem_of_mem_head? hq))
  have hq2 : (Q ++ [nx q j]).head? = some q := by
    cases Q with
    | nil => cases hq
    | cons a Q => exact hq
  have ea : D ++ (Q ++ [nx q j]) = (D ++ Q) ++ [nx q j] := by rw [List.append_assoc]
  have dq : ∀ {d y : Nat}, (d ∈ D ∨ (Q.head? = some d ∧ y < j + 1)) → d ∈ D ++ Q := fun hd => by
    rcases hd with hd | ⟨hd, _⟩
    · exact List.mem_append.2 (.inl hd)
    · exact List.mem_append.2 (.inr (List.mem_of_mem_head? hd))
  have hhead : ∀ {d y : Nat}, (d ∈ D ∨ ((Q ++ [nx q j]).head? = some d ∧ y < j + 1)) ↔ (d ∈ D ∨ (Q.head? = some d ∧ y < j + 1)) := by intro d y; rw [hq2, hq]
  refine ⟨?_, ?_, ?_, ?_, fun v hv => ?_, fun d y hy hd => ?_, fun i hi => ?_⟩
  · rw [ea, List.nodup_append]
    exact ⟨h.nd, List.nodup_cons.2 ⟨by simp, List.nodup_nil⟩, fun a ha b hb e => hm (by rw [← List.mem_singleton.1 hb, ← e]; exact ha)⟩
  · rw [ea, List.pairwise_append]
    refine ⟨h.rise.imp_of_mem fun ha hb hlt => by rw [eo _ ha, eo _ hb]; exact hlt, List.pairwise_singleton _ _, fun a ha b hb => ?_⟩
    rw [List.mem_singleton.1 hb, eo a ha, putO_at]
    exact h.all_lt hs he hk hq ha
  · rw [ea]; exact List.mem_append.2 (.inl h.root)
  · rw [eo 0 h.root]; exact h.zero
  · rw [ea] at hv
    rcases List.mem_append.1 hv with hv | hv
    · rcases h.par v hv with h1 | ⟨d, y, hy, e2, hd⟩
      · exact .inl h1
      · have hd2 : d ∈ D ∨ (Q.head? = some d ∧ y < j + 1) := hd.imp id fun hd => ⟨hd.1, by omega⟩
        exact .inr ⟨d, y, hy, by rw [eo v hv, eo d (dq hd2)]; exact e2, hhead.2 hd2⟩
    · rw [List.mem_singleton.1 hv]
      exact .inr ⟨q, j, hj, by rw [putO_at, eo q hqm], .inr ⟨hq2, by omega⟩⟩
  · have hd2 := hhead.1 hd
    rw [eo d (dq hd2), ea]
    by_cases hc : Q.head? = some d ∧ y = j
    · obtain ⟨h1, rfl⟩ := hc
      rw [hq] at h1
      cases h1
      exact ⟨List.mem_append.2 (.inr (List.mem_singleton.2 rfl)), by rw [putO_at]; exact Nat.le_refl _⟩
    · obtain ⟨h1, h2⟩ := h.comp d y hy (hd2.imp id fun hd => ⟨hd.1, by
        have : y ≠ j := fun e => hc ⟨hd.1, e⟩
        omega⟩)
      exact ⟨List.mem_append.2 (.inl h1), by rw [eo _ h1]; exact h2⟩
  · simp only [ea] at hi ⊢
    by_cases hl : i < (D ++ Q).length
    · obtain ⟨ys, h1, h2, h3, h4⟩ := h.way i hl
      rw [List.getElem_append_left hl]
      exact ⟨ys, h1, by rw [eo _ (List.getElem_mem hl)]; exact h2, h3, h4⟩
    · have hl2 : i = (D ++ Q).length := by simp at hi hl ⊢; omega
      have eg : ((D ++ Q) ++ [nx q j])[i] = nx q j := by
        rw [List.getElem_append_right (by omega)]
        simp
      obtain ⟨p, hp, ep⟩ := List.getElem_of_mem hqm
      obtain ⟨ys, h1, h2, h3, h4⟩ := h.way p hp
      rw [eg, putO_at]
      refine ⟨ys ++ [j], fun y hy => ?_, ?_, ?_, ?_⟩
      · rcases List.mem_append.1 hy with hy | hy
        · exact h1 y hy
        · rw [List.mem_singleton.1 hy]; exact hj
      · rw [List.foldl_append, ← h2, ep]; rfl
      · rw [List.foldl_append, h3, ep]; rfl
      · rw [List.length_append, List.length_singleton]; omega
theorem BfsP.next (h : BfsP r sn e nx k O D Q j) (hj : j = k) {q : Nat} {Qt : List Nat} (hQ : Q = q :: Qt) : BfsP r sn e nx k O (D ++ [q]) Qt 0 := by
  subst hQ
  have ea : (D ++ [q]) ++ Qt = D ++ q :: Qt := by simp
  refine ⟨by rw [ea]; exact h.nd, by rw [ea]; exact h.rise, by rw [ea]; exact h.root, h.zero, fun v hv => ?_, fun d y hy hd => ?_, ?_⟩
  · rw [ea] at hv
    rcases h.par v hv with h1 | ⟨d, y, hy, e2, hd⟩
    · exact .inl h1
    · refine .inr ⟨d, y, hy, e2, .inl (List.mem_append.2 ?_)⟩
      rcases hd with hd | ⟨hd, _⟩
      · exact .inl hd
      · cases hd; exact .inr (List.mem_singleton.2 rfl)
  · rw [ea]
    refine h.comp d y hy ?_
    rcases hd with hd | ⟨_, hd⟩
    · rcases List.mem_append.1 hd with hd | hd
      · exact .inl hd
      · rw [List.mem_singleton.1 hd]; exact .inr ⟨rfl, by omega⟩
    · omega
  · simp only [ea]; exact h.way
/-- at the end: each word's element is reached, by a word that is not greater -/
theorem BfsP.done (hs : ∀ w y, r (sn w y) = 5 * r w + y + 1) (h : BfsP r sn e nx k O D [] j) : ∀ (ys : List Nat), (∀ y ∈ ys, y < k) → ys.foldl nx 0 ∈ D ∧ r (O (ys.foldl nx 0)) ≤ r (ys.foldl sn e) := by
  have key : ∀ (n : Nat) (ys : List Nat), ys.length = n → (∀ y ∈ ys, y < k) → ys.foldl nx 0 ∈ D ∧ r (O (ys.foldl nx 0)) ≤ r (ys.foldl sn e) := fun n => by
    induction n with
    | zero =>
      intro ys hl _
      obtain rfl := List.eq_nil_of_length_eq_zero hl
      have := h.root
      rw [List.append_nil] at this
      exact ⟨this, by show r (O 0) ≤ r e; rw [h.zero]; exact Nat.le_refl _⟩
    | succ n ih =>
      intro ys hl hy
      rcases List.eq_nil_or_concat ys with rfl | ⟨zs, y, rfl⟩
      · simp at hl
      · rw [List.concat_eq_append] at *
        have hl2 : zs.length = n := by rw [List.length_append, List.length_singleton] at hl; omega
        obtain ⟨h1, h2⟩ := ih zs hl2 (fun z hz => hy z (List.mem_append.2 (.inl hz)))
        rw [List.foldl_append, List.foldl_append]
        obtain ⟨h3, h4⟩ := h.comp _ y (hy y (by simp)) (.inl h1)
        rw [List.append_nil] at h3
        refine ⟨h3, ?_⟩
        show r (O (nx (zs.foldl nx 0) y)) ≤ r (sn (zs.foldl sn e) y)
        rw [hs] at h4 ⊢
        omega
  exact fun ys => key _ ys rfl
end
end Go.Proofs.YtgoeadgpbidgiaaGreatDoor
namespace Go.Proofs.YtgoeadgpbidgiaaGreatDoor
open Go.RowKit
set_option linter.unusedVariables false
/-- rules that make a word less -/
def sysW (k : Int) (R : List RulD) : Prop := ((1 ≤ k ∧ k ≤ 4) ∧ ∀ r ∈ R, ruleP k r) ∧ ∀ r ∈ R, lessS r.2 r.1 = true
theorem sysP.weak {k : Int} {R : List RulD} (h : sysP k R) : sysW k R := ⟨⟨h.1.1.1, h.1.2⟩, h.2⟩
/-- a step of an ordered system makes a word less -/
theorem step_lessW {k : Int} {R : List RulD} (hs : sysW k R) {w : ByteArray} {s : Nat × Nat} (hm : s ∈ stepsF R w) : rk (applyF R w s).data.toList < rk w.data.toList := by
  obtain ⟨h1, h2, h3⟩ := mem_stepsF.1 hm
  have hr := nthR_mem h2
  have hp := hs.1.2 _ hr
  have hl := hs.2 _ hr
  unfold applyF
  rw [replF_list]
  conv => rhs; rw [split_at h3]
  exact rk_swap (lw_of hp.1.1.1) (lw_of hp.1.1.2) hl
theorem step_sizeW {k : Int} {R : List RulD} (hs : sysW k R) {w : ByteArray} {s : Nat × Nat} (hm : s ∈ stepsF R w) : (applyF R w s).size ≤ w.size ∧ s.2 + (nthR R s.1).1.size ≤ w.size := by
  obtain ⟨h1, h2, h3⟩ := mem_stepsF.1 hm
  have hr := nthR_mem h2
  have hp := hs.1.2 _ hr
  have hl := hs.2 _ hr
  have hf := preAt_fits h3 (by have := hp.2; omega)
  have hle : (nthR R s.1).2.size ≤ (nthR R s.1).1.size := by
    unfold lessS ltW at hl
    have e1 : (blW (nthR R s.1).1).length = (nthR R s.1).1.size := rfl
    have e2 : (blW (nthR R s.1).2).length = (nthR R s.1).2.size := rfl
    rcases of_decide_eq_true hl with h | ⟨h, _⟩ <;> omega
  refine ⟨?_, hf⟩
  unfold applyF
  rw [replF_size hf]
  omega
theorem step_wordW {k : Int} {R : List RulD} (hs : sysW k R) {w : ByteArray} (hw : wordOkB k w = true) {s : Nat × Nat} (hm : s ∈ stepsF R w) : wordOkB k (applyF R w s) = true := by
  obtain ⟨h1, h2, h3⟩ := mem_stepsF.1 hm
  have hp := hs.1.2 _ (nthR_mem h2)
  obtain ⟨a1, a2, a3⟩ := wordOk_iff.1 hw
  obtain ⟨b1, b2, b3⟩ := wordOk_iff.1 hp.1.1.2
  refine wordOk_iff.2 ⟨a1, Nat.le_trans (step_sizeW hs hm).1 a2, fun y hy => ?_⟩
  unfold applyF at hy
  rw [replF_list] at hy
  rcases List.mem_append.1 hy with hy | hy
  · exact a3 y ((List.take_sublist _ _).subset hy)
  rcases List.mem_append.1 hy with hy | hy
  · exact b3 y hy
  · exact a3 y ((List.drop_sublist _ _).subset hy)
theorem NormIs.exW {k : Int} {R : List RulD} (hs : sysW k R) : ∀ (n : Nat) (w : ByteArray), rk w.data.toList < n → wordOkB k w = true → ∃ x, NormIs R w x ∧ wordOkB k x = true
  | 0, w, h, _ => by omega
  | n + 1, w, h, hw => by
    cases hh : (stepsF R w).head? with
    | none => exact ⟨w, .done hh, hw⟩
    | some s =>
      have hm := head_mem hh
      have h1 := step_lessW hs hm
      obtain ⟨x, hx, hx2⟩ := NormIs.exW hs n (applyF R w s) (by omega) (step_wordW hs hw hm)
      exact ⟨x, .step hh hx, hx2⟩
theorem NormIs.wordW {k : Int} {R : List RulD} (hs : sysW k R) {w x : ByteArray} (h : NormIs R w x) (hw : wordOkB k w = true) : wordOkB k x = true := by
  obtain ⟨y, h1, h2⟩ := NormIs.exW hs _ w (Nat.lt_succ_self _) hw
  rw [h.uniq h1]; exact h2
end Go.Proofs.YtgoeadgpbidgiaaGreatDoor
namespace Go.Proofs.YtgoeadgpbidgiaaGreatDoor
open Go.RowKit
set_option linter.unusedVariables false
theorem ltW_wt {u v : List UInt8} (h : ltW u v = true) : wt u < wt v := by
  unfold ltW at h
  rcases of_decide_eq_true h with h | ⟨h1, h2⟩
  · exact wt_short h
  · exact wt_lex h1 h2
theorem wt_ltW {u v : List UInt8} (h : wt u < wt v) : ltW u v = true := by
  cases h1 : ltW u v
  · cases h2 : ltW v u
    · obtain rfl := ltW_total h1 h2
      omega
    · have := ltW_wt h2
      omega
  · rfl
theorem wt_lessS {a b : ByteArray} (h : wt a.data.toList < wt b.data.toList) : lessS a b = true := wt_ltW h
theorem lessS_size {a b : ByteArray} (h : lessS a b = true) : a.size ≤ b.size := by
  have := wt_len (lessS_wt h)
  exact this
theorem sysW_dwn {k : Int} {R : List RulD} (hs : sysW k R) : Dwn (SR R) := by
  rintro _ _ ⟨p, hp, rfl, rfl⟩
  exact lessS_wt (hs.2 p hp)
theorem sysW_ne {k : Int} {R : List RulD} (hs : sysW k R) : ∀ r ∈ R, r.1.size ≠ 0 := fun r hr => (hs.1.2 r hr).2
theorem nfC_is {k : Int} {R : List RulD} (hs : sysW k R) {u : ByteArray} (hw : wordOkB k u = true) : NormIs R u (nfC R u) := by
  obtain ⟨x, hx, _⟩ := NormIs.exW hs _ u (Nat.lt_succ_self _) hw
  rw [nfC_eq hx]; exact hx
theorem nfC_word {k : Int} {R : List RulD} (hs : sysW k R) {u : ByteArray} (hw : wordOkB k u = true) : wordOkB k (nfC R u) = true := (nfC_is hs hw).wordW hs hw
theorem nfC_red {k : Int} {R : List RulD} (hs : sysW k R) {u : ByteArray} (hw : wordOkB k u = true) : Nf (SR R) u.data.toList (nfC R u).data.toList := norm_nf (sysW_ne hs) (nfC_is hs hw)
theorem nfC_le {k : Int} {R : List RulD} (hs : sysW k R) {u : ByteArray} (hw : wordOkB k u = true) : wt (nfC R u).data.toList ≤ wt u.data.toList := (nfC_red hs hw).1.le (sysW_dwn hs)
/-- l lies somewhere in w -/
def hasB (w l : ByteArray) : Bool := !(placesF w l).isEmpty
theorem hasB_iff {w l : ByteArray} (hl : l.size ≠ 0) : hasB w l = true ↔ ∃ x y, w.data.toList = x ++ (l.data.toList ++ y) := by
  unfold hasB
  rw [Bool.not_eq_true', List.isEmpty_eq_false_iff]
  constructor
  · intro h
    obtain ⟨i, hi⟩ := List.exists_mem_of_ne_nil _ h
    obtain ⟨_, h2⟩ := mem_places.1 hi
    exact ⟨_, _, split_at h2⟩
  · rintro ⟨x, y, h⟩ he
    have e1 : w.data.toList.length = w.size := rfl
    have e2 : l.data.toList.length = l.size := rfl
    have h2 : x.length ∈ placesF w l := by
      rw [mem_places]
      rw [h] at e1
      simp only [List.length_append] at e1
      refine ⟨by omega, ?_⟩
      unfold preAt
      rw [h, List.drop_left, List.isPrefixOf_iff_prefix]
      exact List.prefix_append _ _
    rw [he] at h2
    cases h2
/-- the rules that are kept beside a new left side, and those that are not -/
def keptF (R : List RulD) (x : ByteArray) : List RulD := R.filter fun p => !hasB p.1 x
def goneF (R : List RulD) (x : ByteArray) : List RulD := R.filter fun p => hasB p.1 x
def allF (R : List RulD) (r : RulD) : List RulD := keptF R r.1 ++ [r]
noncomputable def mapF (R : List RulD) (r : RulD) (l : List RulD) : List RulD := l.map fun p => (p.1, nfC (allF R r) p.2)
noncomputable def nextF (R : List RulD) (r : RulD) : List RulD := mapF R r (keptF R r.1) ++ [r]
/-- the sides of the pairs with the last rule -/
def lastP (N : List RulD) (p : PairD) : Bool := decide (p.2.1 = N.length - 1) || decide (p.2.2.1 = N.length - 1)
def sidesF (N : List RulD) (p : PairD) : RulD := (leftP N p, rightP N p)
def newQ (N : List RulD) : List RulD := ((pairsF N).filter (lastP N)).map (sidesF N)
/-- the rule that an equation of two words is made into -/
def orF2 (a b : ByteArray) : RulD := if lessS a b = true then (b, a) else (a, b)
/-- what a turn is: its code, the rules, the equations and the turns behind it -/
noncomputable def turnF (R Q : List RulD) (T : Nat) : Nat × List RulD × List RulD × Nat :=
  match Q with
  | [] => (0, R, [], T)
  | q :: Qt =>
    if T = 200 then (3, R, q :: Qt, T)
    else if nfC R q.1 = nfC R q.2 then (0, R, Qt, T + 1)
    else if 8 < (orF2 (nfC R q.1) (nfC R q.2)).1.size then (1, R, q :: Qt, T)
    else if 12 < (nextF R (orF2 (nfC R q.1) (nfC R q.2))).length then (2, R, q :: Qt, T)
    else if 400 < (Qt ++ goneF R (orF2 (nfC R q.1) (nfC R q.2)).1 ++ newQ (nextF R (orF2 (nfC R q.1) (nfC R q.2)))).length then (2, R, q :: Qt, T)
    else (0, nextF R (orF2 (nfC R q.1) (nfC R q.2)), Qt ++ goneF R (orF2 (nfC R q.1) (nfC R q.2)).1 ++ newQ (nextF R (orF2 (nfC R q.1) (nfC R q.2))), T + 1)
/-- rules, equations and turns that a completion may go on from -/
structure WorkP (k : Int) (R Q : List RulD) (T : Nat) : Prop where
  sys : sysP k R
  few : Q.length ≤ 400
  word : ∀ q ∈ Q, wordOkB k q.1 = true ∧ wordOkB k q.2 = true
  turns : T ≤ 200
theorem orF2_less {a b : ByteArray} (h : a ≠ b) : lessS (orF2 a b).2 (orF2 a b).1 = true := by
  unfold orF2
  split
  · assumption
  · rename_i h1
    cases h2 : lessS b a
    · have e := ltW_total (Bool.not_eq_true _ ▸ h1 : ltW (blW a) (blW b) = false) h2
      exact absurd (ba_lists e) h
    · rfl
theorem orF2_cases (a b : ByteArray) : orF2 a b = (b, a) ∨ orF2 a b = (a, b) := by
  unfold orF2
  split
  · exact .inl rfl
  · exact .inr rfl
/-- what is known of a rule that a turn makes -/
structure NewR (k : Int) (r : RulD) : Prop where
  left : wordOkB k r.1 = true
  right : wordOkB k r.2 = true
  less : lessS r.2 r.1 = true
  short : r.1.size ≤ 8
theorem less_ne {a b : ByteArray} (h : lessS a b = true) : b.size ≠ 0 := by
  intro h0
  have e : b.data.toList = [] := List.eq_nil_of_length_eq_zero h0
  have := lessS_wt h
  rw [e] at this
  simp [wt, wtL] at this
theorem NewR.rule {k : Int} {r : RulD} (h : NewR k r) : ruleP k r := ⟨⟨⟨h.left, h.right⟩, h.short, Nat.le_trans (lessS_size h.less) h.short⟩, less_ne h.less⟩
theorem allF_sys {k : Int} {R : List RulD} (hs : sysP k R) {r : RulD} (hr : NewR k r) : sysW k (allF R r) := by
  have key : ∀ p ∈ allF R r, p ∈ R ∨ p = r := fun p hp => by
    rcases List.mem_append.1 hp with hp | hp
    · exact .inl ((List.mem_filter.1 hp).1)
    · exact .inr (List.mem_singleton.1 hp)
  refine ⟨⟨hs.1.1.1, fun p hp => ?_⟩, fun p hp => ?_⟩
  · rcases key p hp with h | rfl
    · exact hs.1.2 p h
    · exact hr.rule
  · rcases key p hp with h | rfl
    · exact hs.2 p h
    · exact hr.less
theorem allF_len {k : Int} {R : List RulD} (hs : sysP k R) (r : RulD) : (allF R r).length ≤ 13 := by
  unfold allF keptF
  have h1 := List.length_filter_le (fun p : RulD => !hasB p.1 r.1) R
  have h2 := hs.1.1.2
  rw [List.length_append, List.length_singleton]
  omega
theorem nextF_mem {R : List RulD} {r : RulD} {p : RulD} : p ∈ nextF R r ↔ (∃ q ∈ keptF R r.1, p = (q.1, nfC (allF R r) q.2)) ∨ p = r := by
  unfold nextF mapF
  rw [List.mem_append, List.mem_map, List.mem_singleton]
  constructor
  · rintro (⟨q, h1, h2⟩ | h)
    · exact .inl ⟨q, h1, h2.symm⟩
    · exact .inr h
  · rintro (⟨q, h1, h2⟩ | h)
    · exact .inl ⟨q, h1, h2.symm⟩
    · exact .inr h
theorem nextF_len (R : List RulD) (r : RulD) : (nextF R r).length = (keptF R r.1).length + 1 := by
  unfold nextF mapF
  rw [List.length_append, List.length_map, List.length_singleton]
theorem nextF_weak {k : Int} {R : List RulD} (hs : sysP k R) {r : RulD} (hr : NewR k r) : sysW k (nextF R r) := by
  have ha := allF_sys hs hr
  have key : ∀ p ∈ nextF R r, ruleP k p ∧ lessS p.2 p.1 = true := fun p hp => by
    rcases nextF_mem.1 hp with ⟨q, hq, rfl⟩ | rfl
    · have hq2 := (List.mem_filter.1 hq).1
      have h1 := hs.1.2 q hq2
      have h2 := nfC_le ha h1.1.1.2
      have h3 := lessS_wt (hs.2 q hq2)
      have h4 : lessS (nfC (allF R r) q.2) q.1 = true := wt_lessS (by omega)
      exact ⟨⟨⟨⟨h1.1.1.1, nfC_word ha h1.1.1.2⟩, h1.1.2.1, Nat.le_trans (lessS_size h4) h1.1.2.1⟩, h1.2⟩, h4⟩
    · exact ⟨hr.rule, hr.less⟩
  exact ⟨⟨hs.1.1.1, fun p hp => (key p hp).1⟩, fun p hp => (key p hp).2⟩
theorem nextF_sys {k : Int} {R : List RulD} (hs : sysP k R) {r : RulD} (hr : NewR k r) (hl : ¬ 12 < (nextF R r).length) : sysP k (nextF R r) :=
  ⟨⟨⟨hs.1.1.1, by omega⟩, (nextF_weak hs hr).1.2⟩, (nextF_weak hs hr).2⟩
theorem sides_word {k : Int} {N : List RulD} (hs : sysP k N) {p : PairD} (hp : p ∈ pairsF N) : wordOkB k (sidesF N p).1 = true ∧ wordOkB k (sidesF N p).2 = true := by
  have h := pairOk hs hp
  exact ⟨step_word hs h.word h.one, step_word hs h.word h.two⟩
theorem newQ_word {k : Int} {N : List RulD} (hs : sysP k N) : ∀ q ∈ newQ N, wordOkB k q.1 = true ∧ wordOkB k q.2 = true := fun q hq => by
  obtain ⟨p, hp, rfl⟩ := List.mem_map.1 hq
  exact sides_word hs ((List.mem_filter.1 hp).1)
theorem orF2_new {k : Int} {R : List RulD} (hs : sysP k R) {q : RulD} (hq : wordOkB k q.1 = true ∧ wordOkB k q.2 = true) (hne : ¬ nfC R q.1 = nfC R q.2) (h8 : ¬ 8 < (orF2 (nfC R q.1) (nfC R q.2)).1.size) : NewR k (orF2 (nfC R q.1) (nfC R q.2)) := by
  have h1 := nfC_word hs.weak hq.1
  have h2 := nfC_word hs.weak hq.2
  have h3 := orF2_less hne
  rcases orF2_cases (nfC R q.1) (nfC R q.2) with e | e <;> rw [e] at h3 h8 ⊢
  · exact ⟨h2, h1, h3, by omega⟩
  · exact ⟨h1, h2, h3, by omega⟩
/-- a turn that ends well leaves what a completion may go on from -/
theorem WorkP.turn {k : Int} {R Q : List RulD} {T : Nat} (h : WorkP k R Q T) (hc : (turnF R Q T).1 = 0) : WorkP k (turnF R Q T).2.1 (turnF R Q T).2.2.1 (turnF R Q T).2.2.2 := by
  cases Q with
  | nil => exact h
  | cons q Qt =>
    have hq := h.word q List.mem_cons_self
    have hf := h.few
    simp only [List.length_cons] at hf
    have ht := h.turns
    unfold turnF at hc ⊢
    simp only at hc ⊢
    by_cases c1 : T = 200
    · rw [if_pos c1] at hc; cases hc
    rw [if_neg c1] at hc ⊢
    by_cases c2 : nfC R q.1 = nfC R q.2
    · rw [if_pos c2]
      exact ⟨h.sys, by show Qt.length ≤ 400; omega, fun p hp => h.word p (List.mem_cons_of_mem _ hp), by show T + 1 ≤ 200; omega⟩
    rw [if_neg c2] at hc ⊢
    by_cases c3 : 8 < (orF2 (nfC R q.1) (nfC R q.2)).1.size
    · rw [if_pos c3] at hc; cases hc
    rw [if_neg c3] at hc ⊢
    by_cases c4 : 12 < (nextF R (orF2 (nfC R q.1) (nfC R q.2))).length
    · rw [if_pos c4] at hc; cases hc
    rw [if_neg c4] at hc ⊢
    by_cases c5 : 400 < (Qt ++ goneF R (orF2 (nfC R q.1) (nfC R q.2)).1 ++ newQ (nextF R (orF2 (nfC R q.1) (nfC R q.2)))).length
    · rw [if_pos c5] at hc; cases hc
    rw [if_neg c5]
    have hr := orF2_new h.sys hq c2 c3
    have hs2 := nextF_sys h.sys hr c4
    refine ⟨hs2, Nat.not_lt.1 c5, fun p hp => ?_, by show T + 1 ≤ 200; omega⟩
    rcases List.mem_append.1 hp with hp | hp
    · rcases List.mem_append.1 hp with hp | hp
      · exact h.word p (List.mem_cons_of_mem _ hp)
      · exact (h.sys.1.2 p ((List.mem_filter.1 hp).1)).1.1
    · exact newQ_word hs2 p hp
/-- a completion: turns one after the other, until no equation is left or a turn fails -/
inductive RunIs : List RulD → List RulD → Nat → Nat → List RulD → List RulD → Nat → Prop
  | done {R : List RulD} {T : Nat} : RunIs R [] T 0 R [] T
  | fail {R Q : List RulD} {T : Nat} : Q ≠ [] → (turnF R Q T).1 ≠ 0 → RunIs R Q T (turnF R Q T).1 R Q T
  | step {R Q : List RulD} {T c : Nat} {R' Q' : List RulD} {T' : Nat} : Q ≠ [] → (turnF R Q T).1 = 0 → RunIs (turnF R Q T).2.1 (turnF R Q T).2.2.1 (turnF R Q T).2.2.2 c R' Q' T' → RunIs R Q T c R' Q' T'
theorem RunIs.uniq {R Q : List RulD} {T c1 c2 : Nat} {R1 R2 Q1 Q2 : List RulD} {T1 T2 : Nat} (a : RunIs R Q T c1 R1 Q1 T1) (b : RunIs R Q T c2 R2 Q2 T2) : c1 = c2 ∧ R1 = R2 ∧ Q1 = Q2 ∧ T1 = T2 := by
  induction a generalizing c2 R2 Q2 T2 with
  | done =>
    cases b with
    | done => exact ⟨rfl, rfl, rfl, rfl⟩
    | fail h _ => exact absurd rfl h
    | step h _ _ => exact absurd rfl h
  | fail h1 h2 =>
    cases b with
    | done => exact absurd rfl h1
    | fail _ _ => exact ⟨rfl, rfl, rfl, rfl⟩
    | step _ h3 _ => exact absurd h3 h2
  | step h1 h2 _ ih =>
    cases b with
    | done => exact absurd rfl h1
    | fail _ h3 => exact absurd h2 h3
    | step _ _ b => exact ih b
end Go.Proofs.YtgoeadgpbidgiaaGreatDoor
namespace Go.Proofs.YtgoeadgpbidgiaaGreatDoor
open Go.RowKit
set_option linter.unusedVariables false
/-- the elements of the letters -/
structure ImgP (R : List RulD) (L : List ByteArray) (kn : Nat) (zn : List Nat) : Prop where
  len : zn.length = kn
  img : ∀ j, j < kn → zn.getD j 0 < L.length ∧ NormIs R (letterN j) (nthS L (zn.getD j 0))
section
variable {kn : Nat} {R : List RulD} {L : List ByteArray} {ln zn : List Nat}
theorem ImgP.lt (h : ImgP R L kn zn) : ∀ x ∈ zn, x < L.length := fun x hx => by
  obtain ⟨i, hi, rfl⟩ := List.getElem_of_mem hx
  have := (h.img i (by rw [← h.len]; exact hi)).1
  rw [List.getD_eq_getElem?_getD, List.getElem?_eq_getElem hi] at this
  exact this
theorem letterN_lt (j : Nat) : (letterN j).data.toList = [lt97 j] := rfl
theorem nf_fold (h : MonG (kn : Int) R L ln) (hne : ∀ r ∈ R, r.1.size ≠ 0) (hz : ImgP R L kn zn) (hk : kn ≤ 4) : ∀ (v p : List UInt8) (x : Nat), x < L.length → Nf (SR R) p (nthS L x).data.toList → okLt (kn : Int) v →
    v.foldl (fun x c => tm L.length ln x (imN zn c)) x < L.length ∧ Nf (SR R) (p ++ v) (nthS L (v.foldl (fun x c => tm L.length ln x (imN zn c)) x)).data.toList
  | [], p, x, hx, hp, hv => ⟨hx, by rw [List.append_nil]; exact hp⟩
  | c :: v, p, x, hx, hp, hv => by
    obtain ⟨j, hj, rfl⟩ := let_lt97 hv c List.mem_cons_self
    have hj97 : (lt97 j).toNat = 97 + j := by unfold lt97; simp; omega
    have him : imN zn (lt97 j) = zn.getD j 0 := by unfold imN; rw [hj97, Nat.add_sub_cancel_left]
    obtain ⟨z1, z2⟩ := hz.img j hj
    obtain ⟨a1, a2⟩ := h.prod x _ hx z1
    have n2 := norm_nf hne z2
    have n3 := norm_nf hne a2
    rw [ByteArray.data_append, Array.toList_append] at n3
    rw [letterN_lt] at n2
    have hp2 : Nf (SR R) (p ++ [lt97 j]) (nthS L (tm L.length ln x (zn.getD j 0))).data.toList := by
      refine ⟨?_, n3.2⟩
      have h1 := hp.1.ctx [] [lt97 j]
      simp only [List.nil_append] at h1
      have h2 := n2.1.ctx (nthS L x).data.toList []
      simp only [List.append_nil] at h2
      exact (h1.trans h2).trans n3.1
    rw [List.foldl_cons, him]
    have := nf_fold h hne hz hk v (p ++ [lt97 j]) _ a1 hp2 (fun y hy => hv y (List.mem_cons_of_mem _ hy))
    rw [List.append_assoc] at this
    exact this
theorem nf_nil (h : MonG (kn : Int) R L ln) : Nf (SR R) [] (nthS L 0).data.toList := by
  have h2 := ((h.mem _).1 (nth_mem h.pos)).2
  rw [h.head] at h2 ⊢
  exact ⟨.refl _, h2⟩
theorem valF_fold (m : Nat) (ln zn : List Nat) (u : ByteArray) : valF m ln zn u = u.data.toList.foldl (fun x c => tm m ln x (imN zn c)) 0 := by
  have e2 : u.data.toList.take u.size = u.data.toList := List.take_of_length_le (Nat.le_of_eq rfl)
  unfold valF valTo
  rw [e2]
theorem nf_val (h : MonG (kn : Int) R L ln) (hne : ∀ r ∈ R, r.1.size ≠ 0) (hz : ImgP R L kn zn) (hk : kn ≤ 4) {u : ByteArray} (hu : okLt (kn : Int) u.data.toList) :
    valF L.length ln zn u < L.length ∧ Nf (SR R) u.data.toList (nthS L (valF L.length ln zn u)).data.toList := by
  have := nf_fold h hne hz hk u.data.toList [] 0 h.pos (nf_nil h) hu
  rw [← valF_fold] at this
  exact this
theorem same_nf (h : MonG (kn : Int) R L ln) (hc : ComplP (kn : Int) R) {p q : Nat} {u : List UInt8} (hp : p < L.length) (hq : q < L.length) (a : Nf (SR R) u (nthS L p).data.toList) (b : Nf (SR R) u (nthS L q).data.toList) : p = q :=
  nodup_nth h.nd hp hq (ba_lists (Nf.uniq (sys_dwn hc.1) (comp_crit hc) _ u (Nat.lt_succ_self _) _ _ a b))
theorem val_word (h : MonG (kn : Int) R L ln) (hc : ComplP (kn : Int) R) (hz : ImgP R L kn zn) (hk : kn ≤ 4) {i : Nat} (hi : i < L.length) : valF L.length ln zn (nthS L i) = i := by
  obtain ⟨h1, h2⟩ := (h.mem _).1 (nth_mem hi)
  obtain ⟨a, b⟩ := nf_val h (sys_ne hc.1.1) hz hk h1
  exact same_nf h hc a hi b ⟨.refl _, h2⟩
theorem mon_fit (h : MonG (kn : Int) R L ln) (hc : ComplP (kn : Int) R) (hz : ImgP R L kn zn) (hk : kn ≤ 4) : fitP L.length ln zn R := fun r hr => by
  have hw := (hc.1.1.2 r hr).1.1
  have o1 := (wordOk_iff.1 hw.1).2.2
  have o2 := (wordOk_iff.1 hw.2).2.2
  obtain ⟨a1, b1⟩ := nf_val h (sys_ne hc.1.1) hz hk o1
  obtain ⟨a2, b2⟩ := nf_val h (sys_ne hc.1.1) hz hk o2
  refine same_nf h hc a1 a2 b1 ⟨?_, b2.2⟩
  exact (Red.one (Stp.rule ⟨r, hr, rfl, rfl⟩)).trans b2.1
theorem mon_fai (h : MonG (kn : Int) R L ln) (hc : ComplP (kn : Int) R) (hz : ImgP R L kn zn) {P : List Int} (hP : P = ln.map Int.ofNat) (hm : MonIs (kn : Int) R L P true) : faiP (kn : Int) R (L.length : Nat) P (zn.map Int.ofNat) := by
  subst hP
  have hk : 1 ≤ kn ∧ kn ≤ 4 := by have := hc.1.1.1.1; omega
  have e1 : (ln.map Int.ofNat).map Int.toNat = ln := by rw [List.map_map]; conv => rhs; rw [← List.map_id ln]
                                                        rfl
  have e2 : (zn.map Int.ofNat).map Int.toNat = zn := by rw [List.map_map]; conv => rhs; rw [← List.map_id zn]
                                                        rfl
  have ht : tabB ((L.length : Nat) : Int) (ln.map Int.ofNat) = true := TabG.tab ⟨ln, rfl, h.tab hc⟩
  have hlen : (((zn.map Int.ofNat).length : Nat) : Int) = (kn : Int) := by rw [List.length_map, hz.len]
  have hi : inB (((zn.map Int.ofNat).length : Nat) : Int) 1 4 = true := by rw [hlen]; simp [inB]; omega
  refine ⟨L, _, hm, ⟨⟨⟨hc.1.1, ?_⟩, hlen⟩, ?_⟩, ?_⟩
  · rw [imgB_yes ht hi]
    unfold rngB
    rw [List.all_eq_true]
    intro x hx
    obtain ⟨y, hy, rfl⟩ := List.mem_map.1 hx
    have := hz.lt y hy
    simp [inB]; omega
  · rw [e1, e2, Int.toNat_natCast]; exact mon_fit h hc hz hk.2
  · rw [e1, e2, Int.toNat_natCast]
    have e3 : valsF L.length ln zn L = (List.range L.length).map Int.ofNat := by
      unfold valsF
      apply List.ext_getElem (by simp)
      intro i h1 h2
      simp only [List.length_map] at h1
      have := val_word h hc hz hk.2 h1
      rw [nthS_lt h1] at this
      simp [this]
    rw [e3]
    exact List.Pairwise.map _ (fun a b hab e => hab (Int.ofNat.inj e)) List.nodup_range
/-- a word that is not greater than the least one is it -/
theorem mon_least (h : MonG (kn : Int) R L ln) (hc : ComplP (kn : Int) R) (hz : ImgP R L kn zn) (hk : kn ≤ 4) {i : Nat} (hi : i < L.length) {u : ByteArray} (hu : okLt (kn : Int) u.data.toList) (hv : valF L.length ln zn u = i) (hr : rk u.data.toList ≤ rk (nthS L i).data.toList) : u = nthS L i := by
  obtain ⟨a, b⟩ := nf_val h (sys_ne hc.1.1) hz hk hu
  rw [hv] at b
  have h1 := ((h.mem _).1 (nth_mem hi)).1
  have lw : ∀ {v : List UInt8}, okLt (kn : Int) v → LW v := fun {v} hv y hy => by
    have := hv y hy
    unfold letB at this
    have := inB_bounds this
    omega
  rcases Nat.lt_or_ge (wt (nthS L i).data.toList) (wt u.data.toList) with hlt | hge
  · have := rk_less (lw h1) (lw hu) (wt_ltW hlt)
    omega
  · have hd := sys_dwn hc.1
    have key : ∀ {x y : List UInt8}, Red (SR R) x y → x = y ∨ wt y < wt x := fun h => by
      cases h with
      | refl => exact .inl rfl
      | step s t => exact .inr (Nat.lt_of_le_of_lt (t.le hd) (hd.stp s))
    rcases key b.1 with e | e
    · exact ba_lists e
    · omega
end
end Go.Proofs.YtgoeadgpbidgiaaGreatDoor
