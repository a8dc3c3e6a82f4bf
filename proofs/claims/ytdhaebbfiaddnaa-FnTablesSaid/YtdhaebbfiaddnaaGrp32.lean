/-
  What FnTables asks: an idempotent among the powers, and the counts of a product.
-/
import Derived.Test.YtdhaebbfiaddnaaGrp27
import Derived.Maps.OwnSet
import Derived.Test.YtdhaebbfiaddnaaGrp28
import Derived.Test.YtdhaebbfiaddnaaGrp29
import Derived.Test.YtdhaebbfiaddnaaGrp24
import Derived.Test.YtdhaebbfiaddnaaGrp25
namespace Go.Proofs.Ytdhaebbfiaddnaa
open Go.RowKit Go.Maps Go.WideShapes
set_option linter.unusedVariables false
def keyI (x : Nat) : Lit := .int .i64 (x : Int)
theorem keyI_inj {a b : Nat} (h : keyI a = keyI b) : a = b := by
  unfold keyI at h
  have h2 : (a : Int) = (b : Int) := by simpa using h
  omega
theorem keyI_same {a b : Nat} : (keyI a).sameKey (keyI b) = true ↔ a = b := by
  unfold keyI Lit.sameKey
  constructor
  · intro h; simp at h; omega
  · intro h; subst h; simp
def encI (f : Nat → Nat) (d : Nat) : Lit × DataW Unit := (keyI (f d), .lit (.int .i64 (d : Int)))
/-- the map holds the first n values -/
def IdxD (f : Nat → Nat) (n : Nat) (D : DataW Unit) : Prop := ∃ es, D = .map es ∧ es.Perm ((List.range n).map (encI f))
theorem IdxD.start (f : Nat → Nat) : IdxD f 0 (.map []) := ⟨[], rfl, .refl _⟩
theorem IdxD.size {f : Nat → Nat} {n : Nat} {D : DataW Unit} (h : IdxD f n D) : Maps.size D = n := by
  obtain ⟨es, rfl, hp⟩ := h
  rw [Maps.size_eq, hp.length_eq, List.length_map, List.length_range]
theorem IdxD.has {f : Nat → Nat} {n x : Nat} {D : DataW Unit} (h : IdxD f n D) : Maps.has D (keyI x) = true ↔ ∃ d, d < n ∧ f d = x := by
  obtain ⟨es, rfl, hp⟩ := h
  rw [has_eq, List.any_eq_true]
  constructor
  · rintro ⟨q, hq, hs⟩
    obtain ⟨d, hd, rfl⟩ := List.mem_map.1 (hp.mem_iff.1 hq)
    exact ⟨d, List.mem_range.1 hd, keyI_same.1 hs⟩
  · rintro ⟨d, hd, rfl⟩
    exact ⟨encI f d, hp.mem_iff.2 (List.mem_map.2 ⟨d, List.mem_range.2 hd, rfl⟩), keyI_same.2 rfl⟩
theorem IdxD.at {f : Nat → Nat} {n d : Nat} {D : DataW Unit} (h : IdxD f n D) (hd : d < n) (hi : ∀ j, j < n → f j = f d → j = d) (z : DataW Unit) : D.atKey (keyI (f d)) z = .lit (.int .i64 (d : Int)) := by
  obtain ⟨es, rfl, hp⟩ := h
  have hm := hp.mem_iff.2 (List.mem_map.2 ⟨d, List.mem_range.2 hd, rfl⟩)
  unfold DataW.atKey
  simp only []
  cases hf : es.find? (fun p => p.1.sameKey (keyI (f d))) with
  | none => exact absurd (keyI_same.2 rfl) ((List.find?_eq_none.1 hf) _ hm)
  | some q =>
    have h1 := List.find?_some hf
    obtain ⟨j, hj, rfl⟩ := List.mem_map.1 (hp.mem_iff.1 (List.mem_of_find?_eq_some hf))
    have := hi j (List.mem_range.1 hj) (keyI_same.1 h1)
    subst this
    rfl
theorem IdxD.put {f : Nat → Nat} {n : Nat} {D : DataW Unit} (h : IdxD f n D) (hn : ∀ d, d < n → f d ≠ f n) : IdxD f (n + 1) (D.put (keyI (f n)) (.lit (.int .i64 (n : Int)))) := by
  obtain ⟨es, rfl, hp⟩ := h
  have hfil : es.filter (fun p => !p.1.sameKey (keyI (f n))) = es := by
    rw [List.filter_eq_self]
    intro p hpm
    obtain ⟨d, hd, rfl⟩ := List.mem_map.1 (hp.mem_iff.1 hpm)
    rw [Bool.not_eq_true', Bool.eq_false_iff]
    exact fun e => hn d (List.mem_range.1 hd) (keyI_same.1 e)
  refine ⟨_, rfl, (insert_perm _ _).trans ?_⟩
  rw [hfil, List.range_succ, List.map_append]
  exact ((hp.cons _).trans (List.perm_append_singleton _ _).symm)
/-- no value came twice before the first that came again -/
theorem rep_apart {m : Nat} {ln : List Nat} (h : Tb m ln) {i : Nat} (hi : i < m) {n d : Nat} (hn : n < repN m ln i) (hd : d < n) : pw m ln i d ≠ pw m ln i n := fun e => by
  have h1 := h.repN_min hi hn
  have h2 : repB m ln i n = true := repB_iff.2 ⟨d, hd, e⟩
  rw [h1] at h2
  cases h2
theorem rep_at {m : Nat} {ln : List Nat} (h : Tb m ln) {i : Nat} (hi : i < m) {d : Nat} (hd : d < repN m ln i) (e : pw m ln i d = pw m ln i (repN m ln i)) : d = repK m ln i := by
  obtain ⟨h1, h2, h3⟩ := h.repK_spec hi
  rcases Nat.lt_trichotomy d (repK m ln i) with h4 | h4 | h4
  · exact absurd e (h3 d h4)
  · exact h4
  · exact absurd (h2.trans e.symm) (rep_apart h hi hd h4)
end Go.Proofs.Ytdhaebbfiaddnaa
namespace Go.Proofs.Ytdhaebbfiaddnaa
open Go.RowKit Go.Maps Go.WideMaps
set_option linter.unusedVariables false
theorem keyedI : Keyed Try.prog 3 := int_keyed Try.underlying3
theorem wfN {x : Nat} (h : x ≤ 40) : (Lit.int .i64 ((x : Nat) : Int)).wf = true := by
  have h3 : IntKind.i64.min = -9223372036854775808 := by decide
  have h4 : IntKind.i64.max = 9223372036854775807 := by decide
  simp only [Lit.wf, h3, h4, Bool.and_eq_true, decide_eq_true_eq]; omega
theorem keyOkI {x : Nat} (h : x ≤ 40) : keyOf Try.prog 3 (.int .i64 ((x : Nat) : Int)) = some (keyI x) := keyOf_int_mk Try.underlying3 (wfN h)
theorem zeroIntI (w : World) : (zeroValue 3).run Try.prog w = .ok (.int .i64 0) w := by kernel_rfl
abbrev OwnI (w : World) (b m : Nat) (D : DataW Unit) : Prop := w.ownsMap Try.prog 3 (plainElem (H := Unit) Try.prog 3) b m D
theorem belowGrownI {w w' : World} (h : Below w.heap.size w w') : w.grownBy w' none := ⟨h.os, h.tape, h.output, h.size, fun k hk _ => h.block k hk⟩
set_option maxRecDepth 20000 in
set_option maxHeartbeats 4000000 in
theorem implIndexPeriod_ok (m : Nat) (l : List Int) (a : Option Addr) (cap i : Nat) (w : World) (hl : IntsIn w a l) (hT : TabG m l) (hi : i < m) :
    Calls Try.prog 6 #[.agg #[.int .i64 (m : Nat), .slice a l.length cap], .int .i64 (i : Nat)] w fun e w' => e = .returned (.tuple #[.int .i64 ((repK m (l.map Int.toNat) i : Nat) : Int), .int .i64 ((repN m (l.map Int.toNat) i - repK m (l.map Int.toNat) i : Nat) : Int)]) ∧ Below w.heap.size w w' := by
  obtain ⟨hlen, hm1, hm2⟩ := hT.few
  have HB1 := Lib.hid (alloc_belI w (.cells #[.int .i64 (m : Nat), .slice a l.length cap] 25))
  have HX : Hid (∀ W, Below (w.alloc (.cells #[.int .i64 (m : Nat), .slice a l.length cap] 25)).heap.size (w.alloc (.cells #[.int .i64 (m : Nat), .slice a l.length cap] 25)) W → W.cell? ⟨w.heap.size, 0, none⟩ = some (.int .i64 (m : Nat)) ∧ W.cell? ⟨w.heap.size, 1, none⟩ = some (.slice a l.length cap)) := Lib.hid (fun W hW => ⟨by rw [hW.cell (by simp)]; simp, by rw [hW.cell (by simp)]; simp⟩)
  have HTO := Lib.hid (fun W (h : IntsIn W a l) => implTableOk_any (m : Nat) l a cap W h (by omega))
  rw [hT.tab] at HTO
  have HHI := Lib.hid (fun W => has_any m (i : Int) (.slice a l.length cap) W hm1 hm2)
  rw [in_has hi] at HHI
  have HTM := Lib.hid (fun i k W (h : IntsIn W a l) hi hk => implTimes_any m _ a l.length cap i k W (hT.nats.2.1 W a h) hT.nats.1.toTb hT.nats.2.2 hi hk)
  have HTB := Lib.hid hT.nats.1.toTb
  have HL := Lib.hid hl
  generalize hz : l.map Int.toNat = zn at *
  obtain ⟨hK1, hK2, hK3⟩ := HTB.out.repK_spec hi
  have hN := HTB.out.repN_le hi
  have HPL := Lib.hid (fun n => HTB.out.pw_lt hi n)
  have HAP := Lib.hid (fun n d (h1 : n < repN m zn i) (h2 : d < n) => rep_apart HTB.out hi h1 h2)
  have HAT := Lib.hid (fun d (h1 : d < repN m zn i) e => rep_at HTB.out hi h1 e)
  have HNX := Lib.hid (fun n => (pw_succ m zn i n).symm)
  have HK2 := Lib.hid hK2
  clear hl hT hz hK3 hK2
  generalize hNN : repN m zn i = N at *
  generalize hKK : repK m zn i = K at *
  clear hNN hKK
  have hs1 : w.heap.size < (w.alloc (.cells #[.int .i64 (m : Nat), .slice a l.length cap] 25)).heap.size := by simp
  have HS1 := Lib.hid hs1
  clear hs1
  have hmm := @run_makeMap Try.prog
  go_enter Try.func6, Try.ntmps6
  go_wp2_with fail
  generalize w.alloc (.cells #[.int .i64 (m : Nat), .slice a l.length cap] 25) = w1 at *
  refine (HTO.out _ (HL.out.later HB1.out)).mono ?_
  rintro e w2 ⟨rfl, hb2⟩
  have HB2 := Lib.hid hb2
  obtain ⟨z0, z1⟩ := HX.out _ hb2
  clear hb2
  go_wp2_with fail
  refine (HHI.out _).mono ?_
  rintro e w3 ⟨rfl, hb3⟩
  have HB3 := Lib.hid (Below.now HB2.out hb3)
  have hbm := World.ownsMap_made (H := Unit) w3 Try.prog 3 (plainElem (H := Unit) Try.prog 3)
  have HO := Lib.hid hbm
  have HBM := Lib.hid (Below.alloc HB3.out HB3.out.size (.map #[] 0))
  clear hb3 z0 z1 HB2 hbm
  go_wp2_with fail
  have HBL : Hid (w1.heap.size ≤ w3.heap.size) := Lib.hid HB3.out.size
  clear hmm HB3
  generalize w3.alloc (.map #[] 0) = w4 at *
  generalize w3.heap.size = b at *
  have hbn : w.heap.size ≠ b := by have := HS1.out; have := HBL.out; omega
  go_loopw [7, 8] (fun vn vx wr => ∃ (n : Nat) (D : DataW Unit), n ≤ N ∧ vn = .int .i64 (n : Nat) ∧ vx = .int .i64 ((pw m zn i n : Nat) : Int) ∧ Hid (OwnI wr b n D) ∧ Hid (IdxD (pw m zn i) n D) ∧ Hid (Below w1.heap.size w1 wr)) (fun vn _ _ => N - (intOf vn).toNat)
  case atStart => exact ⟨0, .map [], Nat.zero_le _, rfl, rfl, HO, Lib.hid (IdxD.start _), HBM⟩
  case round =>
    clear HO HBM
    obtain ⟨n, D, hn, rfl, rfl, HO, HD, HBR⟩ := hrel
    obtain ⟨z0, z1⟩ := HX.out _ HBR.out
    have hx := HPL.out n
    have hkey := keyOkI (show pw m zn i n ≤ 40 by omega)
    by_cases hnl : n < N
    · have hh : Maps.has D (keyI (pw m zn i n)) = false := by
        rw [Bool.eq_false_iff]
        intro h
        obtain ⟨d, hd, e⟩ := HD.out.has.1 h
        exact HAP.out n d hnl hd e
      have HD1 := Lib.hid (HD.out.put (fun d hd => HAP.out n d hnl hd))
      have hpl := plainElem_int (H := Unit) Try.underlying3 (wfN (show n ≤ 40 by omega))
      have hmx : n < maxLen := by unfold maxLen; omega
      have HNP := Lib.hid (HNX.out n)
      generalize pw m zn i n = x at *
      go_wp2_with (first
        | (at_lookup; refine wpList_lookup_own_ok_int _ rfl _ _ 44 rfl 3 3 .i64 keyedI Try.underlying44 Try.underlying3 (zeroIntI _) b _ D rfl HO.out _ _ rfl hkey ?_; rw [hh]; intro c1 hat1 hwc1; clear hat1 hwc1)
        | (at_mapUpdate; (refine wpList_mapUpdate_own _ rfl _ _ _ 44 rfl 3 3 keyedI Try.underlying44 (plainElem (H := Unit) Try.prog 3) b _ D rfl HO.out hmx _ _ _ rfl rfl hkey _ [] hpl ?_); intro w5 hown5 hgr5; have c0 : w5.cell? ⟨w.heap.size, 0, none⟩ = some (.int .i64 (m : Nat)) := hgr5.cell z0 (by simpa using hbn); have c1 : w5.cell? ⟨w.heap.size, 1, none⟩ = some (.slice a l.length cap) := hgr5.cell z1 (by simpa using hbn))
        | fail)
      have HB5 := Lib.hid (HBR.out.grown hgr5 HBR.out.size (fun k hk => by cases hk; exact HBL.out))
      have HO5 := Lib.hid hown5
      clear hown5 hgr5 hh hkey hpl hmx
      refine (HTM.out _ _ _ (HL.out.later (Below.now HB1.out HB5.out)) hx hi).mono ?_
      rintro e w6 ⟨rfl, hb6⟩
      rw [HNP.out]
      have HB6 := Lib.hid (Below.now HB5.out hb6)
      have HO6 := Lib.hid (HO5.out.kept (belowGrownI hb6) (by simp))
      clear hb6 c0 c1 z0 z1
      go_wp2_with fail
      go_roundw
      case rel => exact ⟨n + 1, _, by omega, by go_num, rfl, HO6, HD1, HB6⟩
      case measure => simp [intOf]; omega
    · obtain rfl : n = N := by omega
      have hh : Maps.has D (keyI (pw m zn i n)) = true := HD.out.has.2 ⟨K, hK1, HK2.out⟩
      have hat := HD.out.at hK1 (fun j hj e => HAT.out j hj (e.trans HK2.out)) (.lit (.int .i64 0))
      rw [HK2.out] at hat
      have F : Hid (Below w.heap.size w wr) := Lib.hid (Below.now HB1.out HBR.out)
      have hsub : IntKind.i64.wrap ((n : Int) - (K : Int)) = ((n - K : Nat) : Int) := by
        rw [show ((n : Int) - (K : Int)) = ((n - K : Nat) : Int) by omega]
        exact IntWalk.i64_in _ (by omega)
      have hsub2 : ((n : Int) - (K : Int)) = ((n - K : Nat) : Int) := by omega
      generalize pw m zn i n = x at *
      generalize hnk : n - K = p at *
      go_wp2_with (first
        | (at_lookup; refine wpList_lookup_own_ok_int _ rfl _ _ 44 rfl 3 3 .i64 keyedI Try.underlying44 Try.underlying3 (zeroIntI _) b _ D rfl HO.out _ _ rfl hkey ?_; rw [hh, hat]; intro c1 hat1 hwc1; obtain rfl : (K : Int) = c1 := (by simpa using hat1); clear hat1 hwc1)
        | fail)
      refine bodyPost_ret (v := .tuple #[.int .i64 (K : Nat), .int .i64 (p : Nat)]) ?_ rfl ⟨by rw [hnk], F.out⟩
      simp [results, Try.results6, go_sem]
end Go.Proofs.Ytdhaebbfiaddnaa
namespace Go.Proofs.Ytdhaebbfiaddnaa
open Go.RowKit
set_option linter.unusedVariables false
/-- commutative, in plain words -/
def comB (m : Nat) (ln : List Nat) : Bool := (List.range m).all (isCen m ln)
theorem comB_iff {m : Nat} {ln : List Nat} : comB m ln = true ↔ ∀ x y, x < m → y < m → tm m ln x y = tm m ln y x := by
  unfold comB isCen cenB
  rw [all_range]
  constructor
  · intro h x y hx hy; exact of_decide_eq_true (all_range.1 (h x hx) y hy)
  · intro h x hx; exact all_range.2 fun y hy => decide_eq_true (h x y hx hy)
end Go.Proofs.Ytdhaebbfiaddnaa
namespace Go.Proofs.Ytdhaebbfiaddnaa
open Go.RowKit
set_option linter.unusedVariables false
/-- the rows below c are those of a commutative table -/
def comTo (m : Nat) (ln : List Nat) (c : Nat) : Prop := ∀ x y, x < c → y < x → tm m ln x y = tm m ln y x
/-- and c's row up to d -/
def comRow (m : Nat) (ln : List Nat) (c d : Nat) : Prop := ∀ y, y < d → tm m ln c y = tm m ln y c
theorem comTo_succ {m : Nat} {ln : List Nat} {c : Nat} (h : comTo m ln c) (h2 : comRow m ln c c) : comTo m ln (c + 1) := fun x y hx hy => by
  by_cases e : x = c
  · subst e; exact h2 y hy
  · exact h x y (by omega) hy
theorem comTo_all {m : Nat} {ln : List Nat} (h : comTo m ln m) : comB m ln = true := comB_iff.2 fun x y hx hy => by
  rcases Nat.lt_trichotomy x y with h1 | h1 | h1
  · exact (h y x hy h1).symm
  · rw [h1]
  · exact h x y hx h1
theorem com_not {m : Nat} {ln : List Nat} {c d : Nat} (hc : c < m) (hd : d < m) (h : tm m ln c d ≠ tm m ln d c) : comB m ln = false := by
  cases e : comB m ln
  · rfl
  · exact absurd (comB_iff.1 e c d hc hd) h
set_option maxRecDepth 20000 in
set_option maxHeartbeats 4000000 in
theorem implIsCommutative_ok (m : Nat) (l : List Int) (a : Option Addr) (cap : Nat) (w : World) (hl : IntsIn w a l) (hT : TabG m l) :
    Calls Try.prog 10 #[.agg #[.int .i64 (m : Nat), .slice a l.length cap]] w fun e w' => e = .returned (.bool (comB m (l.map Int.toNat))) ∧ Below w.heap.size w w' := by
  obtain ⟨hlen, hm1, hm2⟩ := hT.few
  have HB1 := Lib.hid (alloc_belI w (.cells #[.int .i64 (m : Nat), .slice a l.length cap] 25))
  have HX : Hid (∀ W, Below (w.alloc (.cells #[.int .i64 (m : Nat), .slice a l.length cap] 25)).heap.size (w.alloc (.cells #[.int .i64 (m : Nat), .slice a l.length cap] 25)) W → W.cell? ⟨w.heap.size, 0, none⟩ = some (.int .i64 (m : Nat)) ∧ W.cell? ⟨w.heap.size, 1, none⟩ = some (.slice a l.length cap)) := Lib.hid (fun W hW => ⟨by rw [hW.cell (by simp)]; simp, by rw [hW.cell (by simp)]; simp⟩)
  have HTO := Lib.hid (fun W (h : IntsIn W a l) => implTableOk_any (m : Nat) l a cap W h (by omega))
  rw [hT.tab] at HTO
  have HTM := Lib.hid (fun i k W (h : IntsIn W a l) hi hk => implTimes_any m _ a l.length cap i k W (hT.nats.2.1 W a h) hT.nats.1.toTb hT.nats.2.2 hi hk)
  have HL := Lib.hid hl
  generalize hz : l.map Int.toNat = zn at *
  clear hl hT hz
  go_enter Try.func10, Try.ntmps10
  go_wp2_with fail
  generalize w.alloc (.cells #[.int .i64 (m : Nat), .slice a l.length cap] 25) = w1 at *
  refine (HTO.out _ (HL.out.later HB1.out)).mono ?_
  rintro e w2 ⟨rfl, hb2⟩
  have HB2 := Lib.hid hb2
  obtain ⟨z0, z1⟩ := HX.out _ hb2
  clear hb2
  go_wp2_with fail
  go_loopw [10] (fun i wr => ∃ c : Nat, c ≤ m ∧ i = .int .i64 (c : Nat) ∧ Hid (comTo m zn c) ∧ Below w1.heap.size w1 wr) (fun i _ => m - (intOf i).toNat)
  case atStart => exact ⟨0, Nat.zero_le _, rfl, Lib.hid (fun x y hx => absurd hx (Nat.not_lt_zero _)), HB2.out⟩
  case round =>
    clear z0 z1
    obtain ⟨c, hcm, rfl, HC, hbr⟩ := hrel
    have HBR := Lib.hid hbr
    obtain ⟨z0, z1⟩ := HX.out _ hbr
    clear hbr
    by_cases hc : c < m
    · go_wp2_with fail
      generalize hWR : wr = wr0 at *
      clear hWR z0 z1
      go_loopw [14] (fun i wr => ∃ d : Nat, d ≤ c ∧ i = .int .i64 (d : Nat) ∧ Hid (comRow m zn c d) ∧ Below w1.heap.size w1 wr) (fun i _ => c - (intOf i).toNat)
      case atStart => exact ⟨0, Nat.zero_le _, rfl, Lib.hid (fun y hy => absurd hy (Nat.not_lt_zero _)), HBR.out⟩
      case round =>
        obtain ⟨d, hdc, rfl, HD, hbr⟩ := hrel
        have HBI := Lib.hid hbr
        clear hbr
        by_cases hdl : d < c
        · have hd : d < m := by omega
          go_upto_region 9 with fail
          refine region_each (fun W => Below wr.heap.size wr W) (fun W W2 => Below W.heap.size W W2) (fun u => by simp only [fPut, Act.put, List.setIfInBounds_toArray, List.set_cons_succ, List.set_cons_zero, Nat.zero_add, Nat.reduceAdd]; rfl) (by kernel_rfl) (by kernel_rfl) (by kernel_rfl) (Below.drew (Below.refl _ _)) ?_
          apply each_read (fun _ => Below.refl _ _) rfl
          · intro u wv hC hf
            have z0 := (HX.out _ (Below.now HBI.out hC)).1
            have z1 := (HX.out _ (Below.now HBI.out hC)).2
            clear hf
            go_simp
            try rfl
          apply each_read (fun _ => Below.refl _ _) rfl
          · intro u wv hC hf
            have z0 := (HX.out _ (Below.now HBI.out hC)).1
            have z1 := (HX.out _ (Below.now HBI.out hC)).2
            clear hf
            go_simp
            try rfl
          apply each_read (fun _ => Below.refl _ _) rfl
          · intro u wv hC hf
            have z0 := (HX.out _ (Below.now HBI.out hC)).1
            have z1 := (HX.out _ (Below.now HBI.out hC)).2
            clear hf
            go_simp
            try rfl
          apply each_callR rfl
          · intro u wv hC hf
            have z0 := (HX.out _ (Below.now HBI.out hC)).1
            have z1 := (HX.out _ (Below.now HBI.out hC)).2
            obtain ⟨d0_0, d1_1, d2_2, -⟩ := hf
            have e0 : u 0 = _ := d0_0 rfl
            clear d0_0
            have e1 : u 1 = _ := d1_1 rfl
            clear d1_1
            have e2 : u 2 = _ := d2_2 rfl
            clear d2_2
            apply Exists.intro; apply Exists.intro; apply And.intro
            · go_simp; exact ⟨rfl, rfl⟩
            · refine (HTM.out c d _ (HL.out.later (Below.now HB1.out (Below.now HBI.out hC))) hc hd).mono ?_
              rintro e w3 ⟨rfl, hb⟩
              exact ⟨rfl, Below.now hC hb, hb⟩
          apply each_read (fun _ => Below.refl _ _) rfl
          · intro u wv hC hf
            have z0 := (HX.out _ (Below.now HBI.out hC)).1
            have z1 := (HX.out _ (Below.now HBI.out hC)).2
            clear hf
            go_simp
            try rfl
          apply each_read (fun _ => Below.refl _ _) rfl
          · intro u wv hC hf
            have z0 := (HX.out _ (Below.now HBI.out hC)).1
            have z1 := (HX.out _ (Below.now HBI.out hC)).2
            clear hf
            go_simp
            try rfl
          apply each_read (fun _ => Below.refl _ _) rfl
          · intro u wv hC hf
            have z0 := (HX.out _ (Below.now HBI.out hC)).1
            have z1 := (HX.out _ (Below.now HBI.out hC)).2
            clear hf
            go_simp
            try rfl
          apply each_callR rfl
          · intro u wv hC hf
            have z0 := (HX.out _ (Below.now HBI.out hC)).1
            have z1 := (HX.out _ (Below.now HBI.out hC)).2
            obtain ⟨d4_0, d5_1, d6_2, d3_3, -⟩ := hf
            have e4 : u 4 = _ := d4_0 rfl
            clear d4_0
            have e5 : u 5 = _ := d5_1 rfl
            clear d5_1
            have e6 : u 6 = _ := d6_2 rfl
            clear d6_2
            have e3 : u 3 = _ := d3_3 rfl
            clear d3_3
            apply Exists.intro; apply Exists.intro; apply And.intro
            · go_simp; exact ⟨rfl, rfl⟩
            · refine (HTM.out d c _ (HL.out.later (Below.now HB1.out (Below.now HBI.out hC))) hd hc).mono ?_
              rintro e w3 ⟨rfl, hb⟩
              exact ⟨rfl, Below.now hC hb, hb⟩
          apply each_read (fun _ => Below.refl _ _) rfl
          · intro u wv hC hf
            have z0 := (HX.out _ (Below.now HBI.out hC)).1
            have z1 := (HX.out _ (Below.now HBI.out hC)).2
            obtain ⟨d3_0, d7_1, -⟩ := hf
            have e3 : u 3 = _ := d3_0 rfl
            clear d3_0
            have e7 : u 7 = _ := d7_1 rfl
            clear d7_1
            go_simp
            try rfl
          intro u w7 d1 hall
          obtain ⟨a0, a1, a2, a3, a4, a5, a6, a7, a8, -⟩ := hall
          have e0 : u 0 = _ := a0
          clear a0
          have e1 : u 1 = _ := a1
          clear a1
          have e2 : u 2 = _ := a2
          clear a2
          have e3 : u 3 = _ := a3
          clear a3
          have e4 : u 4 = _ := a4
          clear a4
          have e5 : u 5 = _ := a5
          clear a5
          have e6 : u 6 = _ := a6
          clear a6
          have e7 : u 7 = _ := a7
          clear a7
          have e8 : u 8 = _ := a8
          clear a8
          simp only [e0, e1, e2, e3, e4, e5, e6, e7, e8]
          clear e0 e1 e2 e3 e4 e5 e6 e7 e8
          cases hq : (((tm m zn c d : Nat) : Int) == ((tm m zn d c : Nat) : Int))
          · have F : Hid (false = comB m zn) := Lib.hid (com_not hc hd (fun e => by rw [e] at hq; simp at hq)).symm
            go_wp2_with fail
            go_ret
            exact ⟨ret_bool F.out, Below.now HB1.out (Below.now HBI.out d1)⟩
          · have F : Hid (comRow m zn c (d + 1)) := Lib.hid (fun y hy => by
              by_cases e : y = d
              · subst e; have := beq_iff_eq.1 hq; omega
              · exact HD.out y (by omega))
            go_wp2_with fail
            go_roundw
            case rel => exact ⟨d + 1, by omega, by go_num, F, Below.now HBI.out d1⟩
            case measure => simp [intOf]; omega
        · obtain rfl : d = c := by omega
          have F : Hid (comTo m zn (d + 1)) := Lib.hid (comTo_succ HC.out HD.out)
          go_wp2_with fail
          go_roundw
          case rel => exact ⟨d + 1, by omega, by go_num, F, HBI.out⟩
          case measure => simp [intOf]; omega
    · obtain rfl : c = m := by omega
      have F : Hid (true = comB c zn) := Lib.hid (comTo_all HC.out).symm
      go_wp2_with fail
      go_ret
      exact ⟨ret_bool F.out, Below.now HB1.out HBR.out⟩
end Go.Proofs.Ytdhaebbfiaddnaa
namespace Go.Proofs.Ytdhaebbfiaddnaa
open Go.RowKit
set_option linter.unusedVariables false
/-- a number is among the first powers -/
def hitRow (P : Nat → Nat) (x : Int) (d : Nat) : Bool := (List.range d).any fun n => decide (((P (n + 1) : Nat) : Int) = x)
theorem hitRow_zero (P : Nat → Nat) (x : Int) : hitRow P x 0 = false := rfl
theorem hitRow_succ (P : Nat → Nat) (x : Int) (d : Nat) : hitRow P x (d + 1) = (hitRow P x d || ((((P (d + 1) : Nat) : Int) == x))) := by
  unfold hitRow
  rw [List.range_succ, List.any_append, List.any_cons, List.any_nil, Bool.or_false]
  rfl
theorem hitRow_at {P : Nat → Nat} {x : Int} {d n : Nat} (h1 : 1 ≤ n) (h2 : n ≤ d) (h : ((P n : Nat) : Int) = x) : hitRow P x d = true := by
  unfold hitRow
  rw [List.any_eq_true]
  refine ⟨n - 1, List.mem_range.2 (by omega), ?_⟩
  rw [show n - 1 + 1 = n by omega]
  exact decide_eq_true h
/-- one of the first numbers is among the powers -/
def hitTo (E : List Int) (P : Nat → Nat) (N j : Nat) : Bool := (E.take j).any fun x => hitRow P x N
theorem hitTo_zero (E : List Int) (P : Nat → Nat) (N : Nat) : hitTo E P N 0 = false := rfl
theorem hitTo_succ {E : List Int} {P : Nat → Nat} {N j : Nat} (h : j < E.length) : hitTo E P N (j + 1) = (hitTo E P N j || hitRow P (nthZ E j) N) := by
  unfold hitTo
  rw [List.take_add_one, List.getElem?_eq_getElem h, List.any_append, nthZ_lt h]
  simp
theorem hitTo_all {E : List Int} {P : Nat → Nat} {N j n : Nat} (hj : E.length ≤ j) (h1 : 1 ≤ n) (h2 : n ≤ N) (h : ((P n : Nat) : Int) ∈ E) : hitTo E P N j = true := by
  unfold hitTo
  rw [List.any_eq_true]
  exact ⟨_, by rw [List.take_of_length_le hj]; exact h, hitRow_at h1 h2 rfl⟩
theorem idemF_tab {m : Nat} {l : List Int} (h : TabG m l) : idemF (m : Nat) l = listTo (idemB m (l.map Int.toNat)) m := by
  unfold idemF thoseL listTo
  rw [h.tab]
  rfl
theorem unitsF_tab {m : Nat} {l : List Int} (h : TabG m l) : unitsOfF (m : Nat) l = listTo (isUnit m (l.map Int.toNat)) m := by
  unfold unitsOfF thoseL listTo
  rw [h.tab]
  rfl
theorem map_nat (ln : List Nat) : (ln.map Int.ofNat).map Int.toNat = ln := by
  rw [List.map_map]
  exact List.map_id'' (fun x => rfl) ln
theorem TabG.hit {m : Nat} {l : List Int} (h : TabG m l) {i : Nat} (hi : i < m) {j : Nat} (hj : (idemF (m : Nat) l).length ≤ j) : hitTo (idemF (m : Nat) l) (pw m (l.map Int.toNat) i) (repN m (l.map Int.toNat) i) j = true := by
  obtain ⟨n, h1, h2, h3⟩ := pw_idem h.nats.1 hi
  exact hitTo_all hj h1 h2 (by rw [idemF_tab h]; exact listTo_at.2 ⟨h.nats.1.toTb.pw_lt hi n, h3⟩)
theorem TabG.opp {m : Nat} {l : List Int} (h : TabG m l) : TabG m ((oppT m (l.map Int.toNat)).map Int.ofNat) := ⟨_, rfl, opp_ok h.nats.1⟩
theorem TabG.opp2 {m : Nat} {l : List Int} (h : TabG m l) : (oppT m (((oppT m (l.map Int.toNat)).map Int.ofNat).map Int.toNat)).map Int.ofNat = l := by
  rw [map_nat, opp_opp h.nats.1]
  obtain ⟨ln, rfl, _⟩ := h
  rw [map_nat]
theorem TabG.com {m : Nat} {l : List Int} (h : TabG m l) : comB m (l.map Int.toNat) = decide ((oppT m (l.map Int.toNat)).map Int.ofNat = l) := by
  have e : (oppT m (l.map Int.toNat)).map Int.ofNat = l ↔ oppT m (l.map Int.toNat) = l.map Int.toNat := by
    obtain ⟨ln, rfl, _⟩ := h
    rw [map_nat]
    constructor
    · intro e
      have := congrArg (List.map Int.toNat) e
      rwa [map_nat, map_nat] at this
    · intro e; rw [e]
  rw [Bool.eq_iff_iff, decide_eq_true_eq, e, opp_same h.nats.1]
  exact comB_iff
section
variable {m n : Nat} {l r : List Int} (h : TabG m l) (h' : TabG n r)
include h h'
theorem TabG.prod (hm : m * n ≤ 40) : TabG (m * n) ((prodT m (l.map Int.toNat) n (r.map Int.toNat)).map Int.ofNat) := ⟨_, rfl, prod_ok h.nats.1 h'.nats.1 hm⟩
theorem TabG.prod_idem (hm : m * n ≤ 40) : (idemF ((m * n : Nat) : Int) ((prodT m (l.map Int.toNat) n (r.map Int.toNat)).map Int.ofNat)).length = (idemF (m : Nat) l).length * (idemF (n : Nat) r).length := by
  rw [idemF_tab (TabG.prod h h' hm), idemF_tab h, idemF_tab h', map_nat]
  exact Go.Proofs.Ytdhaebbfiaddnaa.prod_idem h.nats.1 h'.nats.1
theorem TabG.prod_unit (hm : m * n ≤ 40) : (unitsOfF ((m * n : Nat) : Int) ((prodT m (l.map Int.toNat) n (r.map Int.toNat)).map Int.ofNat)).length = (unitsOfF (m : Nat) l).length * (unitsOfF (n : Nat) r).length := by
  rw [unitsF_tab (TabG.prod h h' hm), unitsF_tab h, unitsF_tab h', map_nat]
  exact Go.Proofs.Ytdhaebbfiaddnaa.prod_unit h.nats.1 h'.nats.1
end
end Go.Proofs.Ytdhaebbfiaddnaa
