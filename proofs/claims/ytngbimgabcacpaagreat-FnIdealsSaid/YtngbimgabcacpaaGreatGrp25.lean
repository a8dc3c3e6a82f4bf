/-
  Append, at a plain list of operations, to a row that lies from a base on, out of any source; and a key more in the captured keys.
-/
import Derived.Test.YtngbimgabcacpaaGreatGrp24
import Derived.Shelf.Spec.SlicesGrow
import Derived.Test.YtngbimgabcacpaaGreatGrp23
import Derived.Test.YtngbimgabcacpaaGreatGrp02
import Derived.Test.YtngbimgabcacpaaGreatGrp01
import Derived.Test.YtngbimgabcacpaaGreatGrp20
import Derived.Deep.AppendLies
namespace Go.Proofs.YtngbimgabcacpaaGreat
open Go.RowKit
set_option linter.unusedVariables false
theorem eqInts_any (xs ys : List Int) (ax ay : Option Addr) (cx cy : Nat) (w : World) (hx : IntsIn w ax xs) (hy : IntsIn w ay ys) (hxl : xs.length ≤ 2 ^ 47) (hyl : ys.length ≤ 2 ^ 47) :
    Calls Tryz.prog 56 #[.slice ax xs.length cx, .slice ay ys.length cy] w fun e w' => e = .returned (.bool (decide (xs = ys))) ∧ Below w.heap.size w w' := by
  by_cases hn : xs.length = ys.length
  · by_cases h0 : xs.length = 0
    · have e1 : xs = [] := List.eq_nil_of_length_eq_zero h0
      have e2 : ys = [] := List.eq_nil_of_length_eq_zero (by omega)
      subst e1 e2
      refine (Tryz.slices_Equal_int_empty ax ay cx 0 cy w (by omega)).mono ?_
      rintro e w' ⟨rfl, rfl⟩
      exact ⟨rfl, Below.refl _ _⟩
    · obtain ⟨b1, o1, rfl, _, hc1⟩ := hx.cell (i := 0) (by omega)
      obtain ⟨b2, o2, rfl, _, hc2⟩ := hy.cell (i := 0) (by omega)
      refine (Tryz.slices_Equal_int b1 o1 xs.length cx b2 o2 ys.length cy xs ys w (Nat.le_refl _) (Nat.le_refl _) (by omega) (by omega) (fun j hj => hc1 j hj) (fun j hj => hc2 j hj)).mono ?_
      rintro e w' ⟨rfl, q, rfl⟩
      rw [List.take_length, List.take_length]
      exact ⟨ret_bool (by rw [Bool.eq_iff_iff]; simp), below_drewN (Below.refl _ _) _⟩
  · refine (Tryz.slices_Equal_int_lens ax ay xs.length cx ys.length cy w hn).mono ?_
    rintro e w' ⟨rfl, rfl⟩
    refine ⟨?_, Below.refl _ _⟩
    rw [decide_eq_false (fun h => hn (by rw [h]))]
/-- what the program's ClassesOf hands back -/
def RetCls (n : Int) (l : List Int) (kind : Int) (w : World) (e : Ending) (w' : World) : Prop :=
  RetSl 3 1 (clzF n l kind).length (intVals (clzF n l kind)) w e w' ∧ ((tabB n l && inB kind 1 4) = false → e = .returned (.slice none 0 0))
theorem keyK_len (m : Nat) (ln : List Nat) (kind : Int) (i : Nat) : (keyK m ln kind i).length ≤ 2 * m + 1 := by
  have h1 := idLs_len (m := m) (ln := ln) 1 i
  have h2 := idLs_len (m := m) (ln := ln) 2 i
  have h3 := idLs_len (m := m) (ln := ln) kind i
  unfold keyK
  split
  · simp only [List.length_append, List.length_singleton]; omega
  · omega
set_option maxHeartbeats 1000000 in
theorem classesIn_pred (m : Nat) (ln : List Nat) (kind : Int) (g : Nat) (v : Value) (vals : List Value) (w0 w : World) (hm : m ≤ 40) (h : KeyS w0 w g v m (keyK m ln kind) vals) :
    PredEl2 w.heap.size 55 #[.pointer (some ⟨g, 0, none⟩)] (relK m ln kind) m w := by
  intro i k hi hk W hW
  obtain ⟨b, a1, cap, hv, c1, h1⟩ := h.at hi
  obtain ⟨b2, a2, cap2, hv2, c2, h2⟩ := h.at hk
  have e := hv.symm.trans hv2
  simp only [Value.slice.injEq, Option.some.injEq, Addr.mk.injEq, and_true, true_and] at e
  obtain ⟨rfl, rfl⟩ := e
  subst hv
  clear hv2
  have k0 : ∀ x, (wide W x).cell? ⟨g, 0, none⟩ = some (.slice (some ⟨b, 0, none⟩) m cap) := wide_cell (h1 W hW).1
  have k1 : ∀ x, (wide W x).cell? ⟨b, i, none⟩ = some (.slice a1 (keyK m ln kind i).length c1) := wide_cell (h1 W hW).2.1
  have k2 : ∀ x, (wide W x).cell? ⟨b, k, none⟩ = some (.slice a2 (keyK m ln kind k).length c2) := wide_cell (h2 W hW).2.1
  have q1 := keyK_len m ln kind i
  have q2 := keyK_len m ln kind k
  have HE : Hid (∀ x, Calls Tryz.prog 56 #[.slice a1 (keyK m ln kind i).length c1, .slice a2 (keyK m ln kind k).length c2] (wide W x) fun e w' => e = .returned (.bool (relK m ln kind i k)) ∧ Below (wide W x).heap.size (wide W x) w') := Lib.hid (fun x => by
    have := eqInts_any _ _ a1 a2 c1 c2 (wide W x) ((h1 W hW).2.2.later (below_wide _ _)) ((h2 W hW).2.2.later (below_wide _ _)) (by omega) (by omega)
    rw [← relK_key] at this
    exact this)
  generalize keyK m ln kind i = L1 at *
  generalize keyK m ln kind k = L2 at *
  generalize relK m ln kind i k = r at *
  clear h1 h2 h hW
  go_enter Tryz.func55, Tryz.ntmps55
  go_wp2_with fail
  refine region_wide (by kernel_rfl) (by kernel_rfl) ?_
  repeat (quiet_step ((go_at_call 56; refine (HE.out _).mono ?_; rintro e w2 ⟨rfl, hb2⟩; exact ⟨rfl, wide_next hb2⟩)))
  refine wpQuiet_nil ?_
  rintro w4 ⟨x4, rfl⟩
  clear k0 k1 k2
  go_wp2_with fail
  go_ret
  exact ⟨rfl, below_wide _ _⟩
set_option maxRecDepth 100000 in
set_option maxHeartbeats 4000000 in
theorem implClassesOf_ne (n : Int) (l : List Int) (a : Option Addr) (cap : Nat) (kind : Int) (w : World) (hl : IntsIn w a l) (hlen : l.length ≤ 2 ^ 47) (h4 : kind ≠ 4) :
    Calls Tryz.prog 24 #[.agg #[.int .i64 n, .slice a l.length cap], .int .i64 kind] w (RetCls n l kind w) := by
  have HL := Lib.hid hl
  have HB1 := Lib.hid (alloc_belI w (.cells #[.int .i64 n, .slice a l.length cap] 25))
  have HX : Hid (∀ W, Below (w.alloc (.cells #[.int .i64 n, .slice a l.length cap] 25)).heap.size (w.alloc (.cells #[.int .i64 n, .slice a l.length cap] 25)) W → W.cell? ⟨w.heap.size, 0, none⟩ = some (.int .i64 n) ∧ W.cell? ⟨w.heap.size, 1, none⟩ = some (.slice a l.length cap)) := Lib.hid (fun W hW => ⟨by rw [hW.cell (by simp)]; simp, by rw [hW.cell (by simp)]; simp⟩)
  have HTO := Lib.hid (fun W (h : IntsIn W a l) => implTableOk_any n l a cap W h hlen)
  have HIN := Lib.hid (fun W => within_any kind 1 4 W)
  have e4 : (kind == 4) = false := by simpa using h4
  clear hl
  cases ht : tabB n l
  · have F : Hid (∀ w', Below w.heap.size w w' → RetCls n l kind w (.returned (.slice none 0 0)) w') := Lib.hid (fun w' hb => ⟨by rw [clzF_no1 ht]; exact retSl_nil _ _ _ hb, fun _ => rfl⟩)
    rw [ht] at HTO
    clear ht
    go_enter Tryz.func24, Tryz.ntmps24
    go_wp2_with fail
    refine (HTO.out _ (HL.out.later HB1.out)).mono ?_
    rintro e w2 ⟨rfl, hb2⟩
    have HB2 := Lib.hid (Below.now HB1.out hb2)
    clear hb2
    go_wp2_with fail
    go_ret
    exact F.out _ HB2.out
  cases hk : inB kind 1 4
  · have F : Hid (∀ w', Below w.heap.size w w' → RetCls n l kind w (.returned (.slice none 0 0)) w') := Lib.hid (fun w' hb => ⟨by rw [clzF_no2 hk]; exact retSl_nil _ _ _ hb, fun _ => rfl⟩)
    rw [ht] at HTO
    rw [hk] at HIN
    clear ht hk
    go_enter Tryz.func24, Tryz.ntmps24
    go_wp2_with fail
    refine (HTO.out _ (HL.out.later HB1.out)).mono ?_
    rintro e w2 ⟨rfl, hb2⟩
    have HB2 := Lib.hid (Below.now HB1.out hb2)
    clear hb2
    go_wp2_with fail
    refine (HIN.out _).mono ?_
    rintro e w3 ⟨rfl, rfl⟩
    go_wp2_with fail
    go_ret
    exact F.out _ HB2.out
  obtain ⟨m, ln, rfl, hlm, hT⟩ := tabOk_out ht
  have hm0 := hT.lo
  have hm1 := hT.hi
  have HF : Hid (clzF (m : Nat) l kind = numO (relK m ln kind) m) := Lib.hid (by rw [hlm] at ht ⊢; exact clzF_yes ht hk)
  have HLL : Hid (l.length = m * m) := Lib.hid (by rw [hlm, List.length_map]; exact hT.len)
  have HKE : Hid (∀ i, keyK m ln kind i = idLs m ln kind i) := Lib.hid (fun i => by unfold keyK; rw [if_neg h4])
  have HID : Hid (∀ i W, i < m → IntsIn W a l → Calls Tryz.prog 53 #[.agg #[.int .i64 (m : Nat), .slice a l.length cap], .int .i64 (i : Nat), .int .i64 kind] W (RetSl 3 1 (keyK m ln kind i).length (intVals (keyK m ln kind i)) W)) := Lib.hid (fun i W hi h => by
    rw [HKE.out]
    exact implIdeal_any m ln a l.length cap i kind W (by unfold NatsIn; rw [← hlm]; exact h) hT.toTb HLL.out hi)
  have HPR := Lib.hid (fun g v vals w0 W (h : KeyS w0 W g v m (keyK m ln kind) vals) => classesIn_pred m ln kind g v vals w0 W hm1 h)
  rw [ht] at HTO
  rw [hk] at HIN
  have HYES : Hid (∀ e w', RetSl 3 1 (numO (relK m ln kind) m).length (intVals (numO (relK m ln kind) m)) w e w' → RetCls (m : Nat) l kind w e w') := Lib.hid (fun e w' h => ⟨by rw [HF.out]; exact h, fun h2 => by rw [ht, hk] at h2; cases h2⟩)
  clear ht hk hT hlm h4 HKE
  generalize relK m ln kind = p at *
  generalize keyK m ln kind = key at *
  go_enter Tryz.func24, Tryz.ntmps24
  go_wp2_with fail
  generalize w.alloc (.cells #[.int .i64 (m : Nat), .slice a l.length cap] 25) = w1 at *
  refine (HTO.out _ (HL.out.later HB1.out)).mono ?_
  rintro e w2 ⟨rfl, hb2⟩
  have HB2 := Lib.hid hb2
  clear hb2
  go_wp2_with fail
  refine (HIN.out _).mono ?_
  rintro e w3 ⟨rfl, rfl⟩
  have HS := Lib.hid (KeyS.start (w := w2) (Below.refl _ _) key)
  obtain ⟨z0, z1⟩ := HX.out _ (Below.now HB2.out (alloc_belI w2 (.cells #[.slice none 0 0] 60)))
  clear HTO HIN
  go_wp2_with fail
  clear z0 z1
  have HG0 : Hid (w2.heap.size = w2.heap.size) := Lib.hid rfl
  generalize w2.alloc (.cells #[.slice none 0 0] 60) = w4 at *
  generalize hg : w2.heap.size = g at *
  have HG := Lib.hid hg
  clear hg HG0
  go_loopw [17] (fun i' wr => ∃ c : Nat, c ≤ m ∧ i' = .int .i64 c ∧ Hid (∃ v vals, KeyS w2 wr g v c key vals)) (fun i' _ => m - (intOf i').toNat)
  case atStart => exact ⟨0, Nat.zero_le _, rfl, Lib.hid ⟨_, _, HS.out⟩⟩
  case round =>
    clear HS
    obtain ⟨c, hcm, rfl, HK⟩ := hrel
    obtain ⟨v, vals, hks⟩ := HK.out
    have HKS := Lib.hid hks
    have hbw := Lib.hid (Below.now HB2.out hks.below)
    obtain ⟨z0, z1⟩ := HX.out _ hbw.out
    obtain ⟨y0, f0⟩ := hks.facts
    clear hks
    by_cases hlt : c < m
    · have N1 : Hid (c + 1 ≤ maxLen) := Lib.hid (by unfold maxLen; omega)
      have N2 : Hid ((c + 1) * 24 ≤ 140737488355328) := Lib.hid (by omega)
      have hone : ∀ (x : Option Addr) (n k : Nat), ∀ u ∈ [Value.slice x n k], u.oneCell' = true := fun x n k u hu => by rw [List.mem_singleton.1 hu]; rfl
      have HI := Lib.hid (fun W h => HID.out c W hlt h)
      have hgz := Lib.hid HKS.out.lt
      generalize hkc : key c = kc at HI
      have HKC := Lib.hid hkc
      clear hkc
      have kr := Below.refl wr.heap.size wr
      go_wp2_with fail
      go_region_law (first
        | (go_simp; go_at_call 53; refine (HI.out _ (HL.out.later (Below.now HB1.out (Below.now hbw.out (by repeat (first | exact kr | refine Below.drew ?_ | refine below_drewN ?_ _)))))).mono ?_; rintro e w7 ⟨a7, c7, rfl, ho7, hb7⟩; replace kr : Below wr.heap.size wr w7 := Below.now (by repeat (first | exact kr | refine Below.drew ?_ | refine below_drewN ?_ _)) hb7; have HR7 : Hid (w7.ownsRow (g + 1) 3 1 (.slice a7 kc.length c7) kc.length (intVals kc)) := Lib.hid (owns_mono ho7 (Nat.le_trans hgz.out (by simp))); have HK7 := Lib.hid (HKS.out.later kr); have q0 := HK7.out.facts.1; have q2 : ∀ ob, (w7.alloc ob).cell? ⟨g, 0, none⟩ = some v := fun ob => (HK7.out.later (alloc_belI w7 ob)).facts.1; obtain ⟨s0, s1⟩ := HX.out w7 (Below.now hbw.out kr); clear hb7 ho7)
        | (refine step_appH rfl (.tmp 34) (.tmp 39) (by rfl) Tryz.underlying60 Tryz.infoInts rfl (by decide) (by rfl) HK7.out.own HK7.out.lt (by rfl) (by rfl) (hone _ _ _) N1.out N2.out ?_; intro g4 c4 w9 hn9 hg9; have P9 := Lib.hid (HKS.out.put (cap := c7) kr (by rw [HKC.out]; exact HR7.out) hg9 (by rw [HKC.out]; exact hn9)); obtain ⟨q1, q3⟩ := box1_cells (HKS.out.grown kr hg9); clear hn9 hg9))
      all_goals
        have F : Hid (∃ v vals, KeyS w2 (w9.setCell ⟨g, 0, none⟩ (.slice (some ⟨g4, 0, none⟩) (c + 1) c4)) g v (c + 1) key vals) := Lib.hid ⟨_, _, P9.out⟩
        clear q0 q1 q2 q3 s0 s1 z0 z1 y0 f0
        go_wp2_with fail
        go_roundw
        case rel => exact ⟨c + 1, by omega, by go_num, F⟩
        case measure => simp [intOf]; omega
    · obtain rfl : c = m := by omega
      have HNU := Lib.hid (numbered_any wr.heap.size 55 #[.pointer (some ⟨g, 0, none⟩)] p c wr (by omega) (HPR.out g v vals w2 wr HKS.out) (Nat.le_refl _) (enters_of Tryz.func55 (by kernel_rfl) rfl))
      have HBE := Lib.hid (Below.now HB1.out hbw.out)
      go_wp2_with fail
      refine HNU.out.mono ?_
      rintro e w5 ⟨a5, c5, rfl, ho5, hb5⟩
      have F : Hid (RetSl 3 1 (numO p c).length (intVals (numO p c)) w (.returned (.slice a5 (numO p c).length c5)) w5) := Lib.hid ⟨_, _, rfl, owns_mono ho5 HBE.out.size, Below.now HBE.out hb5⟩
      clear ho5 hb5 z0 z1 y0 f0
      go_wp2_with fail
      go_ret
      exact HYES.out _ _ F.out
theorem fold_max : ∀ (l : List Int) (z : Int), (l.foldl max z = z ∨ l.foldl max z ∈ l) ∧ z ≤ l.foldl max z ∧ ∀ x ∈ l, x ≤ l.foldl max z
  | [], z => ⟨.inl rfl, Int.le_refl _, fun x hx => by cases hx⟩
  | y :: l, z => by
    obtain ⟨h1, h2, h3⟩ := fold_max l (max z y)
    simp only [List.foldl_cons]
    refine ⟨?_, by omega, fun x hx => ?_⟩
    · rcases h1 with h1 | h1
      · rw [h1]
        by_cases h : z ≤ y
        · right; rw [show max z y = y by omega]; simp
        · left; omega
      · right; exact List.mem_cons_of_mem _ h1
    · rcases List.mem_cons.1 hx with rfl | hx
      · omega
      · exact h3 x hx
theorem cntF_maxOf {l : List Int} (h0 : 0 < l.length) (hn : ∀ x ∈ l, 0 ≤ x) : cntF l = Go.Lib.maxOf l + 1 := by
  cases l with
  | nil => simp at h0
  | cons z l =>
    obtain ⟨h1, h2, h3⟩ := fold_max l (max z z)
    have e : Go.Lib.maxOf (z :: l) = l.foldl max (max z z) := rfl
    rw [e]
    have hzz : max z z = z := by omega
    rw [hzz] at h1 h2 h3 ⊢
    refine cntF_max ?_ ?_ ?_
    · rcases h1 with h1 | h1
      · rw [h1]; simp
      · exact List.mem_cons_of_mem _ h1
    · intro x hx
      rcases List.mem_cons.1 hx with rfl | hx
      · exact h2
      · exact h3 x hx
    · have := hn z (by simp); omega
theorem eql_slice_nilI {P : Program} (w : World) {t e : TypeId} (a : Option Addr) (l c : Nat) (h : P.underlying t = some (.slice e)) : (binOp .eql t (.slice a l c) (.slice none 0 0)).run P w = .ok (.bool a.isNone) w := by
  simp only [binOp]
  simp [Op.equal, Op.maxDepth, Lib.run_equalIn_slice_nil w 9999 t e a l c 0 0 h]
set_option maxHeartbeats 1000000 in
theorem implCountClasses_of (n : Int) (l : List Int) (a : Option Addr) (cap : Nat) (kind : Int) (w : World) (hl : IntsIn w a l)
    (hC : ∀ W, IntsIn W a l → Calls Tryz.prog 24 #[.agg #[.int .i64 n, .slice a l.length cap], .int .i64 kind] W (RetCls n l kind W)) :
    Calls Tryz.prog 19 #[.agg #[.int .i64 n, .slice a l.length cap], .int .i64 kind] w fun e w' => e = .returned (.int .i64 (cntF (clzF n l kind))) ∧ Below w.heap.size w w' := by
  have HC := Lib.hid hC
  have HL := Lib.hid hl
  have HB1 := Lib.hid (alloc_belI w (.cells #[.int .i64 n, .slice a l.length cap] 25))
  have q22 : ∀ (w : World) (a : Option Addr) (n c : Nat), (binOp .eql 23 (.slice a n c) (.slice none 0 0)).run Tryz.prog w = .ok (.bool a.isNone) w := fun w a n c => eql_slice_nilI w a n c Tryz.underlying23
  have hsm : Hid (∀ x ∈ clzF n l kind, 0 ≤ x ∧ x < 40) := Lib.hid (fun x h => clzF_small h)
  have hcl := clzF_len n l kind
  clear hl hC
  by_cases hv : (tabB n l && inB kind 1 4) = false
  · have hz : clzF n l kind = [] := by
      unfold clzF; rw [if_neg (by rw [hv]; simp)]
    have F : Hid (cntF (clzF n l kind) = 0) := Lib.hid (by rw [hz]; rfl)
    have HV := Lib.hid hv
    clear hv hz hsm hcl
    go_enter Tryz.func19, Tryz.ntmps19
    go_wp2_with fail
    refine (HC.out _ (HL.out.later HB1.out)).mono ?_
    rintro e w2 ⟨⟨a2, c2, _, _, hb2⟩, h2⟩
    obtain rfl := h2 HV.out
    have HB2 := Lib.hid (Below.now HB1.out hb2)
    clear hb2 h2
    go_wp2_with fail
    go_ret
    exact ⟨ret_int F.out.symm, HB2.out⟩
  · have hpos : 0 < (clzF n l kind).length := by
      have h1 : (tabB n l && inB kind 1 4) = true := by simpa using hv
      obtain ⟨ht, hk⟩ : tabB n l = true ∧ inB kind 1 4 = true := by simpa using h1
      obtain ⟨m, ln, rfl, rfl, hT⟩ := tabOk_out ht
      rw [clzF_yes ht hk, numO_len]
      exact hT.lo
    have F := Lib.hid (cntF_maxOf hpos (fun x hx => (hsm.out x hx).1))
    have hmx := (cntF_few (l := clzF n l kind) (n := 40) (fun x hx => (hsm.out x hx).2))
    rw [F.out] at hmx
    have HC2 := Lib.hid (fun W h => (HC.out W h).mono (fun e w' (h : RetCls n l kind W e w') => h.1))
    clear hv hsm HC
    generalize cntF (clzF n l kind) = q at *
    generalize clzF n l kind = z at *
    have HP := Lib.hid hpos
    clear hpos
    go_enter Tryz.func19, Tryz.ntmps19
    go_wp2_with fail
    refine (HC2.out _ (HL.out.later HB1.out)).mono ?_
    rintro e w2 ⟨a2, c2, rfl, ho, hb2⟩
    obtain ⟨g2, c3, hv⟩ := owns_some ho HP.out
    simp only [Value.slice.injEq] at hv
    obtain ⟨rfl, _, rfl⟩ := hv
    have HB2 := Lib.hid (Below.now HB1.out hb2)
    have HM := Lib.hid (Tryz.slices_Max_int g2 0 z.length c2 z w2 HP.out (Nat.le_refl _) (by omega) (fun j hj => by
      rw [Nat.zero_add, World.ownsRow.cellAt ho j (by omega)]
      simp [intVals, List.getD_eq_getElem?_getD, hj]))
    rw [List.take_length] at HM
    have FE := Lib.hid F.out
    clear ho hb2
    generalize Go.Lib.maxOf z = M at *
    go_wp2_with fail
    refine HM.out.mono ?_
    rintro e w3 ⟨rfl, rfl⟩
    go_wp2_with fail
    go_ret
    exact ⟨ret_int FE.out.symm, HB2.out⟩
theorem implCountClasses_ne (n : Int) (l : List Int) (a : Option Addr) (cap : Nat) (kind : Int) (w : World) (hl : IntsIn w a l) (hlen : l.length ≤ 2 ^ 47) (h4 : kind ≠ 4) :
    Calls Tryz.prog 19 #[.agg #[.int .i64 n, .slice a l.length cap], .int .i64 kind] w fun e w' => e = .returned (.int .i64 (cntF (clzF n l kind))) ∧ Below w.heap.size w w' :=
  implCountClasses_of n l a cap kind w hl (fun W h => implClassesOf_ne n l a cap kind W h hlen h4)
end Go.Proofs.YtngbimgabcacpaaGreat
namespace Go.Proofs
open Go.Shelf
def Tryz.growZ_ren : Go.Shelf.Ren := ⟨fun | 4 => 84 | n => n, fun | 22 => 23 | 25 => 3 | 3 => 3 | 4 => 4 | 9 => 9 | 20 => 20 | 0 => 0 | n => n, fun | n => n⟩
theorem Tryz.growZ : Go.Proofs.Lays8.n4 Tryz.prog Tryz.growZ_ren := {
  mixed := by kernel_rfl
  f4 := ⟨Tryz.f84.name, by decide, Tryz.func84.trans (congrArg some (by kernel_rfl))⟩
  t0 := Tryz.underlying0
  a0 := Tryz.isAgg0
  z0 := Tryz.sizeOf0
  v0 := Tryz.zeroValue0
  t3 := Tryz.underlying3
  a3 := Tryz.isAgg3
  z3 := Tryz.sizeOf3
  v3 := Tryz.zeroValue3
  t4 := Tryz.underlying4
  a4 := Tryz.isAgg4
  z4 := Tryz.sizeOf4
  v4 := Tryz.zeroValue4
  t9 := Tryz.underlying9
  a9 := Tryz.isAgg9
  z9 := Tryz.sizeOf9
  v9 := Tryz.zeroValue9
  t20 := Tryz.underlying20
  a20 := Tryz.isAgg20
  z20 := Tryz.sizeOf20
  v20 := Tryz.zeroValue20
  t22 := Tryz.underlying23
  a22 := Tryz.isAgg23
  z22 := Tryz.sizeOf23
  v22 := Tryz.zeroValue23 }
end Go.Proofs
namespace Go.Proofs.YtngbimgabcacpaaGreat
open Go.RowKit
set_option linter.unusedVariables false
theorem infoZ : ∃ i0 : TypeInfo, Tryz.prog.info? 3 = some i0 ∧ i0.zero = some (.int .i64 0) ∧ i0.size = 1 ∧ i0.bytes = 8 := by
  have h := Tryz.infoInt
  cases hi : Tryz.prog.info? 3 with
  | none => rw [hi] at h; cases h
  | some i =>
    rw [hi] at h
    simp only [Option.map_some, Option.some.injEq, Prod.mk.injEq] at h
    exact ⟨i, rfl, h.1, h.2.1, h.2.2⟩
/-- slices.Grow of the nil slice -/
theorem growZ_any (n : Nat) (w : World) (h1 : 1 ≤ n) (hn : n ≤ 2 ^ 30) :
    Calls Tryz.prog 84 #[.slice none 0 0, .int .i64 (n : Nat)] w fun e w' => ∃ v, e = .returned v ∧ w'.ownsRow w.heap.size 3 1 v 0 [] ∧ Below w.heap.size w w' := by
  obtain ⟨i0, hi, hz, hs, hb⟩ := infoZ
  refine (Any8.slices_Grow_grow Tryz.growZ i0 (.int .i64 0) hi hz (by omega) none 0 0 n [] w (Nat.le_refl _) (by omega) (by rw [hb]; omega) (by omega) (by simp) (fun _ => rfl) (fun a ha => by cases ha)).mono ?_
  rintro e w' ⟨rfl, rfl⟩
  refine ⟨_, rfl, ⟨rfl, .inr ⟨w.heap.size, _, _, rfl, Nat.le_refl _, alloc_at w.drew _, Nat.zero_le _, grownCap_le_maxLen _ _ _ _ (by unfold maxLen; omega), ?_, by simp⟩⟩, (Below.drew (Below.refl _ _)).alloc (Nat.le_refl _) _⟩
  have hc := grownCap_ge w n 0 (Tryz.growZ_ren.t 25)
  simp [Builtin.zeroCells, Value.cells]
  omega
end Go.Proofs.YtngbimgabcacpaaGreat
namespace Go.Proofs.YtngbimgabcacpaaGreat
open Go.RowKit
set_option linter.unusedVariables false
def nthL (LL : List (List Int)) (j : Nat) : List Int := LL.getD j []
def flatTo (LL : List (List Int)) (j : Nat) : List Int := (LL.take j).flatten
theorem flatTo_succ {LL : List (List Int)} {j : Nat} (hj : j < LL.length) : flatTo LL (j + 1) = flatTo LL j ++ nthL LL j := by
  unfold flatTo nthL
  rw [List.take_add_one, List.getElem?_eq_getElem hj, List.getD_eq_getElem?_getD, List.getElem?_eq_getElem hj, List.flatten_append]
  simp only [Option.toList, List.flatten_cons, List.flatten_nil, List.append_nil, Option.getD]
theorem flatTo_le (LL : List (List Int)) (j : Nat) : (flatTo LL j).length ≤ LL.flatten.length := by
  have e : LL.flatten = (LL.take j).flatten ++ (LL.drop j).flatten := by rw [← List.flatten_append, List.take_append_drop]
  rw [e, List.length_append]
  exact Nat.le_add_right _ _
theorem flatTo_all {LL : List (List Int)} {j : Nat} (hj : ¬ j < LL.length) : flatTo LL j = LL.flatten := by unfold flatTo; rw [List.take_of_length_le (by omega)]
/-- rows of numbers, their headers in one block -/
def RowsOf (w : World) (g : Nat) (LL : List (List Int)) : Prop := ∀ j, j < LL.length → ∃ a c, w.cell? ⟨g, j, none⟩ = some (.slice a (nthL LL j).length c) ∧ Src w (.slice a (nthL LL j).length c) (nthL LL j).length (intVals (nthL LL j))
theorem intVals_lenC (l : List Int) : (intVals l).length = l.length * 1 := by simp [intVals]
theorem intVals_oneC (l : List Int) : ∀ u ∈ intVals l, u.oneCell' = true := fun u hu => by
  obtain ⟨x, _, rfl⟩ := List.mem_map.1 hu
  rfl
set_option maxRecDepth 20000 in
set_option maxHeartbeats 2000000 in
theorem concat_any (LL : List (List Int)) (g cap : Nat) (w : World) (h : RowsOf w g LL) (hn : LL.length ≤ 100) (h1 : 1 ≤ LL.flatten.length) (h2 : LL.flatten.length ≤ 1000) :
    Calls Tryz.prog 54 #[.slice (some ⟨g, 0, none⟩) LL.length cap] w (RetSl 3 1 LL.flatten.length (intVals LL.flatten) w) := by
  have HR := Lib.hid h
  obtain ⟨tot, htot⟩ : ∃ tot, tot = LL.flatten.length := ⟨_, rfl⟩
  have HG := Lib.hid (growZ_any tot w (by omega) (by omega))
  have HLE := Lib.hid (flatTo_le LL)
  rw [← htot] at HLE h1 h2
  have HT := Lib.hid htot
  clear htot
  have HF0 : Hid (flatTo LL 0 = []) := Lib.hid rfl
  clear h
  go_enter Tryz.func54, Tryz.ntmps54
  go_wp2_with fail
  go_loop [3, 11] (fun s i => ∃ j q : Nat, j ≤ LL.length ∧ i = .int .i64 (j : Nat) ∧ s = .int .i64 (q : Nat) ∧ Hid (q = (flatTo LL j).length) ∧ q ≤ 1000) (fun _ i => LL.length - (intOf i).toNat)
  case atStart => exact ⟨0, 0, Nat.zero_le _, rfl, rfl, Lib.hid rfl, Nat.zero_le _⟩
  case round =>
    obtain ⟨j, q, hj, rfl, rfl, hq, hq2⟩ := hrel
    by_cases hlt : j < LL.length
    · obtain ⟨a, c, hc, _⟩ := HR.out j hlt
      have hs : q + (nthL LL j).length = (flatTo LL (j + 1)).length := by rw [flatTo_succ hlt, List.length_append, ← hq.out]
      have hl := HLE.out (j + 1)
      have F : Hid (q + (nthL LL j).length = (flatTo LL (j + 1)).length) := Lib.hid hs
      have hb : q + (nthL LL j).length ≤ 1000 := by omega
      clear hs hl hq
      generalize (nthL LL j).length = k at *
      have hneg : ¬ ((q : Int) + (k : Int) < 0) := by omega
      go_wp2_with fail
      go_round
      case rel => exact ⟨j + 1, q + k, by omega, by go_num, by go_num, F, hb⟩
      case measure => simp [intOf]; omega
    · have e : q = tot := by rw [hq.out, flatTo_all hlt, HT.out]
      subst e
      clear hq hq2
      go_wp2_with fail
      refine HG.out.mono ?_
      rintro e w2 ⟨v, rfl, ho, hb⟩
      have HB : Hid (Bld 3 1 w w2 v (flatTo LL 0).length (intVals (flatTo LL 0))) := Lib.hid ⟨ho, hb⟩
      clear ho hb
      go_wp2_with fail
      go_loopw [6, 27] (fun v i wr => ∃ j : Nat, j ≤ LL.length ∧ i = .int .i64 (j : Nat) ∧ Bld 3 1 w wr v (flatTo LL j).length (intVals (flatTo LL j))) (fun _ i _ => LL.length - (intOf i).toNat)
      case atStart => exact ⟨0, Nat.zero_le _, rfl, HB.out⟩
      case round =>
        clear HB
        obtain ⟨i, hi, rfl, hbd⟩ := hrel
        obtain ⟨a3, c3, rfl⟩ := owns_form hbd.1
        have HB := Lib.hid hbd
        clear hbd
        by_cases hit : i < LL.length
        · obtain ⟨a, c, hc, hsrc⟩ := HR.out i hit
          have hcw : wr.cell? ⟨g, i, none⟩ = some (.slice a (nthL LL i).length c) := by rw [HB.out.2.cell (World.block_lt_of_cell? w _ hc)]; exact hc
          have HS := Lib.hid (hsrc.later HB.out.2)
          have HE := Lib.hid (flatTo_succ hit)
          have hl := HLE.out i
          have hl2 := HLE.out (i + 1)
          rw [HE.out, List.length_append] at hl2
          have H1 := Lib.hid (intVals_lenC (nthL LL i))
          have H2 := Lib.hid (intVals_oneC (nthL LL i))
          clear hc hsrc
          go_wp2_with (at_builtin; refine wpList_appM rfl (.tmp 31) (.tmp 32) rfl Tryz.underlying23 Tryz.infoInt rfl (by decide) rfl HB.out rfl HS.out H1.out H2.out ?a21 ?a31 ?a41)
          case a21 => unfold maxLen; omega
          case a31 => omega
          intro v4 w4 hb4 hg4 ho4
          have F : Hid (Bld 3 1 w w4 v4 (flatTo LL (i + 1)).length (intVals (flatTo LL (i + 1)))) := Lib.hid (by
            rw [HE.out, List.length_append, show intVals (flatTo LL i ++ nthL LL i) = intVals (flatTo LL i) ++ intVals (nthL LL i) from List.map_append]
            exact hb4)
          clear hb4 hg4 ho4
          go_wp2_with fail
          go_roundw
          case rel => exact ⟨i + 1, by omega, by go_num, F.out⟩
          case measure => simp [intOf]; omega
        · have F : Hid (RetSl 3 1 LL.flatten.length (intVals LL.flatten) w (.returned (.slice a3 (flatTo LL i).length c3)) wr) := Lib.hid (by
            have h3 := HB.out
            rw [flatTo_all hit] at h3 ⊢
            exact ⟨_, _, rfl, h3.1, h3.2⟩)
          go_wp2_with fail
          go_ret
          exact F.out
end Go.Proofs.YtngbimgabcacpaaGreat
namespace Go.Proofs.YtngbimgabcacpaaGreat
open Go.RowKit
set_option linter.unusedVariables false
theorem wpList_appB {P : Program} {ops : Array Oper} {rest : List Oper} {o : Oper} {a : Act} {Q : Exit → Act → World → Prop} {T tsl : TypeId} {z : Value} {size bytes : Nat} (hg : o.guard = none) (s x : Operand)
    (ho : o.op = .call { callee := .builtin .append, args := #[s, x], argTypes := #[tsl, tsl] }) (ht : P.underlying tsl = some (.slice T)) (hinfo : (P.info? T).map (fun i => (i.zero, i.size, i.bytes)) = some (some z, size, bytes))
    (hzs : z.cells.size = size) (hpos : 0 < size) {H : Nat} {wr : World} {v : Value} {n : Nat} {xs : List Value} (hs : a.eval s = v) (hb : wr.ownsRow H T size v n xs) (hH : H ≤ wr.heap.size) {ad : Addr} {c m : Nat} {news : List Value} (hx : a.eval x = .slice (some ad) m c)
    (hsrc : ∀ j u, news[j]? = some u → wr.cell? (ad.add j) = some u) (hn : news.length = m * size) (hm : 0 < m) (h1 : ∀ u ∈ news, u.oneCell' = true) (h63 : n + m ≤ maxLen) (hbytes : (n + m) * bytes ≤ 140737488355328)
    (hK : ∀ g cap w', w'.ownsRow H T size (.slice (some ⟨g, 0, none⟩) (n + m) cap) (n + m) (xs ++ news) → wr.grownBy w' v.ownBlock → (v.ownBlock = some g ∨ g = wr.heap.size) → wpList P ops Q rest (a.put o.dst (.slice (some ⟨g, 0, none⟩) (n + m) cap)) w') :
    wpList P ops Q (o :: rest) a wr := by
  obtain ⟨i0, hi, hz0, hz1, hz2⟩ := info_parts hinfo
  exact wpList_append_lies (w := wr) hg s x tsl ho H T i0 z size bytes ht hi hz0 hz1 hz2 hzs hpos v n xs hs hb ad m c news hx hn hsrc h1 hm h63 hbytes hH _ rfl fun g cap w' h2 h3 h4 _ => hK g cap w' h2 h3 h4
theorem KeyS.putD {w wr w4 : World} {g : Nat} {v v' : Value} {c : Nat} {key : Nat → List Int} {vals : List Value} {a : Option Addr} {cap : Nat} (h2 : KeyS w wr g v c key vals) (hr : wr.ownsRow (g + 1) 3 1 (.slice a (key c).length cap) (key c).length (intVals (key c)))
    (hg : wr.grownBy w4 v.ownBlock) (hn : w4.ownsRow (g + 1) 23 1 v' (c + 1) (vals ++ [.slice a (key c).length cap])) : w4.heap[g]? = some (.cells #[v] 60 (0, 0)) ∧ Below w.heap.size w w4 ∧ KeyS w (w4.setCell ⟨g, 0, none⟩ v') g v' (c + 1) key (vals ++ [.slice a (key c).length cap]) := by
  have h4 := (hg.block g h2.lt (fun e => h2.far e.symm)).trans h2.blk
  have b4 : Below w.heap.size w w4 := h2.below.grown hg h2.below.size (fun k hk => by have := (h2.own.lt k hk).1; have := h2.le; omega)
  have keep : ∀ {a : Option Addr} {n cap : Nat} {ys : List Value}, wr.ownsRow (g + 1) 3 1 (.slice a n cap) n ys → (w4.setCell ⟨g, 0, none⟩ v').ownsRow (g + 1) 3 1 (.slice a n cap) n ys := fun {a n cap ys} hy => by
    refine ownsRow_setCell_below (hy.kept hg ?_) (by show g < g + 1; omega) _
    cases hv : (Value.slice a n cap).ownBlock with
    | none => exact .inl rfl
    | some k => exact .inr fun e => row_apart h2.own hy k e.symm hv
  refine ⟨h4, b4, ?_, ownsRow_setCell_below hn (by show g < g + 1; omega) _, fun j hj => ?_, h2.le, b4.setCell h2.le _⟩
  · unfold World.setCell
    simp [Array.getElem?_modify, h4]
  · have hl := h2.len
    rw [List.length_append, List.length_singleton] at hj
    by_cases e : j = vals.length
    · subst e
      rw [hl]
      refine ⟨a, cap, ?_, keep hr⟩
      rw [List.getElem?_append_right (by omega)]
      simp [hl]
    · obtain ⟨a', cap', e1, e2⟩ := h2.rows j (by omega)
      refine ⟨a', cap', ?_, keep e2⟩
      rw [List.getElem?_append_left (by omega)]
      exact e1
end Go.Proofs.YtngbimgabcacpaaGreat
