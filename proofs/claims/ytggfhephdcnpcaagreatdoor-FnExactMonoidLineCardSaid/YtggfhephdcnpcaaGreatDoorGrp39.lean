/-
  ZeroOf of the reference.
-/
import Derived.Test.YtggfhephdcnpcaaGreatDoorGrp38
import Derived.Test.YtggfhephdcnpcaaGreatDoorGrp36
namespace Go.Proofs.YtggfhephdcnpcaaGreatDoor
open Go.RowKit
set_option linter.unusedVariables false
set_option maxRecDepth 100000 in
set_option maxHeartbeats 2000000 in
theorem l09Rel_ne (m : Nat) (ln : List Nat) (a : Option Addr) (len cap i k : Nat) (kind : Int) (w : World) (hl : NatsIn w a ln) (hT : Tb m ln) (hlen : len = m * m) (hi : i < m) (hk : k < m) (hne : kind ≠ 4) :
    Calls Tryz.prog 160 #[.agg #[.int .i64 m, .slice a len cap], .int .i64 i, .int .i64 k, .int .i64 kind] w fun e w' => e = .returned (.bool (relK m ln kind i k)) ∧ Below w.heap.size w w' := by
  have hm := hT.hi
  have e4 : (kind == 4) = false := by simpa using hne
  have HR : Hid (relK m ln kind i k = decide (idLs m ln kind i = idLs m ln kind k)) := Lib.hid (relK_not4 hne i k)
  have hb1 := alloc_bel w (.cells #[.int .i64 (m : Nat), .slice a len cap] 38)
  have HX : Hid (∀ W, Below (w.alloc (.cells #[.int .i64 (m : Nat), .slice a len cap] 38)).heap.size (w.alloc (.cells #[.int .i64 (m : Nat), .slice a len cap] 38)) W → W.cell? ⟨w.heap.size, 0, none⟩ = some (.int .i64 (m : Nat)) ∧ W.cell? ⟨w.heap.size, 1, none⟩ = some (.slice a len cap)) := Lib.hid (fun W hW => ⟨by rw [hW.cell (by simp)]; simp, by rw [hW.cell (by simp)]; simp⟩)
  have HB := Lib.hid hb1
  have HN := Lib.hid (hl.later hb1)
  have HI := Lib.hid (fun W (h : NatsIn W a ln) => l09Ideal_any m ln a len cap i kind W h hT hlen hi)
  have HK := Lib.hid (fun W (h : NatsIn W a ln) => l09Ideal_any m ln a len cap k kind W h hT hlen hk)
  have HLI := Lib.hid (fun g W base h => l09List_any m g (inId m ln kind i) W base h (by omega))
  have HLK := Lib.hid (fun g W base h => l09List_any m g (inId m ln kind k) W base h (by omega))
  have HSM : Hid (∀ ax ay cx cy W, IntsIn W ax (idLs m ln kind i) → IntsIn W ay (idLs m ln kind k) → Calls Tryz.prog 212 #[.slice ax (idLs m ln kind i).length cx, .slice ay (idLs m ln kind k).length cy] W fun e w' => e = .returned (.bool (relK m ln kind i k)) ∧ Below W.heap.size W w') := Lib.hid (fun ax ay cx cy W h1 h2 => by
    have q1 := idLs_len (m := m) (ln := ln) kind i
    have q2 := idLs_len (m := m) (ln := ln) kind k
    have h := l09Same_any _ _ ax ay cx cy W h1 h2 (by omega) (by omega)
    rw [← HR.out] at h
    exact h)
  have e1 : Hid (listTo (inId m ln kind i) m = idLs m ln kind i) := Lib.hid rfl
  have e2 : Hid (listTo (inId m ln kind k) m = idLs m ln kind k) := Lib.hid rfl
  rw [e1.out] at HLI
  rw [e2.out] at HLK
  clear hl hT hlen hb1 hne HR e1 e2
  generalize relK m ln kind i k = r at *
  generalize idLs m ln kind i = Li at *
  generalize idLs m ln kind k = Lk at *
  generalize inId m ln kind i = fi at *
  generalize inId m ln kind k = fk at *
  go_enter Tryz.func160, Tryz.ntmps160
  go_wp2_with fail
  generalize w.alloc (.cells #[.int .i64 (m : Nat), .slice a len cap] 38) = w1 at *
  have kr := Below.refl w1.heap.size w1
  obtain ⟨z0, z1⟩ := HX.out _ kr
  go_region_held3 (fun w' => w'.cell? ⟨w.heap.size, 0, none⟩ = some (.int .i64 (m : Nat)) ∧ w'.cell? ⟨w.heap.size, 1, none⟩ = some (.slice a len cap)) (go_keep) (first
    | (go_at_call 214; (with_reducible refine (HI.out _ (HN.out.later (by repeat (first | exact kr | refine Below.drew ?_ | refine below_drewN ?_ _)))).mono ?_); rintro e w3 ⟨ga, rfl, hra, hb3⟩; have RA := Lib.hid hra; clear hra; (try (have q := kb; clear q; replace kb := Below.now (by repeat (first | exact kb | refine Below.drew ?_ | refine below_drewN ?_ _)) hb3)); (try (have q := lb; clear q; replace lb := Below.now (by repeat (first | exact lb | refine Below.drew ?_ | refine below_drewN ?_ _)) hb3)); have ka := Below.refl w3.heap.size w3; replace kr : Below w1.heap.size w1 w3 := Below.now (by repeat (first | exact kr | refine Below.drew ?_ | refine below_drewN ?_ _)) hb3; have t0 := (HX.out w3 kr).1; have t1 := (HX.out w3 kr).2; clear hb3)
    | (go_at_call 214; (with_reducible refine (HK.out _ (HN.out.later (by repeat (first | exact kr | refine Below.drew ?_ | refine below_drewN ?_ _)))).mono ?_); rintro e w3 ⟨gb, rfl, hrb, hb3⟩; have RB := Lib.hid hrb; clear hrb; (try (have q := ka; clear q; replace ka := Below.now (by repeat (first | exact ka | refine Below.drew ?_ | refine below_drewN ?_ _)) hb3)); (try (have q := la; clear q; replace la := Below.now (by repeat (first | exact la | refine Below.drew ?_ | refine below_drewN ?_ _)) hb3)); have kb := Below.refl w3.heap.size w3; replace kr : Below w1.heap.size w1 w3 := Below.now (by repeat (first | exact kr | refine Below.drew ?_ | refine below_drewN ?_ _)) hb3; have t0 := (HX.out w3 kr).1; have t1 := (HX.out w3 kr).2; clear hb3)
    | (go_at_call 213; (have q := RA; clear q); (with_reducible refine (HLI.out ga _ _ (RA.out.later (by repeat (first | exact ka | refine Below.drew ?_ | refine below_drewN ?_ _)))).mono ?_); rintro e w3 ⟨xa, ca, rfl, hra, hb3⟩; have LA := Lib.hid (owns_ints (l := Li) hra); clear hra; (try (have q := kb; clear q; replace kb := Below.now (by repeat (first | exact kb | refine Below.drew ?_ | refine below_drewN ?_ _)) hb3)); (try (have q := lb; clear q; replace lb := Below.now (by repeat (first | exact lb | refine Below.drew ?_ | refine below_drewN ?_ _)) hb3)); have la := Below.refl w3.heap.size w3; replace kr : Below w1.heap.size w1 w3 := Below.now (by repeat (first | exact kr | refine Below.drew ?_ | refine below_drewN ?_ _)) hb3; have t0 := (HX.out w3 kr).1; have t1 := (HX.out w3 kr).2; clear hb3)
    | (go_at_call 213; (have q := RB; clear q); (with_reducible refine (HLK.out gb _ _ (RB.out.later (by repeat (first | exact kb | refine Below.drew ?_ | refine below_drewN ?_ _)))).mono ?_); rintro e w3 ⟨xb, cb, rfl, hrb, hb3⟩; have LB := Lib.hid (owns_ints (l := Lk) hrb); clear hrb; (try (have q := ka; clear q; replace ka := Below.now (by repeat (first | exact ka | refine Below.drew ?_ | refine below_drewN ?_ _)) hb3)); (try (have q := la; clear q; replace la := Below.now (by repeat (first | exact la | refine Below.drew ?_ | refine below_drewN ?_ _)) hb3)); have lb := Below.refl w3.heap.size w3; replace kr : Below w1.heap.size w1 w3 := Below.now (by repeat (first | exact kr | refine Below.drew ?_ | refine below_drewN ?_ _)) hb3; have t0 := (HX.out w3 kr).1; have t1 := (HX.out w3 kr).2; clear hb3)
    | (go_at_call 212; refine (HSM.out _ _ _ _ _ (LA.out.later (by repeat (first | exact la | refine Below.drew ?_ | refine below_drewN ?_ _))) (LB.out.later (by repeat (first | exact lb | refine Below.drew ?_ | refine below_drewN ?_ _)))).mono ?_; rintro e w3 ⟨rfl, hb3⟩; replace kr : Below w1.heap.size w1 w3 := Below.now (by repeat (first | exact kr | refine Below.drew ?_ | refine below_drewN ?_ _)) hb3; have t0 := (HX.out w3 kr).1; have t1 := (HX.out w3 kr).2; clear hb3))
  all_goals
    go_wp2_with fail
    go_ret
    exact ⟨rfl, Below.now HB.out kr⟩
set_option maxHeartbeats 800000 in
theorem l09Rel_any (m : Nat) (ln : List Nat) (a : Option Addr) (len cap i k : Nat) (kind : Int) (w : World) (hl : NatsIn w a ln) (hT : Tb m ln) (hlen : len = m * m) (hi : i < m) (hk : k < m) :
    Calls Tryz.prog 160 #[.agg #[.int .i64 m, .slice a len cap], .int .i64 i, .int .i64 k, .int .i64 kind] w fun e w' => e = .returned (.bool (relK m ln kind i k)) ∧ Below w.heap.size w w' := by
  by_cases h4 : kind = 4
  · subst h4
    have hb1 := alloc_bel w (.cells #[.int .i64 (m : Nat), .slice a len cap] 38)
    have HX : Hid (∀ W, Below (w.alloc (.cells #[.int .i64 (m : Nat), .slice a len cap] 38)).heap.size (w.alloc (.cells #[.int .i64 (m : Nat), .slice a len cap] 38)) W → W.cell? ⟨w.heap.size, 0, none⟩ = some (.int .i64 (m : Nat)) ∧ W.cell? ⟨w.heap.size, 1, none⟩ = some (.slice a len cap)) := Lib.hid (fun W hW => ⟨by rw [hW.cell (by simp)]; simp, by rw [hW.cell (by simp)]; simp⟩)
    have HB := Lib.hid hb1
    have HN := Lib.hid (hl.later hb1)
    have H1 := Lib.hid (fun W (h : NatsIn W a ln) => l09Rel_ne m ln a len cap i k 1 W h hT hlen hi hk (by omega))
    have H2 := Lib.hid (fun W (h : NatsIn W a ln) => l09Rel_ne m ln a len cap i k 2 W h hT hlen hi hk (by omega))
    have HR := Lib.hid (relK_four m ln i k)
    clear hl hT hlen hb1
    generalize relK m ln 1 i k = r1 at *
    generalize relK m ln 2 i k = r2 at *
    go_enter Tryz.func160, Tryz.ntmps160
    go_wp2_with fail
    generalize w.alloc (.cells #[.int .i64 (m : Nat), .slice a len cap] 38) = w1 at *
    refine (H1.out _ HN.out).mono ?_
    rintro e w2 ⟨rfl, hb2⟩
    have HB2 := Lib.hid hb2
    obtain ⟨z0, z1⟩ := HX.out _ hb2
    clear hb2
    cases r1
    · go_wp2_with fail
      go_ret
      exact ⟨ret_bool (by rw [HR.out]; rfl), Below.now HB.out HB2.out⟩
    · go_wp2_with fail
      refine (H2.out _ (HN.out.later HB2.out)).mono ?_
      rintro e w3 ⟨rfl, hb3⟩
      have HB3 := Lib.hid (Below.now HB2.out hb3)
      clear hb3 z0 z1
      go_wp2_with fail
      go_ret
      exact ⟨ret_bool (by rw [HR.out]; simp), Below.now HB.out HB3.out⟩
  · exact l09Rel_ne m ln a len cap i k kind w hl hT hlen hi hk h4
end Go.Proofs.YtggfhephdcnpcaaGreatDoor
namespace Go.Proofs.YtggfhephdcnpcaaGreatDoor
open Go.RowKit
set_option linter.unusedVariables false
theorem clsV_le {p : Nat → Nat → Bool} {i j : Nat} (h : j ≤ i) : 0 ≤ clsV p i j ∧ clsV p i j ≤ (i : Int) := by
  unfold clsV
  have hf := numF_len p i
  cases he : ((List.range i).drop j).find? (p i)
  · simp only; omega
  · rename_i k
    have h2 := List.mem_of_find?_eq_some he
    have h3 := List.mem_range.1 (List.mem_of_mem_drop h2)
    simp only
    rw [numO_nth h3]
    have a1 := numV_nn p (numF p k) k
    have a2 := numV_le (p := p) (F := numF p k) (j := k)
    have a3 := numF_len p k
    omega
theorem numO_app (p : Nat → Nat → Bool) (c : Nat) : intVals (numO p (c + 1)) = intVals (numO p c) ++ [.int .i64 (numV p (numF p c) c)] := by rw [numO_succ]; simp [intVals]
set_option maxRecDepth 100000 in
set_option maxHeartbeats 2000000 in
theorem specClassesOf_any (n : Int) (l : List Int) (a : Option Addr) (cap : Nat) (kind : Int) (w : World) (hl : IntsIn w a l) (hlen : l.length ≤ 2 ^ 47) :
    Calls Tryz.prog 103 #[.agg #[.int .i64 n, .slice a l.length cap], .int .i64 kind] w (RetSl 3 1 (clzF n l kind).length (intVals (clzF n l kind)) w) := by
  have HL := Lib.hid hl
  have HB1 := Lib.hid (alloc_bel w (.cells #[.int .i64 n, .slice a l.length cap] 38))
  have HX : Hid (∀ W, Below (w.alloc (.cells #[.int .i64 n, .slice a l.length cap] 38)).heap.size (w.alloc (.cells #[.int .i64 n, .slice a l.length cap] 38)) W → W.cell? ⟨w.heap.size, 0, none⟩ = some (.int .i64 n) ∧ W.cell? ⟨w.heap.size, 1, none⟩ = some (.slice a l.length cap)) := Lib.hid (fun W hW => ⟨by rw [hW.cell (by simp)]; simp, by rw [hW.cell (by simp)]; simp⟩)
  have HTO := Lib.hid (fun W (h : IntsIn W a l) => specTableOk_any n l a cap W h hlen)
  have HIN := Lib.hid (fun W => l01In_any kind 1 4 W)
  clear hl
  cases ht : tabB n l
  · have F : Hid (∀ w', Below w.heap.size w w' → RetSl 3 1 (clzF n l kind).length (intVals (clzF n l kind)) w (.returned (.slice none 0 0)) w') := Lib.hid (fun w' hb => by rw [clzF_no1 ht]; exact retSl_nil _ _ _ hb)
    rw [ht] at HTO
    clear ht
    go_enter Tryz.func103, Tryz.ntmps103
    go_wp2_with fail
    refine (HTO.out _ (HL.out.later HB1.out)).mono ?_
    rintro e w2 ⟨rfl, hb2⟩
    have HB2 := Lib.hid (Below.now HB1.out hb2)
    clear hb2
    go_wp2_with fail
    go_ret
    exact F.out _ HB2.out
  cases hk : inB kind 1 4
  · have F : Hid (∀ w', Below w.heap.size w w' → RetSl 3 1 (clzF n l kind).length (intVals (clzF n l kind)) w (.returned (.slice none 0 0)) w') := Lib.hid (fun w' hb => by rw [clzF_no2 hk]; exact retSl_nil _ _ _ hb)
    rw [ht] at HTO
    rw [hk] at HIN
    clear ht hk
    go_enter Tryz.func103, Tryz.ntmps103
    go_wp2_with fail
    refine (HTO.out _ (HL.out.later HB1.out)).mono ?_
    rintro e w2 ⟨rfl, hb2⟩
    have HB2 := Lib.hid (Below.now HB1.out hb2)
    clear hb2
    go_wp2_with fail
    refine (HIN.out _).mono ?_
    rintro e w3 ⟨rfl, rfl⟩
    go_wp2_with fail
    go_ret
    exact F.out _ HB2.out
  obtain ⟨m, ln, rfl, hlm, hT⟩ := tabOk_out ht
  have hm0 := hT.lo
  have hm1 := hT.hi
  have HF : Hid (clzF (m : Nat) l kind = numO (relK m ln kind) m) := Lib.hid (by rw [hlm] at ht ⊢; exact clzF_yes ht hk)
  have HLL : Hid (l.length = m * m) := Lib.hid (by rw [hlm, List.length_map]; exact hT.len)
  have HRE := Lib.hid (fun W (h : IntsIn W a l) i k hi hk => l09Rel_any m ln a l.length cap i k kind W (by unfold NatsIn; rw [← hlm]; exact h) hT.toTb HLL.out hi hk)
  have HZ := Lib.hid (fun i => clsV_zero (p := relK m ln kind) (relK_refl m ln kind) (fun i k h => relK_fun h) i)
  rw [ht] at HTO
  rw [hk] at HIN
  rw [HF.out]
  clear ht hk hT hlm
  generalize relK m ln kind = p at *
  go_enter Tryz.func103, Tryz.ntmps103
  go_wp2_with fail
  generalize w.alloc (.cells #[.int .i64 (m : Nat), .slice a l.length cap] 38) = w1 at *
  refine (HTO.out _ (HL.out.later HB1.out)).mono ?_
  rintro e w2 ⟨rfl, hb2⟩
  have HB2 := Lib.hid hb2
  clear hb2
  go_wp2_with fail
  refine (HIN.out _).mono ?_
  rintro e w3 ⟨rfl, rfl⟩
  have HS := Lib.hid (Bld.empty 3 1 w2)
  clear HTO HIN
  go_wp2_with fail
  go_loopw [5, 6, 7] (fun v q i wr => ∃ c : Nat, c ≤ m ∧ i = .int .i64 c ∧ q = .int .i64 ((numF p c).length : Nat) ∧ Hid (Bld 3 1 w2 wr v (numO p c).length (intVals (numO p c)))) (fun _ _ i _ => m - (intOf i).toNat)
  case atStart => exact ⟨0, Nat.zero_le _, rfl, rfl, HS⟩
  case round =>
    clear HS
    obtain ⟨c, hc, rfl, rfl, HO⟩ := hrel
    have HK := Lib.hid (Below.now HB2.out HO.out.2)
    obtain ⟨z0, z1⟩ := HX.out _ HK.out
    by_cases hlt : c < m
    · have hfl := numF_len p c
      have hfc := numF_count (p := p) c
      obtain ⟨ax, cx, rfl⟩ := owns_form HO.out.1
      have HSI : Hid (IntsIn wr ax (numO p c)) := Lib.hid (owns_ints (l := numO p c) HO.out.1)
      have hol := numO_len p c
      have hct := clsV_top p c
      have hc0 := HZ.out c
      have HDN := Lib.hid (fun j (h : j < c) => clsV_down (p := p) h)
      have HLE := Lib.hid (fun j (h : j ≤ c) => clsV_le (p := p) h)
      have HAP := Lib.hid (numO_app p c)
      have hol1 := numO_len p (c + 1)
      have hnn := numV_nn p (numF p c) c
      have hvl := numV_le (p := p) (F := numF p c) (j := c)
      generalize numV p (numF p c) c = nv at *
      obtain ⟨f1, hf1⟩ : ∃ f1, (numF p (c + 1)).length = f1 := ⟨_, rfl⟩
      rw [hf1] at hfc
      have HF1 := Lib.hid hf1
      clear hf1
      generalize (numF p c).length = f0 at *
      generalize clsV p c = cl at *
      have HCT := Lib.hid hct
      have HC0 := Lib.hid hc0
      have HFC := Lib.hid hfc
      have HOL := Lib.hid hol
      have HOL1 := Lib.hid hol1
      have HVL := Lib.hid hvl
      clear hct hc0 hfc hol hol1 hvl
      go_wp2_with fail
      generalize hW : wr = wr0 at *
      clear hW z0 z1
      go_loopw [8, 9] (fun q k wr => ∃ j : Nat, j ≤ c ∧ k = .int .i64 ((j : Int) - 1) ∧ q = .int .i64 (cl j) ∧ Hid (Below wr0.heap.size wr0 wr)) (fun _ k _ => (intOf k + 1).toNat)
      case atStart => exact ⟨c, Nat.le_refl _, rfl, by rw [HCT.out], Lib.hid (Below.refl _ _)⟩
      case round =>
        obtain ⟨j, hj, rfl, rfl, HW⟩ := hrel
        obtain ⟨z0, z1⟩ := HX.out _ (Below.now HK.out HW.out)
        obtain ⟨hq0, hq1⟩ := HLE.out j hj
        by_cases hj0 : 0 < j
        · obtain ⟨j, rfl⟩ : ∃ i, j = i + 1 := ⟨j - 1, by omega⟩
          have hji : (0 : Int) ≤ ((j + 1 : Nat) : Int) - 1 := by omega
          have hjc : ((j + 1 : Nat) : Int) - 1 = (j : Nat) := by omega
          obtain ⟨b, off, rfl, _, hcx⟩ := (HSI.out.later HW.out).cell (i := j) (by rw [HOL.out]; omega)
          have hc1 := hcx j (by rw [HOL.out]; omega)
          have hlx : j < (numO p c).length := by rw [HOL.out]; omega
          have HD := Lib.hid (HDN.out j (by omega))
          have hql := HLE.out j (by omega)
          rw [hjc]
          clear hcx hjc hji
          generalize nthZ (numO p c) j = u at *
          go_wp2_with fail
          refine (HRE.out _ (HL.out.later (Below.now HB1.out (Below.now HK.out HW.out))) c j hlt (by omega)).mono ?_
          rintro e w5 ⟨rfl, hb5⟩
          have HW5 := Lib.hid (Below.now HW.out hb5)
          have hc5 : w5.cell? ⟨b, off + j, none⟩ = some (.int .i64 u) := by rw [hb5.cell (World.block_lt_of_cell? _ _ hc1)]; exact hc1
          clear hb5 z0 z1 hc1
          cases hp : p c j
          · rw [hp] at HD
            have F : Hid (cl (j + 1) = cl j) := Lib.hid (by rw [HD.out]; rfl)
            clear hp
            go_wp2_with fail
            go_roundw
            case rel => exact ⟨j, by omega, (by first | rfl | go_num), by rw [F.out], HW5⟩
            case measure => first | (simp [intOf]; done) | (simp [intOf]; omega)
          · rw [hp] at HD
            have F : Hid (u = cl j) := Lib.hid (by rw [HD.out]; rfl)
            clear hp
            go_wp2_with fail
            go_roundw
            case rel => exact ⟨j, by omega, (by first | rfl | go_num), by rw [F.out], HW5⟩
            case measure => first | (simp [intOf]; done) | (simp [intOf]; omega)
        · obtain rfl : j = 0 := by omega
          have hji : ¬ (0 : Int) ≤ ((0 : Nat) : Int) - 1 := by omega
          rw [HC0.out]
          have HOW := Lib.hid (HO.out.later HW.out)
          have hvl := HVL.out
          clear z0 z1
          by_cases hnv : nv = (f0 : Int)
          · have F1 : Hid ((f0 : Int) + 1 = (f1 : Int)) := Lib.hid (by have := HFC.out; rw [if_pos hnv] at this; omega)
            have hnb : (nv == (f0 : Int)) = true := by simpa using hnv
            clear hnv
            go_wp2_with (at_builtin; refine wpList_app1 rfl _ _ rfl Tryz.underlying33 Tryz.infoInt rfl (by decide) rfl HOW.out rfl rfl ?c1 ?c2 ?c3 ?c4)
            case c1 => simp [Value.oneCell']
            case c2 => rw [HOL.out]; unfold maxLen; omega
            case c3 => rw [HOL.out]; omega
            intro v6 w6 hb6
            have F6 : Hid (Bld 3 1 w2 w6 v6 (numO p (c + 1)).length (intVals (numO p (c + 1)))) := Lib.hid (by have h := hb6; rw [HOL.out] at h; rw [HAP.out, HOL1.out]; exact h)
            clear hb6
            go_wp2_with fail
            go_roundw
            case rel => exact ⟨c + 1, by omega, by go_num, by rw [HF1.out, ← F1.out], F6⟩
            case measure => simp [intOf]; omega
          · have F1 : Hid ((f0 : Int) = (f1 : Int)) := Lib.hid (by have := HFC.out; rw [if_neg hnv] at this; omega)
            have hnb : (nv == (f0 : Int)) = false := by simpa using hnv
            clear hnv
            go_wp2_with (at_builtin; refine wpList_app1 rfl _ _ rfl Tryz.underlying33 Tryz.infoInt rfl (by decide) rfl HOW.out rfl rfl ?d1 ?d2 ?d3 ?d4)
            case d1 => simp [Value.oneCell']
            case d2 => rw [HOL.out]; unfold maxLen; omega
            case d3 => rw [HOL.out]; omega
            intro v6 w6 hb6
            have F6 : Hid (Bld 3 1 w2 w6 v6 (numO p (c + 1)).length (intVals (numO p (c + 1)))) := Lib.hid (by have h := hb6; rw [HOL.out] at h; rw [HAP.out, HOL1.out]; exact h)
            clear hb6
            go_wp2_with fail
            go_roundw
            case rel => exact ⟨c + 1, by omega, by go_num, by rw [HF1.out, ← F1.out], F6⟩
            case measure => simp [intOf]; omega
    · obtain rfl : c = m := by omega
      have F := Lib.hid ((HO.out.since (Below.now HB1.out HB2.out)).ret)
      obtain ⟨ax, cx, rfl⟩ := owns_form HO.out.1
      go_wp2_with fail
      go_ret
      exact F.out
theorem cntF_take {l : List Int} {j : Nat} (h : j < l.length) : cntF (l.take (j + 1)) = max (cntF (l.take j)) (nthZ l j + 1) := by
  rw [List.take_succ_eq_append_getElem h, cntF_step, nthZ_lt h]
set_option maxHeartbeats 1000000 in
theorem specCountClasses_any (n : Int) (l : List Int) (a : Option Addr) (cap : Nat) (kind : Int) (w : World) (hl : IntsIn w a l) (hlen : l.length ≤ 2 ^ 47) :
    Calls Tryz.prog 54 #[.agg #[.int .i64 n, .slice a l.length cap], .int .i64 kind] w fun e w' => e = .returned (.int .i64 (cntF (clzF n l kind))) ∧ Below w.heap.size w w' := by
  have HL := Lib.hid hl
  have HB1 := Lib.hid (alloc_bel w (.cells #[.int .i64 n, .slice a l.length cap] 38))
  have HC := Lib.hid (fun W (h : IntsIn W a l) => specClassesOf_any n l a cap kind W h hlen)
  have HSM := Lib.hid (fun x (h : x ∈ clzF n l kind) => clzF_small h)
  have hcl := clzF_len n l kind
  clear hl
  generalize clzF n l kind = z at *
  go_enter Tryz.func54, Tryz.ntmps54
  go_wp2_with fail
  refine (HC.out _ (HL.out.later HB1.out)).mono ?_
  rintro e w2 ⟨az, cz, rfl, ho, hb2⟩
  have HB2 := Lib.hid (Below.now HB1.out hb2)
  have HZ : Hid (IntsIn w2 az z) := Lib.hid (owns_ints (l := z) ho)
  clear ho hb2
  go_wp2_with fail
  go_loopw [5, 12] (fun q i wr => ∃ j : Nat, j ≤ z.length ∧ i = .int .i64 j ∧ q = .int .i64 (cntF (z.take j)) ∧ wr = w2) (fun _ i _ => z.length - (intOf i).toNat)
  case atStart => exact ⟨0, Nat.zero_le _, rfl, rfl, rfl⟩
  case round =>
    obtain ⟨j, hj, rfl, rfl, rfl⟩ := hrel
    by_cases hlt : j < z.length
    · obtain ⟨b, off, rfl, _, hcx⟩ := HZ.out.cell hlt
      have hc1 := hcx j hlt
      have HS := Lib.hid (cntF_take hlt)
      have hu := HSM.out (nthZ z j) (by rw [nthZ_lt hlt]; exact List.getElem_mem hlt)
      have hq := cntF_few (l := z.take j) (n := 40) (fun x hx => by have := HSM.out x (List.mem_of_mem_take hx); omega)
      clear hcx
      generalize nthZ z j = u at *
      generalize cntF (z.take j) = q at *
      have hmx : Hid (max q (u + 1) = if q < u + 1 then u + 1 else q) := Lib.hid (by split <;> omega)
      go_wp2_with fail
      go_roundw
      case rel => exact ⟨j + 1, by omega, by go_num, by rw [HS.out]; try (rw [hmx.out]); try (go_num), trivial⟩
      case measure => simp [intOf]; omega
    · have e : z.take j = z := List.take_of_length_le (by omega)
      rw [e]
      clear e
      go_wp2_with fail
      go_ret
      exact ⟨rfl, HB2.out⟩
end Go.Proofs.YtggfhephdcnpcaaGreatDoor
namespace Go.Proofs.YtggfhephdcnpcaaGreatDoor
open Go.RowKit
set_option linter.unusedVariables false
/-- the first x of them hold -/
def allN (p : Nat → Bool) (x : Nat) : Bool := (List.range x).all p
theorem allN_zero (p : Nat → Bool) : allN p 0 = true := by simp [allN]
theorem allN_succ (p : Nat → Bool) (x : Nat) : allN p (x + 1) = (allN p x && p x) := by simp [allN, List.range_succ]
theorem zeroF_at {m : Nat} {ln : List Nat} (ht : tabB (m : Nat) (ln.map Int.ofNat) = true) {c : Nat} (hn : ∀ z, z < c → zeroB m ln z = false) (hc : c < m) (hz : zeroB m ln c = true) : zeroF (m : Nat) (ln.map Int.ofNat) = (c : Nat) := by
  unfold zeroF thoseL
  rw [ht, map_toNat]
  simp only [if_true, Int.toNat_natCast]
  have h1 : (List.range m).filter (zeroB m ln) = c :: ((List.range m).drop (c + 1)).filter (zeroB m ln) := by
    have h2 : List.range m = (List.range m).take c ++ (c :: (List.range m).drop (c + 1)) := by
      have hd : (List.range m).drop c = c :: (List.range m).drop (c + 1) := by rw [List.drop_eq_getElem_cons (by simpa using hc)]; simp
      rw [← hd, List.take_append_drop]
    rw [h2, List.filter_append, List.filter_cons, if_pos hz]
    have h3 : ((List.range m).take c).filter (zeroB m ln) = [] := by
      rw [List.filter_eq_nil_iff]
      intro z hz
      rw [List.take_range] at hz
      have := hn z (by have := List.mem_range.1 hz; omega)
      simp [this]
    rw [h3, ← h2]
    simp
  rw [h1]
  rfl
theorem zeroF_none {m : Nat} {ln : List Nat} {c : Nat} (hn : ∀ z, z < c → zeroB m ln z = false) (hc : ¬ c < m) : zeroF (m : Nat) (ln.map Int.ofNat) = -1 := by
  unfold zeroF thoseL
  rw [map_toNat]
  simp only [Int.toNat_natCast]
  have h1 : (List.range m).filter (zeroB m ln) = [] := by
    rw [List.filter_eq_nil_iff]
    intro z hz
    have := hn z (by have := List.mem_range.1 hz; omega)
    simp [this]
  rw [h1]
  split <;> rfl
theorem zeroF_not {n : Int} {l : List Int} (h : tabB n l = false) : zeroF n l = -1 := by unfold zeroF thoseL; rw [h]; rfl
theorem noneZ_succ {p : Nat → Bool} {c : Nat} (h : ∀ z, z < c → p z = false) (hc : p c = false) : ∀ z, z < c + 1 → p z = false := fun z hz => by
  by_cases e : z = c
  · rw [e]; exact hc
  · exact h z (by omega)
end Go.Proofs.YtggfhephdcnpcaaGreatDoor
