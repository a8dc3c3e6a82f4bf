/-
  The walk of 'FnTables'.
-/
import Derived.Test.YtdhaebbfiaddnaaGrp23
import Derived.Test.YtdhaebbfiaddnaaGrp31
import Derived.Test.YtdhaebbfiaddnaaGrp32
import Derived.Test.YtdhaebbfiaddnaaGrp28
import Derived.Test.YtdhaebbfiaddnaaGrp29
import Derived.Test.YtdhaebbfiaddnaaGrp03
namespace Go.Proofs.Ytdhaebbfiaddnaa.fnTables
open Go.RowKit
set_option linter.unusedVariables false
/-- an operation whose guard names one that was not taken -/
theorem wanted_undef {ops : List Oper} {tmps : Array Value} {o : Oper} {j d : Nat} {b : Bool} {v : Value} (hg : o.guard = some (j, b)) (hd : (ops[j]?).bind (·.dst) = some d) (ht : tmps[d]? = some v) (hv : v = undef) : Region.wanted o (yielded ops.toArray tmps) = false := by
  subst hv
  have h1 : (ops.toArray[j]?).bind (·.dst) = some d := by simpa using hd
  have h2 : yielded ops.toArray tmps j = none := by
    unfold yielded
    rw [h1]
    show (match tmps[d]? with | some (.bool b) => some b | _ => none) = none
    rw [ht]
    rfl
  simp [Region.wanted, hg, h2]
set_option maxRecDepth 100000 in
set_option maxHeartbeats 16000000 in
theorem walkSmall (a : Option Addr) (l : List UInt8) (cap : Nat) (w : World) (hl : BytesIn w a l) (hlen : l.length ≤ 1048576) :
    Calls Try.prog 3 #[.slice a l.length cap] w fun e w' => e = .returned (.bool true) ∧ Below w.heap.size w w' := by
  have hq0 : ¬ (1048576 : Int) < (l.length : Int) := by omega
  have HM := Lib.hid (makeTable_any a l cap 0 w hl (by omega) (by omega))
  have HM30 := Lib.hid (fun W (h : BytesIn W a l) => makeTable_any a l cap 30 W h (by omega) (by omega))
  have HNUM20 := Lib.hid (fun W (h : BytesIn W a l) => makeNum_any a l cap 20 W h (by omega) (by omega))
  have HL0 := Lib.hid hl
  clear hl
  go_enter Try.func3, Try.ntmps3
  go_wp2_with fail
  refine HM.out.mono ?_
  rintro e w1 ⟨m, z, az, cz, hT, rfl, hz, hcap, hb1⟩
  obtain ⟨hzl, hm1, hm2⟩ := hT.few
  have HT := Lib.hid hT
  have HZI : Hid (∀ W, Below w1.heap.size w1 W → IntsIn W az z) := Lib.hid (fun W h => hz.later h)
  have HB1 := Lib.hid hb1
  clear hb1 HM hT hz
  go_upto_region 4 with fail
  have HW2 := Lib.hid (alloc_belowT w1 (.cells #[.int .i64 (m : Nat), .slice az z.length cz] 25))
  have HX : Hid (∀ W, Below (w1.alloc (.cells #[.int .i64 (m : Nat), .slice az z.length cz] 25)).heap.size (w1.alloc (.cells #[.int .i64 (m : Nat), .slice az z.length cz] 25)) W → W.cell? ⟨w1.heap.size, 0, none⟩ = some (.int .i64 (m : Nat)) ∧ W.cell? ⟨w1.heap.size, 1, none⟩ = some (.slice az z.length cz)) := Lib.hid (fun W hW => ⟨by rw [hW.cell (by simp)]; simp, by rw [hW.cell (by simp)]; simp⟩)
  generalize w1.alloc (.cells #[.int .i64 (m : Nat), .slice az z.length cz] 25) = w2 at *
  have HZW : Hid (∀ W, Below w2.heap.size w2 W → IntsIn W az z) := Lib.hid (fun W h => HZI.out W (Below.now HW2.out h))
  have HBY : Hid (∀ W, Below w2.heap.size w2 W → BytesIn W a l) := Lib.hid (fun W h => HL0.out.later (Below.now HB1.out (Below.now HW2.out h)))
  clear HZI HL0
  have hmz : ((m : Int) == 0) = false := by rw [beq_eq_false_iff_ne]; omega
  have hmz2 : ¬ (m : Int) = 0 := by omega
  have hmz3 : ¬ m = 0 := by omega
  refine region_each (fun W => Below w2.heap.size w2 W) (fun W W2 => Below W.heap.size W W2) (fun u => by simp only [fPut, Act.put, List.setIfInBounds_toArray, List.set_cons_succ, List.set_cons_zero, Nat.zero_add, Nat.reduceAdd]; rfl) (by kernel_rfl) (by kernel_rfl) (by kernel_rfl) (Below.drew (Below.refl _ _)) ?_
  apply each_read (fun _ => Below.refl _ _) rfl
  · intro u wv hC hf
    have z0 := (HX.out _ hC).1
    have z1 := (HX.out _ hC).2
    clear hf
    go_simp
    try rfl
  refine each_call (fun v wv => ∃ x : Nat, v = .int .i64 ((x : Nat) : Int)) (fun v w w2 _ hR h => h) rfl ?_ ?_
  · intro u wv hC hf
    have z0 := (HX.out _ hC).1
    have z1 := (HX.out _ hC).2
    obtain ⟨d0_0, -⟩ := hf
    have e0 : u 0 = _ := d0_0 rfl
    clear d0_0
    apply Exists.intro; apply Exists.intro; apply And.intro
    · go_simp; exact ⟨rfl, rfl⟩
    · refine (HNUM20.out _ (HBY.out _ hC)).mono ?_
      rintro e w3 ⟨x, hx, rfl, hb⟩
      exact ⟨_, rfl, Below.now hC hb, hb, x, rfl⟩
  apply each_read (fun _ => Below.refl _ _) rfl
  · intro u wv hC hf
    have z0 := (HX.out _ hC).1
    have z1 := (HX.out _ hC).2
    clear hf
    go_simp
    try rfl
  apply each_read (fun _ => Below.refl _ _) rfl
  · intro u wv hC hf
    have z0 := (HX.out _ hC).1
    have z1 := (HX.out _ hC).2
    obtain ⟨d2_0, -⟩ := hf
    have e2 : u 2 = _ := d2_0 rfl
    clear d2_0
    go_simp
    try rfl
  refine each_do (fun v wv => ∃ i : Nat, i < m ∧ v = .int .i64 ((i : Nat) : Int)) (fun v w w2 _ hR h => h) rfl ?_ ?_
  · intro u wv hC hf
    have z0 := (HX.out _ hC).1
    have z1 := (HX.out _ hC).2
    obtain ⟨d1_0, d3_1, -⟩ := hf
    obtain ⟨x1, e1⟩ := d1_0 rfl
    have e3 : u 3 = _ := d3_1 rfl
    clear d3_1
    refine ⟨.int .i64 (((x1 % m : Nat)) : Int), wv, ?_, hC, Below.refl _ _, x1 % m, Nat.mod_lt _ (by omega), rfl⟩
    rw [Int.ofNat_tmod]
    go_simp
    try rfl
  refine each_do (fun v wv => ∃ i : Nat, i < m ∧ v = .int .i64 ((i : Nat) : Int)) (fun v w w2 _ hR h => h) rfl ?_ ?_
  · intro u wv hC hf
    have z0 := (HX.out _ hC).1
    have z1 := (HX.out _ hC).2
    obtain ⟨d4_0, d1_1, d0_2, d1_3, d2_4, d3_5, d4_6, -⟩ := hf
    obtain ⟨i4, hi4, e4⟩ := d4_0 rfl
    obtain ⟨x1, e1⟩ := d1_1 rfl
    have e0 : u 0 = _ := d0_2 rfl
    clear d0_2
    clear d1_3
    have e2 : u 2 = _ := d2_4 rfl
    clear d2_4
    have e3 : u 3 = _ := d3_5 rfl
    clear d3_5
    clear d4_6
    refine ⟨.int .i64 ((i4 : Nat) : Int), wv, ?_, hC, Below.refl _ _, i4, hi4, rfl⟩
    go_simp
    try rfl
  intro u w3 hb3 hall
  obtain ⟨a0, a1, a2, a3, a4, a5, -⟩ := hall
  have e0 : u 0 = _ := a0
  clear a0
  obtain ⟨x1, e1⟩ := a1
  replace e1 : u 1 = _ := e1
  have e2 : u 2 = _ := a2
  clear a2
  have e3 : u 3 = _ := a3
  clear a3
  obtain ⟨i4, hi4, e4⟩ := a4
  replace e4 : u 4 = _ := e4
  obtain ⟨i, hi, e5⟩ := a5
  replace e5 : u 5 = _ := e5
  simp only [e0, e1, e2, e3, e4, e5]
  clear e0 e1 e2 e3 e4 e5
  have HB3 := Lib.hid hb3
  clear hb3 HNUM20
  obtain ⟨hK1, hK2, _⟩ := HT.out.nats.1.toTb.repK_spec hi
  have hN := HT.out.nats.1.toTb.repN_le hi
  have HIP := Lib.hid (fun W (h : IntsIn W az z) => implIndexPeriod_ok m z az cz i W h HT.out hi)
  have HPW := Lib.hid (fun (n : Nat) W (h : IntsIn W az z) (hn : n ≤ 40) => implPowerOf_ok m z az cz i n W h HT.out hi (by omega))
  have HPK := Lib.hid (fun W (h : IntsIn W az z) => HPW.out (repK m (z.map Int.toNat) i) W h (by omega))
  rw [hK2] at HPK
  have HPN := Lib.hid (fun W (h : IntsIn W az z) => HPW.out (repN m (z.map Int.toNat) i) W h (by omega))
  have HOP := Lib.hid (fun W (h : IntsIn W az z) => implOppositeTable_ok m z az cz W h HT.out)
  have HOQ := Lib.hid (fun ao co W (h : IntsIn W ao ((oppT m (z.map Int.toNat)).map Int.ofNat)) => implOppositeTable_ok m ((oppT m (z.map Int.toNat)).map Int.ofNat) ao co W h HT.out.opp)
  rw [HT.out.opp2] at HOQ
  have hol := HT.out.opp.few.1
  have HSA := Lib.hid (fun aq cq W (h1 : IntsIn W aq z) (h2 : IntsIn W az z) => lawSame_any z z aq az cq cz W h1 h2 (by omega) (by omega))
  rw [decide_eq_true (rfl : z = z)] at HSA
  have HIC := Lib.hid (fun W (h : IntsIn W az z) => implIsCommutative_ok m z az cz W h HT.out)
  rw [HT.out.com] at HIC
  have HIT := Lib.hid (fun W (h : IntsIn W az z) => implIdempotentsOf_any (m : Nat) z az cz W h (by omega))
  have HHIT := Lib.hid (fun j h => HT.out.hit hi (j := j) h)
  have hEl : (idemF (m : Int) z).length ≤ m := by rw [idemF_tab HT.out]; exact listTo_len _ _
  generalize hOO : (oppT m (z.map Int.toNat)).map Int.ofNat = O at *
  have HSB := Lib.hid (fun ao co W (h1 : IntsIn W ao O) (h2 : IntsIn W az z) => lawSame_any O z ao az co cz W h1 h2 (by omega) (by omega))
  clear hOO hK2
  generalize decide (O = z) = bc at *
  generalize hEq : idemF (m : Int) z = E at HIT HHIT hEl
  have HEE : Hid (idemF (m : Int) z = E) := Lib.hid hEq
  clear hEq
  generalize pw m (z.map Int.toNat) i = P at *
  generalize repN m (z.map Int.toNat) i = N at *
  generalize repK m (z.map Int.toNat) i = K at *
  generalize hp : N - K = p at *
  have hKp : K + p = N := by omega
  have hw : IntKind.i64.wrap ((K : Int) + (p : Int)) = ((N : Nat) : Int) := by rw [← Int.natCast_add, hKp]; exact IntWalk.i64_in _ (by omega)
  have hp1 : ¬ ((p : Nat) : Int) < 1 := by omega
  have hp2 : ¬ p = 0 := by omega
  have hp3 : decide (((p : Nat) : Int) < 1) = false := decide_eq_false hp1
  have hk1 : ¬ ((K : Nat) : Int) < 0 := by omega
  have hNm : ¬ ((m : Nat) : Int) < ((N : Nat) : Int) := by omega
  have hk2 : decide (((K : Nat) : Int) < 0) = false := decide_eq_false hk1
  have hNm2 : decide (m < N) = false := decide_eq_false (by omega)
  have hNm3 : ¬ m < N := by omega
  clear hp hKp
  obtain ⟨z0, z1⟩ := HX.out _ HB3.out
  go_wp2_with fail
  refine (HIP.out _ (HZW.out _ HB3.out)).mono ?_
  rintro e w4 ⟨rfl, hb⟩
  have HB4 := Lib.hid (Below.now HB3.out hb)
  clear z0 z1 hb
  obtain ⟨z0, z1⟩ := HX.out _ HB4.out
  go_wp2_with fail
  refine (HPK.out _ (HZW.out _ HB4.out)).mono ?_
  rintro e w5 ⟨rfl, hb⟩
  have HB5 := Lib.hid (Below.now HB4.out hb)
  clear z0 z1 hb
  obtain ⟨z0, z1⟩ := HX.out _ HB5.out
  go_wp2_with fail
  refine (HPN.out _ (HZW.out _ HB5.out)).mono ?_
  rintro e w6 ⟨rfl, hb⟩
  have HB6 := Lib.hid (Below.now HB5.out hb)
  clear z0 z1 hb
  obtain ⟨z0, z1⟩ := HX.out _ HB6.out
  go_wp2_with fail
  refine (HOP.out _ (HZW.out _ HB6.out)).mono ?_
  rintro e w7 ⟨aO, cO, rfl, hO7, hb⟩
  have HB7 := Lib.hid (Below.now HB6.out hb)
  have HO7 := Lib.hid hO7
  clear z0 z1 hb hO7
  go_wp2_with fail
  have HXO : Hid (∀ W, Below (w7.alloc (.cells #[.int .i64 (m : Nat), .slice aO O.length cO] 25)).heap.size (w7.alloc (.cells #[.int .i64 (m : Nat), .slice aO O.length cO] 25)) W → W.cell? ⟨w7.heap.size, 1, none⟩ = some (.slice aO O.length cO)) := Lib.hid (fun W hW => by rw [hW.cell (by simp)]; simp)
  refine (HOQ.out _ _ _ (HO7.out.later (alloc_belowT _ _))).mono ?_
  rintro e w8 ⟨aQ, cQ, rfl, hQ8, hb8⟩
  have HQ8 := Lib.hid hQ8
  have HB8 := Lib.hid (Below.now HB7.out (Below.now (alloc_belowT _ _) hb8))
  go_upto_region 10 with fail
  have HXQ : Hid (∀ W, Below (w8.alloc (.cells #[.int .i64 (m : Nat), .slice aQ z.length cQ] 25)).heap.size (w8.alloc (.cells #[.int .i64 (m : Nat), .slice aQ z.length cQ] 25)) W → W.cell? ⟨w8.heap.size, 1, none⟩ = some (.slice aQ z.length cQ)) := Lib.hid (fun W hW => by rw [hW.cell (by simp)]; simp)
  have HB9 : Hid (Below w2.heap.size w2 (w8.alloc (.cells #[.int .i64 (m : Nat), .slice aQ z.length cQ] 25))) := Lib.hid (Below.now HB8.out (alloc_belowT _ _))
  have HO9 : Hid (Below (w7.alloc (.cells #[.int .i64 (m : Nat), .slice aO O.length cO] 25)).heap.size (w7.alloc (.cells #[.int .i64 (m : Nat), .slice aO O.length cO] 25)) (w8.alloc (.cells #[.int .i64 (m : Nat), .slice aQ z.length cQ] 25))) := Lib.hid (Below.now hb8 (alloc_belowT _ _))
  have HOI : Hid (∀ W, Below (w8.alloc (.cells #[.int .i64 (m : Nat), .slice aQ z.length cQ] 25)).heap.size (w8.alloc (.cells #[.int .i64 (m : Nat), .slice aQ z.length cQ] 25)) W → IntsIn W aO O) := Lib.hid (fun W h => HO7.out.later (Below.now (alloc_belowT _ _) (Below.now HO9.out h)))
  have HQI : Hid (∀ W, Below (w8.alloc (.cells #[.int .i64 (m : Nat), .slice aQ z.length cQ] 25)).heap.size (w8.alloc (.cells #[.int .i64 (m : Nat), .slice aQ z.length cQ] 25)) W → IntsIn W aQ z) := Lib.hid (fun W h => HQ8.out.later (Below.now (alloc_belowT _ _) h))
  clear hb8 hQ8 HB8
  generalize w8.alloc (.cells #[.int .i64 (m : Nat), .slice aQ z.length cQ] 25) = w9 at *
  have HX9 : Hid (∀ W, Below w9.heap.size w9 W → W.cell? ⟨w1.heap.size, 0, none⟩ = some (.int .i64 (m : Nat)) ∧ W.cell? ⟨w1.heap.size, 1, none⟩ = some (.slice az z.length cz) ∧ W.cell? ⟨w7.heap.size, 1, none⟩ = some (.slice aO O.length cO) ∧ W.cell? ⟨w8.heap.size, 1, none⟩ = some (.slice aQ z.length cQ)) := Lib.hid (fun W hW => by
    have e1 := HX.out W (Below.now HB9.out hW)
    exact ⟨e1.1, e1.2, HXO.out W (Below.now HO9.out hW), HXQ.out W hW⟩)
  refine region_each (fun W => Below w9.heap.size w9 W) (fun W W2 => Below W.heap.size W W2) (fun u => by simp only [fPut, Act.put, List.setIfInBounds_toArray, List.set_cons_succ, List.set_cons_zero, Nat.zero_add, Nat.reduceAdd]; rfl) (by kernel_rfl) (by kernel_rfl) (by kernel_rfl) (Below.drew (Below.refl _ _)) ?_
  apply each_read (fun _ => Below.refl _ _) rfl
  · intro u wv hC hf
    have z0 := (HX9.out _ hC).1
    have z1 := (HX9.out _ hC).2.1
    have o1 := (HX9.out _ hC).2.2.1
    have q1 := (HX9.out _ hC).2.2.2
    clear hf
    go_simp
    try rfl
  apply each_read (fun _ => Below.refl _ _) rfl
  · intro u wv hC hf
    have z0 := (HX9.out _ hC).1
    have z1 := (HX9.out _ hC).2.1
    have o1 := (HX9.out _ hC).2.2.1
    have q1 := (HX9.out _ hC).2.2.2
    obtain ⟨d0_0, -⟩ := hf
    have e0 : u 0 = _ := d0_0 rfl
    clear d0_0
    go_simp
    try rfl
  conv => arg 8; simp only [List.cons_append, List.nil_append]
  apply each_read (fun _ => Below.refl _ _) rfl
  · intro u wv hC hf
    have z0 := (HX9.out _ hC).1
    have z1 := (HX9.out _ hC).2.1
    have o1 := (HX9.out _ hC).2.2.1
    have q1 := (HX9.out _ hC).2.2.2
    obtain ⟨d1_0, -⟩ := hf
    have e1 : u 1 = _ := d1_0 rfl
    clear d1_0
    go_simp
    try rfl
  conv => arg 8; simp only [List.cons_append, List.nil_append]
  apply each_readG (fun _ => Below.refl _ _)
  · intro u wv hC hf
    have z0 := (HX9.out _ hC).1
    have z1 := (HX9.out _ hC).2.1
    have o1 := (HX9.out _ hC).2.2.1
    have q1 := (HX9.out _ hC).2.2.2
    obtain ⟨d2_0, -⟩ := hf
    have e2 : u 2 = _ := d2_0 rfl
    clear d2_0
    refine ⟨wanted_at rfl rfl rfl e2 rfl, ?_⟩
    go_simp
    try rfl
  conv => arg 8; simp only [List.cons_append, List.nil_append]
  apply each_readG (fun _ => Below.refl _ _)
  · intro u wv hC hf
    have z0 := (HX9.out _ hC).1
    have z1 := (HX9.out _ hC).2.1
    have o1 := (HX9.out _ hC).2.2.1
    have q1 := (HX9.out _ hC).2.2.2
    obtain ⟨d3_0, d2_1, -⟩ := hf
    have e3 : u 3 = _ := d3_0 rfl
    clear d3_0
    have e2 : u 2 = _ := d2_1 rfl
    clear d2_1
    refine ⟨wanted_at rfl rfl rfl e2 rfl, ?_⟩
    go_simp
    try rfl
  conv => arg 8; simp only [List.cons_append, List.nil_append]
  apply each_read (fun _ => Below.refl _ _) rfl
  · intro u wv hC hf
    have z0 := (HX9.out _ hC).1
    have z1 := (HX9.out _ hC).2.1
    have o1 := (HX9.out _ hC).2.2.1
    have q1 := (HX9.out _ hC).2.2.2
    obtain ⟨d2_0, d4_1, -⟩ := hf
    have e2 : u 2 = _ := d2_0 rfl
    clear d2_0
    have e4 : u 4 = _ := d4_1 rfl
    clear d4_1
    go_simp
    try rfl
  conv => arg 8; simp only [List.cons_append, List.nil_append]
  apply each_read (fun _ => Below.refl _ _) rfl
  · intro u wv hC hf
    have z0 := (HX9.out _ hC).1
    have z1 := (HX9.out _ hC).2.1
    have o1 := (HX9.out _ hC).2.2.1
    have q1 := (HX9.out _ hC).2.2.2
    obtain ⟨d5_0, d2_1, -⟩ := hf
    have e5 : u 5 = _ := d5_0 rfl
    clear d5_0
    have e2 : u 2 = _ := d2_1 rfl
    clear d2_1
    go_simp
    try rfl
  conv => arg 8; simp only [List.cons_append, List.nil_append]
  apply each_readG (fun _ => Below.refl _ _)
  · intro u wv hC hf
    have z0 := (HX9.out _ hC).1
    have z1 := (HX9.out _ hC).2.1
    have o1 := (HX9.out _ hC).2.2.1
    have q1 := (HX9.out _ hC).2.2.2
    obtain ⟨d6_0, -⟩ := hf
    have e6 : u 6 = _ := d6_0 rfl
    clear d6_0
    refine ⟨wanted_at rfl rfl rfl e6 rfl, ?_⟩
    go_simp
    try rfl
  conv => arg 8; simp only [List.cons_append, List.nil_append]
  apply each_readG (fun _ => Below.refl _ _)
  · intro u wv hC hf
    have z0 := (HX9.out _ hC).1
    have z1 := (HX9.out _ hC).2.1
    have o1 := (HX9.out _ hC).2.2.1
    have q1 := (HX9.out _ hC).2.2.2
    obtain ⟨d6_0, -⟩ := hf
    have e6 : u 6 = _ := d6_0 rfl
    clear d6_0
    refine ⟨wanted_at rfl rfl rfl e6 rfl, ?_⟩
    go_simp
    try rfl
  conv => arg 8; simp only [List.cons_append, List.nil_append]
  apply each_readG (fun _ => Below.refl _ _)
  · intro u wv hC hf
    have z0 := (HX9.out _ hC).1
    have z1 := (HX9.out _ hC).2.1
    have o1 := (HX9.out _ hC).2.2.1
    have q1 := (HX9.out _ hC).2.2.2
    obtain ⟨d7_0, d8_1, d6_2, -⟩ := hf
    have e7 : u 7 = _ := d7_0 rfl
    clear d7_0
    have e8 : u 8 = _ := d8_1 rfl
    clear d8_1
    have e6 : u 6 = _ := d6_2 rfl
    clear d6_2
    refine ⟨wanted_at rfl rfl rfl e6 rfl, ?_⟩
    go_simp
    try rfl
  conv => arg 8; simp only [List.cons_append, List.nil_append]
  apply each_read (fun _ => Below.refl _ _) rfl
  · intro u wv hC hf
    have z0 := (HX9.out _ hC).1
    have z1 := (HX9.out _ hC).2.1
    have o1 := (HX9.out _ hC).2.2.1
    have q1 := (HX9.out _ hC).2.2.2
    obtain ⟨d6_0, d9_1, -⟩ := hf
    have e6 : u 6 = _ := d6_0 rfl
    clear d6_0
    have e9 : u 9 = _ := d9_1 rfl
    clear d9_1
    go_simp
    try rfl
  conv => arg 8; simp only [List.cons_append, List.nil_append]
  apply each_read (fun _ => Below.refl _ _) rfl
  · intro u wv hC hf
    have z0 := (HX9.out _ hC).1
    have z1 := (HX9.out _ hC).2.1
    have o1 := (HX9.out _ hC).2.2.1
    have q1 := (HX9.out _ hC).2.2.2
    obtain ⟨d10_0, d6_1, -⟩ := hf
    have e10 : u 10 = _ := d10_0 rfl
    clear d10_0
    have e6 : u 6 = _ := d6_1 rfl
    clear d6_1
    go_simp
    try rfl
  conv => arg 8; simp only [List.cons_append, List.nil_append]
  apply each_readG (fun _ => Below.refl _ _)
  · intro u wv hC hf
    have z0 := (HX9.out _ hC).1
    have z1 := (HX9.out _ hC).2.1
    have o1 := (HX9.out _ hC).2.2.1
    have q1 := (HX9.out _ hC).2.2.2
    obtain ⟨d11_0, -⟩ := hf
    have e11 : u 11 = _ := d11_0 rfl
    clear d11_0
    refine ⟨wanted_at rfl rfl rfl e11 rfl, ?_⟩
    go_simp
    try rfl
  conv => arg 8; simp only [List.cons_append, List.nil_append]
  apply each_readG (fun _ => Below.refl _ _)
  · intro u wv hC hf
    have z0 := (HX9.out _ hC).1
    have z1 := (HX9.out _ hC).2.1
    have o1 := (HX9.out _ hC).2.2.1
    have q1 := (HX9.out _ hC).2.2.2
    obtain ⟨d12_0, d11_1, -⟩ := hf
    have e12 : u 12 = _ := d12_0 rfl
    clear d12_0
    have e11 : u 11 = _ := d11_1 rfl
    clear d11_1
    refine ⟨wanted_at rfl rfl rfl e11 rfl, ?_⟩
    go_simp
    try rfl
  conv => arg 8; simp only [List.cons_append, List.nil_append]
  apply each_read (fun _ => Below.refl _ _) rfl
  · intro u wv hC hf
    have z0 := (HX9.out _ hC).1
    have z1 := (HX9.out _ hC).2.1
    have o1 := (HX9.out _ hC).2.2.1
    have q1 := (HX9.out _ hC).2.2.2
    obtain ⟨d11_0, d13_1, -⟩ := hf
    have e11 : u 11 = _ := d11_0 rfl
    clear d11_0
    have e13 : u 13 = _ := d13_1 rfl
    clear d13_1
    go_simp
    try rfl
  conv => arg 8; simp only [List.cons_append, List.nil_append]
  apply each_read (fun _ => Below.refl _ _) rfl
  · intro u wv hC hf
    have z0 := (HX9.out _ hC).1
    have z1 := (HX9.out _ hC).2.1
    have o1 := (HX9.out _ hC).2.2.1
    have q1 := (HX9.out _ hC).2.2.2
    obtain ⟨d14_0, d11_1, -⟩ := hf
    have e14 : u 14 = _ := d14_0 rfl
    clear d14_0
    have e11 : u 11 = _ := d11_1 rfl
    clear d11_1
    go_simp
    try rfl
  conv => arg 8; simp only [List.cons_append, List.nil_append]
  apply each_readG (fun _ => Below.refl _ _)
  · intro u wv hC hf
    have z0 := (HX9.out _ hC).1
    have z1 := (HX9.out _ hC).2.1
    have o1 := (HX9.out _ hC).2.2.1
    have q1 := (HX9.out _ hC).2.2.2
    obtain ⟨d15_0, -⟩ := hf
    have e15 : u 15 = _ := d15_0 rfl
    clear d15_0
    refine ⟨wanted_at rfl rfl rfl e15 rfl, ?_⟩
    go_simp
    try rfl
  conv => arg 8; simp only [List.cons_append, List.nil_append]
  apply each_readG (fun _ => Below.refl _ _)
  · intro u wv hC hf
    have z0 := (HX9.out _ hC).1
    have z1 := (HX9.out _ hC).2.1
    have o1 := (HX9.out _ hC).2.2.1
    have q1 := (HX9.out _ hC).2.2.2
    obtain ⟨d16_0, d15_1, -⟩ := hf
    have e16 : u 16 = _ := d16_0 rfl
    clear d16_0
    have e15 : u 15 = _ := d15_1 rfl
    clear d15_1
    refine ⟨wanted_at rfl rfl rfl e15 rfl, ?_⟩
    go_simp
    try rfl
  conv => arg 8; simp only [List.cons_append, List.nil_append]
  apply each_read (fun _ => Below.refl _ _) rfl
  · intro u wv hC hf
    have z0 := (HX9.out _ hC).1
    have z1 := (HX9.out _ hC).2.1
    have o1 := (HX9.out _ hC).2.2.1
    have q1 := (HX9.out _ hC).2.2.2
    obtain ⟨d15_0, d17_1, -⟩ := hf
    have e15 : u 15 = _ := d15_0 rfl
    clear d15_0
    have e17 : u 17 = _ := d17_1 rfl
    clear d17_1
    go_simp
    try rfl
  conv => arg 8; simp only [List.cons_append, List.nil_append]
  apply each_read (fun _ => Below.refl _ _) rfl
  · intro u wv hC hf
    have z0 := (HX9.out _ hC).1
    have z1 := (HX9.out _ hC).2.1
    have o1 := (HX9.out _ hC).2.2.1
    have q1 := (HX9.out _ hC).2.2.2
    obtain ⟨d18_0, d15_1, -⟩ := hf
    have e18 : u 18 = _ := d18_0 rfl
    clear d18_0
    have e15 : u 15 = _ := d15_1 rfl
    clear d15_1
    go_simp
    try rfl
  conv => arg 8; simp only [List.cons_append, List.nil_append]
  apply each_readG (fun _ => Below.refl _ _)
  · intro u wv hC hf
    have z0 := (HX9.out _ hC).1
    have z1 := (HX9.out _ hC).2.1
    have o1 := (HX9.out _ hC).2.2.1
    have q1 := (HX9.out _ hC).2.2.2
    obtain ⟨d19_0, -⟩ := hf
    have e19 : u 19 = _ := d19_0 rfl
    clear d19_0
    refine ⟨wanted_at rfl rfl rfl e19 rfl, ?_⟩
    go_simp
    try rfl
  conv => arg 8; simp only [List.cons_append, List.nil_append]
  apply each_readG (fun _ => Below.refl _ _)
  · intro u wv hC hf
    have z0 := (HX9.out _ hC).1
    have z1 := (HX9.out _ hC).2.1
    have o1 := (HX9.out _ hC).2.2.1
    have q1 := (HX9.out _ hC).2.2.2
    obtain ⟨d19_0, -⟩ := hf
    have e19 : u 19 = _ := d19_0 rfl
    clear d19_0
    refine ⟨wanted_at rfl rfl rfl e19 rfl, ?_⟩
    go_simp
    try rfl
  conv => arg 8; simp only [List.cons_append, List.nil_append]
  apply each_readG (fun _ => Below.refl _ _)
  · intro u wv hC hf
    have z0 := (HX9.out _ hC).1
    have z1 := (HX9.out _ hC).2.1
    have o1 := (HX9.out _ hC).2.2.1
    have q1 := (HX9.out _ hC).2.2.2
    obtain ⟨d20_0, d21_1, d19_2, -⟩ := hf
    have e20 : u 20 = _ := d20_0 rfl
    clear d20_0
    have e21 : u 21 = _ := d21_1 rfl
    clear d21_1
    have e19 : u 19 = _ := d19_2 rfl
    clear d19_2
    refine ⟨wanted_at rfl rfl rfl e19 rfl, ?_⟩
    go_simp
    try rfl
  conv => arg 8; simp only [List.cons_append, List.nil_append]
  apply each_readG (fun _ => Below.refl _ _)
  · intro u wv hC hf
    have z0 := (HX9.out _ hC).1
    have z1 := (HX9.out _ hC).2.1
    have o1 := (HX9.out _ hC).2.2.1
    have q1 := (HX9.out _ hC).2.2.2
    obtain ⟨d19_0, -⟩ := hf
    have e19 : u 19 = _ := d19_0 rfl
    clear d19_0
    refine ⟨wanted_at rfl rfl rfl e19 rfl, ?_⟩
    go_simp
    try rfl
  conv => arg 8; simp only [List.cons_append, List.nil_append]
  apply each_readG (fun _ => Below.refl _ _)
  · intro u wv hC hf
    have z0 := (HX9.out _ hC).1
    have z1 := (HX9.out _ hC).2.1
    have o1 := (HX9.out _ hC).2.2.1
    have q1 := (HX9.out _ hC).2.2.2
    obtain ⟨d23_0, d19_1, -⟩ := hf
    have e23 : u 23 = _ := d23_0 rfl
    clear d23_0
    have e19 : u 19 = _ := d19_1 rfl
    clear d19_1
    refine ⟨wanted_at rfl rfl rfl e19 rfl, ?_⟩
    go_simp
    try rfl
  conv => arg 8; simp only [List.cons_append, List.nil_append]
  apply each_readG (fun _ => Below.refl _ _)
  · intro u wv hC hf
    have z0 := (HX9.out _ hC).1
    have z1 := (HX9.out _ hC).2.1
    have o1 := (HX9.out _ hC).2.2.1
    have q1 := (HX9.out _ hC).2.2.2
    obtain ⟨d22_0, d24_1, d19_2, -⟩ := hf
    have e22 : u 22 = _ := d22_0 rfl
    clear d22_0
    have e24 : u 24 = _ := d24_1 rfl
    clear d24_1
    have e19 : u 19 = _ := d19_2 rfl
    clear d19_2
    refine ⟨wanted_at rfl rfl rfl e19 rfl, ?_⟩
    go_simp
    try rfl
  conv => arg 8; simp only [List.cons_append, List.nil_append]
  apply each_read (fun _ => Below.refl _ _) rfl
  · intro u wv hC hf
    have z0 := (HX9.out _ hC).1
    have z1 := (HX9.out _ hC).2.1
    have o1 := (HX9.out _ hC).2.2.1
    have q1 := (HX9.out _ hC).2.2.2
    obtain ⟨d19_0, d25_1, -⟩ := hf
    have e19 : u 19 = _ := d19_0 rfl
    clear d19_0
    have e25 : u 25 = _ := d25_1 rfl
    clear d25_1
    go_simp
    try rfl
  conv => arg 8; simp only [List.cons_append, List.nil_append]
  apply each_read (fun _ => Below.refl _ _) rfl
  · intro u wv hC hf
    have z0 := (HX9.out _ hC).1
    have z1 := (HX9.out _ hC).2.1
    have o1 := (HX9.out _ hC).2.2.1
    have q1 := (HX9.out _ hC).2.2.2
    obtain ⟨d26_0, d19_1, -⟩ := hf
    have e26 : u 26 = _ := d26_0 rfl
    clear d26_0
    have e19 : u 19 = _ := d19_1 rfl
    clear d19_1
    go_simp
    try rfl
  conv => arg 8; simp only [List.cons_append, List.nil_append]
  apply each_readG (fun _ => Below.refl _ _)
  · intro u wv hC hf
    have z0 := (HX9.out _ hC).1
    have z1 := (HX9.out _ hC).2.1
    have o1 := (HX9.out _ hC).2.2.1
    have q1 := (HX9.out _ hC).2.2.2
    obtain ⟨d27_0, -⟩ := hf
    have e27 : u 27 = _ := d27_0 rfl
    clear d27_0
    refine ⟨wanted_at rfl rfl rfl e27 rfl, ?_⟩
    go_simp
    try rfl
  conv => arg 8; simp only [List.cons_append, List.nil_append]
  apply each_readG (fun _ => Below.refl _ _)
  · intro u wv hC hf
    have z0 := (HX9.out _ hC).1
    have z1 := (HX9.out _ hC).2.1
    have o1 := (HX9.out _ hC).2.2.1
    have q1 := (HX9.out _ hC).2.2.2
    obtain ⟨d28_0, d27_1, -⟩ := hf
    have e28 : u 28 = _ := d28_0 rfl
    clear d28_0
    have e27 : u 27 = _ := d27_1 rfl
    clear d27_1
    refine ⟨wanted_at rfl rfl rfl e27 rfl, ?_⟩
    go_simp
    try rfl
  conv => arg 8; simp only [List.cons_append, List.nil_append]
  apply each_read (fun _ => Below.refl _ _) rfl
  · intro u wv hC hf
    have z0 := (HX9.out _ hC).1
    have z1 := (HX9.out _ hC).2.1
    have o1 := (HX9.out _ hC).2.2.1
    have q1 := (HX9.out _ hC).2.2.2
    obtain ⟨d27_0, d29_1, -⟩ := hf
    have e27 : u 27 = _ := d27_0 rfl
    clear d27_0
    have e29 : u 29 = _ := d29_1 rfl
    clear d29_1
    go_simp
    try rfl
  conv => arg 8; simp only [List.cons_append, List.nil_append]
  apply each_read (fun _ => Below.refl _ _) rfl
  · intro u wv hC hf
    have z0 := (HX9.out _ hC).1
    have z1 := (HX9.out _ hC).2.1
    have o1 := (HX9.out _ hC).2.2.1
    have q1 := (HX9.out _ hC).2.2.2
    obtain ⟨d30_0, d27_1, -⟩ := hf
    have e30 : u 30 = _ := d30_0 rfl
    clear d30_0
    have e27 : u 27 = _ := d27_1 rfl
    clear d27_1
    go_simp
    try rfl
  conv => arg 8; simp only [List.cons_append, List.nil_append]
  apply each_readG (fun _ => Below.refl _ _)
  · intro u wv hC hf
    have z0 := (HX9.out _ hC).1
    have z1 := (HX9.out _ hC).2.1
    have o1 := (HX9.out _ hC).2.2.1
    have q1 := (HX9.out _ hC).2.2.2
    obtain ⟨d31_0, -⟩ := hf
    have e31 : u 31 = _ := d31_0 rfl
    clear d31_0
    refine ⟨wanted_at rfl rfl rfl e31 rfl, ?_⟩
    go_simp
    try rfl
  conv => arg 8; simp only [List.cons_append, List.nil_append]
  apply each_readG (fun _ => Below.refl _ _)
  · intro u wv hC hf
    have z0 := (HX9.out _ hC).1
    have z1 := (HX9.out _ hC).2.1
    have o1 := (HX9.out _ hC).2.2.1
    have q1 := (HX9.out _ hC).2.2.2
    obtain ⟨d32_0, d31_1, -⟩ := hf
    have e32 : u 32 = _ := d32_0 rfl
    clear d32_0
    have e31 : u 31 = _ := d31_1 rfl
    clear d31_1
    refine ⟨wanted_at rfl rfl rfl e31 rfl, ?_⟩
    go_simp
    try rfl
  conv => arg 8; simp only [List.cons_append, List.nil_append]
  apply each_read (fun _ => Below.refl _ _) rfl
  · intro u wv hC hf
    have z0 := (HX9.out _ hC).1
    have z1 := (HX9.out _ hC).2.1
    have o1 := (HX9.out _ hC).2.2.1
    have q1 := (HX9.out _ hC).2.2.2
    obtain ⟨d31_0, d33_1, -⟩ := hf
    have e31 : u 31 = _ := d31_0 rfl
    clear d31_0
    have e33 : u 33 = _ := d33_1 rfl
    clear d33_1
    go_simp
    try rfl
  conv => arg 8; simp only [List.cons_append, List.nil_append]
  apply each_read (fun _ => Below.refl _ _) rfl
  · intro u wv hC hf
    have z0 := (HX9.out _ hC).1
    have z1 := (HX9.out _ hC).2.1
    have o1 := (HX9.out _ hC).2.2.1
    have q1 := (HX9.out _ hC).2.2.2
    obtain ⟨d34_0, d31_1, -⟩ := hf
    have e34 : u 34 = _ := d34_0 rfl
    clear d34_0
    have e31 : u 31 = _ := d31_1 rfl
    clear d31_1
    go_simp
    try rfl
  conv => arg 8; simp only [List.cons_append, List.nil_append]
  apply each_readG (fun _ => Below.refl _ _)
  · intro u wv hC hf
    have z0 := (HX9.out _ hC).1
    have z1 := (HX9.out _ hC).2.1
    have o1 := (HX9.out _ hC).2.2.1
    have q1 := (HX9.out _ hC).2.2.2
    obtain ⟨d35_0, -⟩ := hf
    have e35 : u 35 = _ := d35_0 rfl
    clear d35_0
    refine ⟨wanted_at rfl rfl rfl e35 rfl, ?_⟩
    go_simp
    try rfl
  conv => arg 8; simp only [List.cons_append, List.nil_append]
  apply each_readG (fun _ => Below.refl _ _)
  · intro u wv hC hf
    have z0 := (HX9.out _ hC).1
    have z1 := (HX9.out _ hC).2.1
    have o1 := (HX9.out _ hC).2.2.1
    have q1 := (HX9.out _ hC).2.2.2
    obtain ⟨d36_0, d35_1, -⟩ := hf
    have e36 : u 36 = _ := d36_0 rfl
    clear d36_0
    have e35 : u 35 = _ := d35_1 rfl
    clear d35_1
    refine ⟨wanted_at rfl rfl rfl e35 rfl, ?_⟩
    go_simp
    try rfl
  conv => arg 8; simp only [List.cons_append, List.nil_append]
  apply each_readG (fun _ => Below.refl _ _)
  · intro u wv hC hf
    have z0 := (HX9.out _ hC).1
    have z1 := (HX9.out _ hC).2.1
    have o1 := (HX9.out _ hC).2.2.1
    have q1 := (HX9.out _ hC).2.2.2
    obtain ⟨d35_0, -⟩ := hf
    have e35 : u 35 = _ := d35_0 rfl
    clear d35_0
    refine ⟨wanted_at rfl rfl rfl e35 rfl, ?_⟩
    go_simp
    try rfl
  conv => arg 8; simp only [List.cons_append, List.nil_append]
  apply each_readG (fun _ => Below.refl _ _)
  · intro u wv hC hf
    have z0 := (HX9.out _ hC).1
    have z1 := (HX9.out _ hC).2.1
    have o1 := (HX9.out _ hC).2.2.1
    have q1 := (HX9.out _ hC).2.2.2
    obtain ⟨d38_0, d35_1, -⟩ := hf
    have e38 : u 38 = _ := d38_0 rfl
    clear d38_0
    have e35 : u 35 = _ := d35_1 rfl
    clear d35_1
    refine ⟨wanted_at rfl rfl rfl e35 rfl, ?_⟩
    go_simp
    try rfl
  conv => arg 8; simp only [List.cons_append, List.nil_append]
  apply each_callRG
  · intro u wv hC hf
    have z0 := (HX9.out _ hC).1
    have z1 := (HX9.out _ hC).2.1
    have o1 := (HX9.out _ hC).2.2.1
    have q1 := (HX9.out _ hC).2.2.2
    obtain ⟨d37_0, d39_1, d35_2, d35_3, -⟩ := hf
    have e37 : u 37 = _ := d37_0 rfl
    clear d37_0
    have e39 : u 39 = _ := d39_1 rfl
    clear d39_1
    have e35 : u 35 = _ := d35_2 rfl
    clear d35_2
    clear d35_3
    refine ⟨wanted_at rfl rfl rfl e35 rfl, ?_⟩
    apply Exists.intro; apply Exists.intro; apply And.intro
    · go_simp; exact ⟨rfl, rfl⟩
    · refine (HSA.out _ _ _ (HQI.out _ hC) (HZW.out _ (Below.now HB9.out hC))).mono ?_
      rintro e w3 ⟨rfl, rfl⟩
      exact ⟨rfl, hC, Below.refl _ _⟩
  conv => arg 8; simp only [List.cons_append, List.nil_append]
  apply each_readG (fun _ => Below.refl _ _)
  · intro u wv hC hf
    have z0 := (HX9.out _ hC).1
    have z1 := (HX9.out _ hC).2.1
    have o1 := (HX9.out _ hC).2.2.1
    have q1 := (HX9.out _ hC).2.2.2
    obtain ⟨d40_0, d35_1, -⟩ := hf
    have e40 : u 40 = _ := d40_0 rfl
    clear d40_0
    have e35 : u 35 = _ := d35_1 rfl
    clear d35_1
    refine ⟨wanted_at rfl rfl rfl e35 rfl, ?_⟩
    go_simp
    try rfl
  conv => arg 8; simp only [List.cons_append, List.nil_append]
  apply each_read (fun _ => Below.refl _ _) rfl
  · intro u wv hC hf
    have z0 := (HX9.out _ hC).1
    have z1 := (HX9.out _ hC).2.1
    have o1 := (HX9.out _ hC).2.2.1
    have q1 := (HX9.out _ hC).2.2.2
    obtain ⟨d35_0, d41_1, -⟩ := hf
    have e35 : u 35 = _ := d35_0 rfl
    clear d35_0
    have e41 : u 41 = _ := d41_1 rfl
    clear d41_1
    go_simp
    try rfl
  conv => arg 8; simp only [List.cons_append, List.nil_append]
  apply each_read (fun _ => Below.refl _ _) rfl
  · intro u wv hC hf
    have z0 := (HX9.out _ hC).1
    have z1 := (HX9.out _ hC).2.1
    have o1 := (HX9.out _ hC).2.2.1
    have q1 := (HX9.out _ hC).2.2.2
    obtain ⟨d42_0, d40_1, -⟩ := hf
    have e42 : u 42 = _ := d42_0 rfl
    clear d42_0
    have e40 : u 40 = _ := d40_1 rfl
    clear d40_1
    go_simp
    try rfl
  conv => arg 8; simp only [List.cons_append, List.nil_append]
  apply each_readG (fun _ => Below.refl _ _)
  · intro u wv hC hf
    have z0 := (HX9.out _ hC).1
    have z1 := (HX9.out _ hC).2.1
    have o1 := (HX9.out _ hC).2.2.1
    have q1 := (HX9.out _ hC).2.2.2
    obtain ⟨d43_0, -⟩ := hf
    have e43 : u 43 = _ := d43_0 rfl
    clear d43_0
    refine ⟨wanted_at rfl rfl rfl e43 rfl, ?_⟩
    go_simp
    try rfl
  conv => arg 8; simp only [List.cons_append, List.nil_append]
  apply each_callRG
  · intro u wv hC hf
    have z0 := (HX9.out _ hC).1
    have z1 := (HX9.out _ hC).2.1
    have o1 := (HX9.out _ hC).2.2.1
    have q1 := (HX9.out _ hC).2.2.2
    obtain ⟨d44_0, d43_1, d43_2, -⟩ := hf
    have e44 : u 44 = _ := d44_0 rfl
    clear d44_0
    have e43 : u 43 = _ := d43_1 rfl
    clear d43_1
    clear d43_2
    refine ⟨wanted_at rfl rfl rfl e43 rfl, ?_⟩
    apply Exists.intro; apply Exists.intro; apply And.intro
    · go_simp; exact ⟨rfl, rfl⟩
    · refine (HIC.out _ (HZW.out _ (Below.now HB9.out hC))).mono ?_
      rintro e w3 ⟨rfl, hb⟩
      exact ⟨rfl, Below.now hC hb, hb⟩
  conv => arg 8; simp only [List.cons_append, List.nil_append]
  apply each_readG (fun _ => Below.refl _ _)
  · intro u wv hC hf
    have z0 := (HX9.out _ hC).1
    have z1 := (HX9.out _ hC).2.1
    have o1 := (HX9.out _ hC).2.2.1
    have q1 := (HX9.out _ hC).2.2.2
    obtain ⟨d43_0, -⟩ := hf
    have e43 : u 43 = _ := d43_0 rfl
    clear d43_0
    refine ⟨wanted_at rfl rfl rfl e43 rfl, ?_⟩
    go_simp
    try rfl
  conv => arg 8; simp only [List.cons_append, List.nil_append]
  apply each_readG (fun _ => Below.refl _ _)
  · intro u wv hC hf
    have z0 := (HX9.out _ hC).1
    have z1 := (HX9.out _ hC).2.1
    have o1 := (HX9.out _ hC).2.2.1
    have q1 := (HX9.out _ hC).2.2.2
    obtain ⟨d46_0, d43_1, -⟩ := hf
    have e46 : u 46 = _ := d46_0 rfl
    clear d46_0
    have e43 : u 43 = _ := d43_1 rfl
    clear d43_1
    refine ⟨wanted_at rfl rfl rfl e43 rfl, ?_⟩
    go_simp
    try rfl
  conv => arg 8; simp only [List.cons_append, List.nil_append]
  apply each_readG (fun _ => Below.refl _ _)
  · intro u wv hC hf
    have z0 := (HX9.out _ hC).1
    have z1 := (HX9.out _ hC).2.1
    have o1 := (HX9.out _ hC).2.2.1
    have q1 := (HX9.out _ hC).2.2.2
    obtain ⟨d43_0, -⟩ := hf
    have e43 : u 43 = _ := d43_0 rfl
    clear d43_0
    refine ⟨wanted_at rfl rfl rfl e43 rfl, ?_⟩
    go_simp
    try rfl
  conv => arg 8; simp only [List.cons_append, List.nil_append]
  apply each_readG (fun _ => Below.refl _ _)
  · intro u wv hC hf
    have z0 := (HX9.out _ hC).1
    have z1 := (HX9.out _ hC).2.1
    have o1 := (HX9.out _ hC).2.2.1
    have q1 := (HX9.out _ hC).2.2.2
    obtain ⟨d48_0, d43_1, -⟩ := hf
    have e48 : u 48 = _ := d48_0 rfl
    clear d48_0
    have e43 : u 43 = _ := d43_1 rfl
    clear d43_1
    refine ⟨wanted_at rfl rfl rfl e43 rfl, ?_⟩
    go_simp
    try rfl
  conv => arg 8; simp only [List.cons_append, List.nil_append]
  apply each_callRG
  · intro u wv hC hf
    have z0 := (HX9.out _ hC).1
    have z1 := (HX9.out _ hC).2.1
    have o1 := (HX9.out _ hC).2.2.1
    have q1 := (HX9.out _ hC).2.2.2
    obtain ⟨d47_0, d49_1, d45_2, d43_3, -⟩ := hf
    have e47 : u 47 = _ := d47_0 rfl
    clear d47_0
    have e49 : u 49 = _ := d49_1 rfl
    clear d49_1
    have e45 : u 45 = _ := d45_2 rfl
    clear d45_2
    have e43 : u 43 = _ := d43_3 rfl
    clear d43_3
    refine ⟨wanted_at rfl rfl rfl e43 rfl, ?_⟩
    apply Exists.intro; apply Exists.intro; apply And.intro
    · go_simp; exact ⟨rfl, rfl⟩
    · refine (HSB.out _ _ _ (HOI.out _ hC) (HZW.out _ (Below.now HB9.out hC))).mono ?_
      rintro e w3 ⟨rfl, rfl⟩
      exact ⟨rfl, hC, Below.refl _ _⟩
  conv => arg 8; simp only [List.cons_append, List.nil_append]
  apply each_readG (fun _ => Below.refl _ _)
  · intro u wv hC hf
    have z0 := (HX9.out _ hC).1
    have z1 := (HX9.out _ hC).2.1
    have o1 := (HX9.out _ hC).2.2.1
    have q1 := (HX9.out _ hC).2.2.2
    obtain ⟨d45_0, d50_1, d43_2, -⟩ := hf
    have e45 : u 45 = _ := d45_0 rfl
    clear d45_0
    have e50 : u 50 = _ := d50_1 rfl
    clear d50_1
    have e43 : u 43 = _ := d43_2 rfl
    clear d43_2
    refine ⟨wanted_at rfl rfl rfl e43 rfl, ?_⟩
    go_simp
    try rfl
  conv => arg 8; simp only [List.cons_append, List.nil_append]
  apply each_read (fun _ => Below.refl _ _) rfl
  · intro u wv hC hf
    have z0 := (HX9.out _ hC).1
    have z1 := (HX9.out _ hC).2.1
    have o1 := (HX9.out _ hC).2.2.1
    have q1 := (HX9.out _ hC).2.2.2
    obtain ⟨d43_0, d51_1, -⟩ := hf
    have e43 : u 43 = _ := d43_0 rfl
    clear d43_0
    have e51 : u 51 = _ := d51_1 rfl
    clear d51_1
    go_simp
    try rfl
  intro u w10 hb10 hall
  obtain ⟨a0, a1, a2, a3, a4, a5, a6, a7, a8, a9, a10, a11, a12, a13, a14, a15, a16, a17, a18, a19, a20, a21, a22, a23, a24, a25, a26, a27, a28, a29, a30, a31, a32, a33, a34, a35, a36, a37, a38, a39, a40, a41, a42, a43, a44, a45, a46, a47, a48, a49, a50, a51, a52, -⟩ := hall
  have e0 : u 0 = _ := a0
  clear a0
  have e1 : u 1 = _ := a1
  clear a1
  have e2 : u 2 = _ := a2
  clear a2
  have e3 : u 3 = _ := a3
  clear a3
  have e4 : u 4 = _ := a4
  clear a4
  have e5 : u 5 = _ := a5
  clear a5
  have e6 : u 6 = _ := a6
  clear a6
  have e7 : u 7 = _ := a7
  clear a7
  have e8 : u 8 = _ := a8
  clear a8
  have e9 : u 9 = _ := a9
  clear a9
  have e10 : u 10 = _ := a10
  clear a10
  have e11 : u 11 = _ := a11
  clear a11
  have e12 : u 12 = _ := a12
  clear a12
  have e13 : u 13 = _ := a13
  clear a13
  have e14 : u 14 = _ := a14
  clear a14
  have e15 : u 15 = _ := a15
  clear a15
  have e16 : u 16 = _ := a16
  clear a16
  have e17 : u 17 = _ := a17
  clear a17
  have e18 : u 18 = _ := a18
  clear a18
  have e19 : u 19 = _ := a19
  clear a19
  have e20 : u 20 = _ := a20
  clear a20
  have e21 : u 21 = _ := a21
  clear a21
  have e22 : u 22 = _ := a22
  clear a22
  have e23 : u 23 = _ := a23
  clear a23
  have e24 : u 24 = _ := a24
  clear a24
  have e25 : u 25 = _ := a25
  clear a25
  have e26 : u 26 = _ := a26
  clear a26
  have e27 : u 27 = _ := a27
  clear a27
  have e28 : u 28 = _ := a28
  clear a28
  have e29 : u 29 = _ := a29
  clear a29
  have e30 : u 30 = _ := a30
  clear a30
  have e31 : u 31 = _ := a31
  clear a31
  have e32 : u 32 = _ := a32
  clear a32
  have e33 : u 33 = _ := a33
  clear a33
  have e34 : u 34 = _ := a34
  clear a34
  have e35 : u 35 = _ := a35
  clear a35
  have e36 : u 36 = _ := a36
  clear a36
  have e37 : u 37 = _ := a37
  clear a37
  have e38 : u 38 = _ := a38
  clear a38
  have e39 : u 39 = _ := a39
  clear a39
  have e40 : u 40 = _ := a40
  clear a40
  have e41 : u 41 = _ := a41
  clear a41
  have e42 : u 42 = _ := a42
  clear a42
  have e43 : u 43 = _ := a43
  clear a43
  have e44 : u 44 = _ := a44
  clear a44
  have e45 : u 45 = _ := a45
  clear a45
  have e46 : u 46 = _ := a46
  clear a46
  have e47 : u 47 = _ := a47
  clear a47
  have e48 : u 48 = _ := a48
  clear a48
  have e49 : u 49 = _ := a49
  clear a49
  have e50 : u 50 = _ := a50
  clear a50
  have e51 : u 51 = _ := a51
  clear a51
  have e52 : u 52 = _ := a52
  clear a52
  simp only [e0, e1, e2, e3, e4, e5, e6, e7, e8, e9, e10, e11, e12, e13, e14, e15, e16, e17, e18, e19, e20, e21, e22, e23, e24, e25, e26, e27, e28, e29, e30, e31, e32, e33, e34, e35, e36, e37, e38, e39, e40, e41, e42, e43, e44, e45, e46, e47, e48, e49, e50, e51, e52]
  clear e0 e1 e2 e3 e4 e5 e6 e7 e8 e9 e10 e11 e12 e13 e14 e15 e16 e17 e18 e19 e20 e21 e22 e23 e24 e25 e26 e27 e28 e29 e30 e31 e32 e33 e34 e35 e36 e37 e38 e39 e40 e41 e42 e43 e44 e45 e46 e47 e48 e49 e50 e51 e52
  have HB10 := Lib.hid (Below.now HB9.out hb10)
  obtain ⟨z0, z1⟩ := HX.out _ HB10.out
  clear hb10 HX9 HXO HXQ HOI HQI HO9
  go_wp2_with fail
  refine (HIT.out _ (HZW.out _ HB10.out)).mono ?_
  rintro e w11 ⟨aE, cE, rfl, hoE, hb⟩
  have HB11 := Lib.hid (Below.now HB10.out hb)
  have HE11 := Lib.hid (owns_ints (l := E) hoE)
  clear z0 z1 hb hoE
  go_wp2_with fail
  go_loopw [122, 15] (fun j b wr => ∃ c : Nat, c ≤ E.length ∧ j = .int .i64 (c : Nat) ∧ b = .bool (hitTo E P N c) ∧ Below w11.heap.size w11 wr) (fun j _ _ => E.length - (intOf j).toNat)
  case atStart => exact ⟨0, Nat.zero_le _, rfl, rfl, Below.refl _ _⟩
  case round =>
    obtain ⟨c, hcE, rfl, rfl, hbr⟩ := hrel
    have HBR0 := Lib.hid hbr
    have HBR := Lib.hid (Below.now HB11.out hbr)
    clear hbr
    obtain ⟨z0, z1⟩ := HX.out _ HBR.out
    by_cases hc : c < E.length
    · obtain ⟨be, oe, rfl, hbe, hce⟩ := HE11.out.cell hc
      have hx1 := (HBR0.out.cell (p := ⟨be, oe + c, none⟩) hbe).trans (hce c hc)
      have HSU := Lib.hid (hitTo_succ (P := P) (N := N) hc)
      generalize nthZ E c = x at *
      generalize hfo : hitTo E P N c = fo at *
      clear hfo
      have hci : (c : Int) < ((E.length : Nat) : Int) := by omega
      go_wp2_with fail
      clear z0 z1 hx1
      generalize hWR : wr = wr0 at *
      clear hWR
      go_loopw [18, 15] (fun j b wr => ∃ d : Nat, d ≤ N ∧ j = .int .i64 ((d + 1 : Nat) : Int) ∧ b = .bool (fo || hitRow P x d) ∧ Below wr0.heap.size wr0 wr) (fun j _ _ => N + 1 - (intOf j).toNat)
      case atStart => exact ⟨0, Nat.zero_le _, rfl, by rw [hitRow_zero, Bool.or_false], Below.refl _ _⟩
      case round =>
        obtain ⟨d, hdN, rfl, rfl, hbi⟩ := hrel
        have HBI0 := Lib.hid hbi
        have HBI := Lib.hid (Below.now HBR.out hbi)
        clear hbi
        obtain ⟨z0, z1⟩ := HX.out _ HBI.out
        by_cases hd : d < N
        · have HNX : Hid ((fo || hitRow P x (d + 1)) = ((fo || hitRow P x d) || ((((P (d + 1) : Nat) : Int) == x)))) := Lib.hid (by rw [hitRow_succ, Bool.or_assoc])
          have hdi : (((d + 1 : Nat) : Nat) : Int) ≤ ((N : Nat) : Int) := by omega
          have HPD := Lib.hid (fun W h => HPW.out (d + 1) W h (by omega))
          generalize P (d + 1) = pd at *
          generalize hd1 : d + 1 = d1 at *
          generalize (fo || hitRow P x d) = fb at *
          have hd1h := Lib.hid hd1
          clear hd1
          cases fb
          · go_wp2_with fail
            refine (HPD.out _ (HZW.out _ HBI.out)).mono ?_
            rintro e w12 ⟨rfl, hb⟩
            have HB12 := Lib.hid (Below.now HBI0.out hb)
            clear z0 z1 hb
            go_wp2_with fail
            go_roundw
            case rel =>
              have e1 := hd1h.out
              subst e1
              exact ⟨d + 1, by omega, by go_num, by rw [HNX.out]; simp, HB12.out⟩
            case measure =>
              have e1 := hd1h.out
              subst e1
              simp [intOf]; omega
          · go_wp2_with fail
            refine (HPD.out _ (HZW.out _ HBI.out)).mono ?_
            rintro e w12 ⟨rfl, hb⟩
            have HB12 := Lib.hid (Below.now HBI0.out hb)
            clear z0 z1 hb
            go_wp2_with fail
            go_roundw
            case rel =>
              have e1 := hd1h.out
              subst e1
              exact ⟨d + 1, by omega, by go_num, by rw [HNX.out]; simp, HB12.out⟩
            case measure =>
              have e1 := hd1h.out
              subst e1
              simp [intOf]; omega
        · obtain rfl : d = N := by omega
          have hdi : ¬ (((d + 1 : Nat) : Nat) : Int) ≤ ((d : Nat) : Int) := by omega
          rw [← HSU.out]
          go_wp2_with fail
          go_roundw
          case rel => exact ⟨c + 1, by omega, by go_num, rfl, Below.now HBR0.out HBI0.out⟩
          case measure => simp [intOf]; omega
    · have hci : ¬ (c : Int) < ((E.length : Nat) : Int) := by omega
      have hh := HHIT.out c (by omega)
      rw [hh]
      have HM3 := Lib.hid (HM30.out wr (HBY.out _ HBR.out))
      clear hh HHIT HM30
      go_wp2_with fail
      refine HM3.out.mono ?_
      rintro e w12 ⟨n, y, ay, cy, hU, rfl, hy, hcapy, hb⟩
      obtain ⟨hyl, hn1, hn2⟩ := hU.few
      have HB12 := Lib.hid (Below.now HBR.out hb)
      have HU := Lib.hid hU
      have HYW : Hid (∀ W, Below (w12.alloc (.cells #[.int .i64 (n : Nat), .slice ay y.length cy] 25)).heap.size (w12.alloc (.cells #[.int .i64 (n : Nat), .slice ay y.length cy] 25)) W → IntsIn W ay y) := Lib.hid (fun W h => hy.later (Below.now (alloc_belowT _ _) h))
      have HXU : Hid (∀ W, Below (w12.alloc (.cells #[.int .i64 (n : Nat), .slice ay y.length cy] 25)).heap.size (w12.alloc (.cells #[.int .i64 (n : Nat), .slice ay y.length cy] 25)) W → W.cell? ⟨w12.heap.size, 0, none⟩ = some (.int .i64 (n : Nat)) ∧ W.cell? ⟨w12.heap.size, 1, none⟩ = some (.slice ay y.length cy)) := Lib.hid (fun W hW => ⟨by rw [hW.cell (by simp)]; simp, by rw [hW.cell (by simp)]; simp⟩)
      clear z0 z1 hb hU HM3
      have z0 : ∀ o, (w12.alloc o).cell? ⟨w1.heap.size, 0, none⟩ = some (.int .i64 (m : Nat)) := fun o => (HX.out _ (Below.now HB12.out (alloc_belowT _ o))).1
      have z1 : ∀ o, (w12.alloc o).cell? ⟨w1.heap.size, 1, none⟩ = some (.slice az z.length cz) := fun o => (HX.out _ (Below.now HB12.out (alloc_belowT _ o))).2
      have HTZ := Lib.hid (fun W (h : IntsIn W az z) => implTableOk_any (m : Nat) z az cz W h (by omega))
      rw [HT.out.tab] at HTZ
      have hbig : m * n ≤ 1600 := Nat.le_trans (Nat.mul_le_mul hm2 hn2) (by decide)
      have hw1 : IntKind.i64.wrap ((m : Int) * (n : Int)) = ((m * n : Nat) : Int) := by rw [Int.natCast_mul]; exact IntWalk.i64_in _ (by rw [← Int.natCast_mul]; omega)
      by_cases hmn : m * n ≤ 40
      · have HPT := Lib.hid (implProductTable_ok m z az cz n y ay cy (w12.alloc (.cells #[.int .i64 (n : Nat), .slice ay y.length cy] 25)) (HZW.out _ (Below.now HB12.out (alloc_belowT _ _))) (HYW.out _ (Below.refl _ _)) HT.out HU.out hmn)
        have HTC0 := TabG.prod HT.out HU.out hmn
        have hpi := TabG.prod_idem HT.out HU.out hmn
        have hpu := TabG.prod_unit HT.out HU.out hmn
        have hCl := HTC0.few.1
        generalize (prodT m (z.map Int.toNat) n (y.map Int.toNat)).map Int.ofNat = C at *
        have HTC := Lib.hid (fun aC cC W (h : IntsIn W aC C) => implTableOk_any ((m * n : Nat) : Int) C aC cC W h (by omega))
        rw [HTC0.tab] at HTC
        have HDC := Lib.hid (fun aC cC W (h : IntsIn W aC C) => implIdempotentsOf_any ((m * n : Nat) : Int) C aC cC W h (by omega))
        have HDZ := HIT
        have HDY := Lib.hid (fun aY cY W (h : IntsIn W aY y) => implIdempotentsOf_any (n : Int) y aY cY W h (by omega))
        have HUC := Lib.hid (fun aC cC W (h : IntsIn W aC C) => implUnitsOf_any ((m * n : Nat) : Int) C aC cC W h (by omega))
        have HUZ := Lib.hid (fun W (h : IntsIn W az z) => implUnitsOf_any (m : Int) z az cz W h (by omega))
        have HUY := Lib.hid (fun aY cY W (h : IntsIn W aY y) => implUnitsOf_any (n : Int) y aY cY W h (by omega))
        rw [HEE.out] at hpi
        have hl1 : E.length ≤ 40 := by omega
        have hl2 : (idemF (n : Int) y).length ≤ 40 := by rw [idemF_tab HU.out]; exact Nat.le_trans (listTo_len _ _) hn2
        have hl3 : (unitsOfF (m : Int) z).length ≤ 40 := by rw [unitsF_tab HT.out]; exact Nat.le_trans (listTo_len _ _) hm2
        have hl4 : (unitsOfF (n : Int) y).length ≤ 40 := by rw [unitsF_tab HU.out]; exact Nat.le_trans (listTo_len _ _) hn2
        generalize idemF ((m * n : Nat) : Int) C = IC at *
        generalize unitsOfF ((m * n : Nat) : Int) C = UC at *
        generalize unitsOfF (m : Int) z = UZ at *
        generalize idemF (n : Int) y = IY at *
        generalize unitsOfF (n : Int) y = UY at *
        generalize hM : m * n = M at *
        have hMi : ((M : Nat) : Int) ≤ 40 := by omega
        have hMi2 : decide (((M : Nat) : Int) ≤ 40) = true := decide_eq_true hMi
        have hp1 : E.length * IY.length ≤ 1600 := Nat.le_trans (Nat.mul_le_mul hl1 hl2) (by decide)
        have hp2 : UZ.length * UY.length ≤ 1600 := Nat.le_trans (Nat.mul_le_mul hl3 hl4) (by decide)
        generalize hnC : IC.length = nC at *
        generalize hnE : E.length = nE at *
        generalize hnF : IY.length = nF at *
        generalize huC : UC.length = uC at *
        generalize huE : UZ.length = uE at *
        generalize huF : UY.length = uF at *
        have hm1' : IntKind.i64.wrap ((nE : Int) * (nF : Int)) = ((nC : Nat) : Int) := by rw [hpi, Int.natCast_mul]; exact IntWalk.i64_in _ (by rw [← Int.natCast_mul]; omega)
        have hm2' : IntKind.i64.wrap ((uE : Int) * (uF : Int)) = ((uC : Nat) : Int) := by rw [hpu, Int.natCast_mul]; exact IntWalk.i64_in _ (by rw [← Int.natCast_mul]; omega)
        clear HTC0 HIT hpi hpu hnC hnE hnF huC huE huF hp1 hp2
        go_wp2_with fail
        refine HPT.out.mono ?_
        rintro e w13 ⟨aC, cC, rfl, hC13, hb13⟩
        clear HPT
        go_upto_region 24 with fail
        have HXC : Hid (∀ W, Below (w13.alloc (.cells #[.int .i64 ((M : Nat) : Int), .slice aC C.length cC] 25)).heap.size (w13.alloc (.cells #[.int .i64 ((M : Nat) : Int), .slice aC C.length cC] 25)) W → W.cell? ⟨w13.heap.size, 0, none⟩ = some (.int .i64 ((M : Nat) : Int)) ∧ W.cell? ⟨w13.heap.size, 1, none⟩ = some (.slice aC C.length cC)) := Lib.hid (fun W hW => ⟨by rw [hW.cell (by simp)]; simp, by rw [hW.cell (by simp)]; simp⟩)
        have HU14 : Hid (Below (w12.alloc (.cells #[.int .i64 (n : Nat), .slice ay y.length cy] 25)).heap.size (w12.alloc (.cells #[.int .i64 (n : Nat), .slice ay y.length cy] 25)) (w13.alloc (.cells #[.int .i64 ((M : Nat) : Int), .slice aC C.length cC] 25))) := Lib.hid (Below.now hb13 (alloc_belowT _ _))
        have HB14 : Hid (Below w2.heap.size w2 (w13.alloc (.cells #[.int .i64 ((M : Nat) : Int), .slice aC C.length cC] 25))) := Lib.hid (Below.now HB12.out (Below.now (alloc_belowT _ _) HU14.out))
        have HC14 : Hid (∀ W, Below (w13.alloc (.cells #[.int .i64 ((M : Nat) : Int), .slice aC C.length cC] 25)).heap.size (w13.alloc (.cells #[.int .i64 ((M : Nat) : Int), .slice aC C.length cC] 25)) W → IntsIn W aC C) := Lib.hid (fun W h => hC13.later (Below.now (alloc_belowT _ _) h))
        generalize w13.alloc (.cells #[.int .i64 ((M : Nat) : Int), .slice aC C.length cC] 25) = w14 at *
        have HX14 : Hid (∀ W, Below w14.heap.size w14 W → W.cell? ⟨w1.heap.size, 0, none⟩ = some (.int .i64 (m : Nat)) ∧ W.cell? ⟨w1.heap.size, 1, none⟩ = some (.slice az z.length cz) ∧ W.cell? ⟨w12.heap.size, 0, none⟩ = some (.int .i64 (n : Nat)) ∧ W.cell? ⟨w12.heap.size, 1, none⟩ = some (.slice ay y.length cy) ∧ W.cell? ⟨w13.heap.size, 0, none⟩ = some (.int .i64 ((M : Nat) : Int)) ∧ W.cell? ⟨w13.heap.size, 1, none⟩ = some (.slice aC C.length cC)) := Lib.hid (fun W hW => by
          have e1 := HX.out W (Below.now HB14.out hW)
          have e2 := HXU.out W (Below.now HU14.out hW)
          exact ⟨e1.1, e1.2, e2.1, e2.2, HXC.out W hW⟩)
        have HZ14 : Hid (∀ W, Below w14.heap.size w14 W → IntsIn W az z) := Lib.hid (fun W h => HZW.out _ (Below.now HB14.out h))
        have HY14 : Hid (∀ W, Below w14.heap.size w14 W → IntsIn W ay y) := Lib.hid (fun W h => HYW.out _ (Below.now HU14.out h))
        clear hC13 hb13 z0 z1
        refine region_each (fun W => Below w14.heap.size w14 W) (fun W W2 => Below W.heap.size W W2) (fun u => by simp only [fPut, Act.put, List.setIfInBounds_toArray, List.set_cons_succ, List.set_cons_zero, Nat.zero_add, Nat.reduceAdd]; rfl) (by kernel_rfl) (by kernel_rfl) (by kernel_rfl) (Below.drew (Below.refl _ _)) ?_
        apply each_read (fun _ => Below.refl _ _) rfl
        · intro u wv hC hf
          have z0 := (HX14.out _ hC).1
          have z1 := (HX14.out _ hC).2.1
          have y0 := (HX14.out _ hC).2.2.1
          have y1 := (HX14.out _ hC).2.2.2.1
          have c0 := (HX14.out _ hC).2.2.2.2.1
          have c1 := (HX14.out _ hC).2.2.2.2.2
          clear hf
          go_simp
          try rfl
        apply each_read (fun _ => Below.refl _ _) rfl
        · intro u wv hC hf
          have z0 := (HX14.out _ hC).1
          have z1 := (HX14.out _ hC).2.1
          have y0 := (HX14.out _ hC).2.2.1
          have y1 := (HX14.out _ hC).2.2.2.1
          have c0 := (HX14.out _ hC).2.2.2.2.1
          have c1 := (HX14.out _ hC).2.2.2.2.2
          obtain ⟨d0_0, -⟩ := hf
          have e0 : u 0 = _ := d0_0 rfl
          clear d0_0
          go_simp
          try rfl
        conv => arg 8; simp only [List.cons_append, List.nil_append]
        apply each_readG (fun _ => Below.refl _ _)
        · intro u wv hC hf
          have z0 := (HX14.out _ hC).1
          have z1 := (HX14.out _ hC).2.1
          have y0 := (HX14.out _ hC).2.2.1
          have y1 := (HX14.out _ hC).2.2.2.1
          have c0 := (HX14.out _ hC).2.2.2.2.1
          have c1 := (HX14.out _ hC).2.2.2.2.2
          obtain ⟨d1_0, -⟩ := hf
          have e1 : u 1 = _ := d1_0 rfl
          clear d1_0
          refine ⟨wanted_at rfl rfl rfl e1 rfl, ?_⟩
          go_simp
          try rfl
        conv => arg 8; simp only [List.cons_append, List.nil_append]
        apply each_callRG
        · intro u wv hC hf
          have z0 := (HX14.out _ hC).1
          have z1 := (HX14.out _ hC).2.1
          have y0 := (HX14.out _ hC).2.2.1
          have y1 := (HX14.out _ hC).2.2.2.1
          have c0 := (HX14.out _ hC).2.2.2.2.1
          have c1 := (HX14.out _ hC).2.2.2.2.2
          obtain ⟨d2_0, d1_1, d1_2, -⟩ := hf
          have e2 : u 2 = _ := d2_0 rfl
          clear d2_0
          have e1 : u 1 = _ := d1_1 rfl
          clear d1_1
          clear d1_2
          refine ⟨wanted_at rfl rfl rfl e1 rfl, ?_⟩
          apply Exists.intro; apply Exists.intro; apply And.intro
          · go_simp; exact ⟨rfl, rfl⟩
          · refine (HTZ.out _ (HZ14.out _ hC)).mono ?_
            rintro e w3 ⟨rfl, hb⟩
            exact ⟨rfl, Below.now hC hb, hb⟩
        conv => arg 8; simp only [List.cons_append, List.nil_append]
        apply each_read (fun _ => Below.refl _ _) rfl
        · intro u wv hC hf
          have z0 := (HX14.out _ hC).1
          have z1 := (HX14.out _ hC).2.1
          have y0 := (HX14.out _ hC).2.2.1
          have y1 := (HX14.out _ hC).2.2.2.1
          have c0 := (HX14.out _ hC).2.2.2.2.1
          have c1 := (HX14.out _ hC).2.2.2.2.2
          obtain ⟨d1_0, d3_1, -⟩ := hf
          have e1 : u 1 = _ := d1_0 rfl
          clear d1_0
          have e3 : u 3 = _ := d3_1 rfl
          clear d3_1
          go_simp
          try rfl
        conv => arg 8; simp only [List.cons_append, List.nil_append]
        apply each_read (fun _ => Below.refl _ _) rfl
        · intro u wv hC hf
          have z0 := (HX14.out _ hC).1
          have z1 := (HX14.out _ hC).2.1
          have y0 := (HX14.out _ hC).2.2.1
          have y1 := (HX14.out _ hC).2.2.2.1
          have c0 := (HX14.out _ hC).2.2.2.2.1
          have c1 := (HX14.out _ hC).2.2.2.2.2
          obtain ⟨d4_0, d3_1, -⟩ := hf
          have e4 : u 4 = _ := d4_0 rfl
          clear d4_0
          have e3 : u 3 = _ := d3_1 rfl
          clear d3_1
          go_simp
          try rfl
        conv => arg 8; simp only [List.cons_append, List.nil_append]
        apply each_readG (fun _ => Below.refl _ _)
        · intro u wv hC hf
          have z0 := (HX14.out _ hC).1
          have z1 := (HX14.out _ hC).2.1
          have y0 := (HX14.out _ hC).2.2.1
          have y1 := (HX14.out _ hC).2.2.2.1
          have c0 := (HX14.out _ hC).2.2.2.2.1
          have c1 := (HX14.out _ hC).2.2.2.2.2
          obtain ⟨d5_0, -⟩ := hf
          have e5 : u 5 = _ := d5_0 rfl
          clear d5_0
          refine ⟨wanted_at rfl rfl rfl e5 rfl, ?_⟩
          go_simp
          try rfl
        conv => arg 8; simp only [List.cons_append, List.nil_append]
        apply each_readG (fun _ => Below.refl _ _)
        · intro u wv hC hf
          have z0 := (HX14.out _ hC).1
          have z1 := (HX14.out _ hC).2.1
          have y0 := (HX14.out _ hC).2.2.1
          have y1 := (HX14.out _ hC).2.2.2.1
          have c0 := (HX14.out _ hC).2.2.2.2.1
          have c1 := (HX14.out _ hC).2.2.2.2.2
          obtain ⟨d5_0, -⟩ := hf
          have e5 : u 5 = _ := d5_0 rfl
          clear d5_0
          refine ⟨wanted_at rfl rfl rfl e5 rfl, ?_⟩
          go_simp
          try rfl
        conv => arg 8; simp only [List.cons_append, List.nil_append]
        apply each_readG (fun _ => Below.refl _ _)
        · intro u wv hC hf
          have z0 := (HX14.out _ hC).1
          have z1 := (HX14.out _ hC).2.1
          have y0 := (HX14.out _ hC).2.2.1
          have y1 := (HX14.out _ hC).2.2.2.1
          have c0 := (HX14.out _ hC).2.2.2.2.1
          have c1 := (HX14.out _ hC).2.2.2.2.2
          obtain ⟨d7_0, d5_1, -⟩ := hf
          have e7 : u 7 = _ := d7_0 rfl
          clear d7_0
          have e5 : u 5 = _ := d5_1 rfl
          clear d5_1
          refine ⟨wanted_at rfl rfl rfl e5 rfl, ?_⟩
          go_simp
          try rfl
        conv => arg 8; simp only [List.cons_append, List.nil_append]
        apply each_readG (fun _ => Below.refl _ _)
        · intro u wv hC hf
          have z0 := (HX14.out _ hC).1
          have z1 := (HX14.out _ hC).2.1
          have y0 := (HX14.out _ hC).2.2.1
          have y1 := (HX14.out _ hC).2.2.2.1
          have c0 := (HX14.out _ hC).2.2.2.2.1
          have c1 := (HX14.out _ hC).2.2.2.2.2
          obtain ⟨d5_0, -⟩ := hf
          have e5 : u 5 = _ := d5_0 rfl
          clear d5_0
          refine ⟨wanted_at rfl rfl rfl e5 rfl, ?_⟩
          go_simp
          try rfl
        conv => arg 8; simp only [List.cons_append, List.nil_append]
        apply each_readG (fun _ => Below.refl _ _)
        · intro u wv hC hf
          have z0 := (HX14.out _ hC).1
          have z1 := (HX14.out _ hC).2.1
          have y0 := (HX14.out _ hC).2.2.1
          have y1 := (HX14.out _ hC).2.2.2.1
          have c0 := (HX14.out _ hC).2.2.2.2.1
          have c1 := (HX14.out _ hC).2.2.2.2.2
          obtain ⟨d9_0, d5_1, -⟩ := hf
          have e9 : u 9 = _ := d9_0 rfl
          clear d9_0
          have e5 : u 5 = _ := d5_1 rfl
          clear d5_1
          refine ⟨wanted_at rfl rfl rfl e5 rfl, ?_⟩
          go_simp
          try rfl
        conv => arg 8; simp only [List.cons_append, List.nil_append]
        apply each_readG (fun _ => Below.refl _ _)
        · intro u wv hC hf
          have z0 := (HX14.out _ hC).1
          have z1 := (HX14.out _ hC).2.1
          have y0 := (HX14.out _ hC).2.2.1
          have y1 := (HX14.out _ hC).2.2.2.1
          have c0 := (HX14.out _ hC).2.2.2.2.1
          have c1 := (HX14.out _ hC).2.2.2.2.2
          obtain ⟨d8_0, d10_1, d5_2, -⟩ := hf
          have e8 : u 8 = _ := d8_0 rfl
          clear d8_0
          have e10 : u 10 = _ := d10_1 rfl
          clear d10_1
          have e5 : u 5 = _ := d5_2 rfl
          clear d5_2
          refine ⟨wanted_at rfl rfl rfl e5 rfl, ?_⟩
          go_simp
          try rfl
        conv => arg 8; simp only [List.cons_append, List.nil_append]
        apply each_readG (fun _ => Below.refl _ _)
        · intro u wv hC hf
          have z0 := (HX14.out _ hC).1
          have z1 := (HX14.out _ hC).2.1
          have y0 := (HX14.out _ hC).2.2.1
          have y1 := (HX14.out _ hC).2.2.2.1
          have c0 := (HX14.out _ hC).2.2.2.2.1
          have c1 := (HX14.out _ hC).2.2.2.2.2
          obtain ⟨d11_0, d5_1, -⟩ := hf
          have e11 : u 11 = _ := d11_0 rfl
          clear d11_0
          have e5 : u 5 = _ := d5_1 rfl
          clear d5_1
          refine ⟨wanted_at rfl rfl rfl e5 rfl, ?_⟩
          go_simp
          try rfl
        conv => arg 8; simp only [List.cons_append, List.nil_append]
        apply each_readG (fun _ => Below.refl _ _)
        · intro u wv hC hf
          have z0 := (HX14.out _ hC).1
          have z1 := (HX14.out _ hC).2.1
          have y0 := (HX14.out _ hC).2.2.1
          have y1 := (HX14.out _ hC).2.2.2.1
          have c0 := (HX14.out _ hC).2.2.2.2.1
          have c1 := (HX14.out _ hC).2.2.2.2.2
          obtain ⟨d6_0, d12_1, d5_2, -⟩ := hf
          have e6 : u 6 = _ := d6_0 rfl
          clear d6_0
          have e12 : u 12 = _ := d12_1 rfl
          clear d12_1
          have e5 : u 5 = _ := d5_2 rfl
          clear d5_2
          refine ⟨wanted_at rfl rfl rfl e5 rfl, ?_⟩
          go_simp
          try rfl
        conv => arg 8; simp only [List.cons_append, List.nil_append]
        apply each_read (fun _ => Below.refl _ _) rfl
        · intro u wv hC hf
          have z0 := (HX14.out _ hC).1
          have z1 := (HX14.out _ hC).2.1
          have y0 := (HX14.out _ hC).2.2.1
          have y1 := (HX14.out _ hC).2.2.2.1
          have c0 := (HX14.out _ hC).2.2.2.2.1
          have c1 := (HX14.out _ hC).2.2.2.2.2
          obtain ⟨d5_0, d13_1, -⟩ := hf
          have e5 : u 5 = _ := d5_0 rfl
          clear d5_0
          have e13 : u 13 = _ := d13_1 rfl
          clear d13_1
          go_simp
          try rfl
        conv => arg 8; simp only [List.cons_append, List.nil_append]
        apply each_read (fun _ => Below.refl _ _) rfl
        · intro u wv hC hf
          have z0 := (HX14.out _ hC).1
          have z1 := (HX14.out _ hC).2.1
          have y0 := (HX14.out _ hC).2.2.1
          have y1 := (HX14.out _ hC).2.2.2.1
          have c0 := (HX14.out _ hC).2.2.2.2.1
          have c1 := (HX14.out _ hC).2.2.2.2.2
          obtain ⟨d14_0, d5_1, -⟩ := hf
          have e14 : u 14 = _ := d14_0 rfl
          clear d14_0
          have e5 : u 5 = _ := d5_1 rfl
          clear d5_1
          go_simp
          try rfl
        conv => arg 8; simp only [List.cons_append, List.nil_append]
        apply each_readG (fun _ => Below.refl _ _)
        · intro u wv hC hf
          have z0 := (HX14.out _ hC).1
          have z1 := (HX14.out _ hC).2.1
          have y0 := (HX14.out _ hC).2.2.1
          have y1 := (HX14.out _ hC).2.2.2.1
          have c0 := (HX14.out _ hC).2.2.2.2.1
          have c1 := (HX14.out _ hC).2.2.2.2.2
          obtain ⟨d15_0, -⟩ := hf
          have e15 : u 15 = _ := d15_0 rfl
          clear d15_0
          refine ⟨wanted_at rfl rfl rfl e15 rfl, ?_⟩
          go_simp
          try rfl
        conv => arg 8; simp only [List.cons_append, List.nil_append]
        apply each_readG (fun _ => Below.refl _ _)
        · intro u wv hC hf
          have z0 := (HX14.out _ hC).1
          have z1 := (HX14.out _ hC).2.1
          have y0 := (HX14.out _ hC).2.2.1
          have y1 := (HX14.out _ hC).2.2.2.1
          have c0 := (HX14.out _ hC).2.2.2.2.1
          have c1 := (HX14.out _ hC).2.2.2.2.2
          obtain ⟨d16_0, d15_1, -⟩ := hf
          have e16 : u 16 = _ := d16_0 rfl
          clear d16_0
          have e15 : u 15 = _ := d15_1 rfl
          clear d15_1
          refine ⟨wanted_at rfl rfl rfl e15 rfl, ?_⟩
          go_simp
          try rfl
        conv => arg 8; simp only [List.cons_append, List.nil_append]
        apply each_readG (fun _ => Below.refl _ _)
        · intro u wv hC hf
          have z0 := (HX14.out _ hC).1
          have z1 := (HX14.out _ hC).2.1
          have y0 := (HX14.out _ hC).2.2.1
          have y1 := (HX14.out _ hC).2.2.2.1
          have c0 := (HX14.out _ hC).2.2.2.2.1
          have c1 := (HX14.out _ hC).2.2.2.2.2
          obtain ⟨d17_0, d15_1, d15_2, -⟩ := hf
          have e17 : u 17 = _ := d17_0 rfl
          clear d17_0
          have e15 : u 15 = _ := d15_1 rfl
          clear d15_1
          clear d15_2
          refine ⟨wanted_at rfl rfl rfl e15 rfl, ?_⟩
          go_simp
          try rfl
        conv => arg 8; simp only [List.cons_append, List.nil_append]
        apply each_readG (fun _ => Below.refl _ _)
        · intro u wv hC hf
          have z0 := (HX14.out _ hC).1
          have z1 := (HX14.out _ hC).2.1
          have y0 := (HX14.out _ hC).2.2.1
          have y1 := (HX14.out _ hC).2.2.2.1
          have c0 := (HX14.out _ hC).2.2.2.2.1
          have c1 := (HX14.out _ hC).2.2.2.2.2
          obtain ⟨d18_0, -⟩ := hf
          have e18 : u 18 = _ := d18_0 rfl
          clear d18_0
          refine ⟨wanted_at rfl rfl rfl e18 rfl, ?_⟩
          go_simp
          try rfl
        conv => arg 8; simp only [List.cons_append, List.nil_append]
        apply each_callRG
        · intro u wv hC hf
          have z0 := (HX14.out _ hC).1
          have z1 := (HX14.out _ hC).2.1
          have y0 := (HX14.out _ hC).2.2.1
          have y1 := (HX14.out _ hC).2.2.2.1
          have c0 := (HX14.out _ hC).2.2.2.2.1
          have c1 := (HX14.out _ hC).2.2.2.2.2
          obtain ⟨d19_0, d18_1, d18_2, -⟩ := hf
          have e19 : u 19 = _ := d19_0 rfl
          clear d19_0
          have e18 : u 18 = _ := d18_1 rfl
          clear d18_1
          clear d18_2
          refine ⟨wanted_at rfl rfl rfl e18 rfl, ?_⟩
          apply Exists.intro; apply Exists.intro; apply And.intro
          · go_simp; exact ⟨rfl, rfl⟩
          · refine (HTC.out _ _ _ (HC14.out _ hC)).mono ?_
            rintro e w3 ⟨rfl, hb⟩
            exact ⟨rfl, Below.now hC hb, hb⟩
        conv => arg 8; simp only [List.cons_append, List.nil_append]
        apply each_readG (fun _ => Below.refl _ _)
        · intro u wv hC hf
          have z0 := (HX14.out _ hC).1
          have z1 := (HX14.out _ hC).2.1
          have y0 := (HX14.out _ hC).2.2.1
          have y1 := (HX14.out _ hC).2.2.2.1
          have c0 := (HX14.out _ hC).2.2.2.2.1
          have c1 := (HX14.out _ hC).2.2.2.2.2
          obtain ⟨d20_0, d20_1, d18_2, -⟩ := hf
          have e20 : u 20 = _ := d20_0 rfl
          clear d20_0
          clear d20_1
          have e18 : u 18 = _ := d18_2 rfl
          clear d18_2
          refine ⟨wanted_at rfl rfl rfl e18 rfl, ?_⟩
          go_simp
          try rfl
        conv => arg 8; simp only [List.cons_append, List.nil_append]
        apply each_readG (fun _ => Below.refl _ _)
        · intro u wv hC hf
          have z0 := (HX14.out _ hC).1
          have z1 := (HX14.out _ hC).2.1
          have y0 := (HX14.out _ hC).2.2.1
          have y1 := (HX14.out _ hC).2.2.2.1
          have c0 := (HX14.out _ hC).2.2.2.2.1
          have c1 := (HX14.out _ hC).2.2.2.2.2
          obtain ⟨d21_0, -⟩ := hf
          have e21 : u 21 = _ := d21_0 rfl
          clear d21_0
          refine ⟨wanted_at rfl rfl rfl e21 rfl, ?_⟩
          go_simp
          try rfl
        conv => arg 8; simp only [List.cons_append, List.nil_append]
        refine each_callG (fun v wv => ∃ a23x c23x, v = .slice a23x nC c23x) (fun v w w2 _ hR h => h) ?_ ?_
        · intro u wv hC hf
          have z0 := (HX14.out _ hC).1
          have z1 := (HX14.out _ hC).2.1
          have y0 := (HX14.out _ hC).2.2.1
          have y1 := (HX14.out _ hC).2.2.2.1
          have c0 := (HX14.out _ hC).2.2.2.2.1
          have c1 := (HX14.out _ hC).2.2.2.2.2
          obtain ⟨d22_0, d21_1, d21_2, -⟩ := hf
          have e22 : u 22 = _ := d22_0 rfl
          clear d22_0
          have e21 : u 21 = _ := d21_1 rfl
          clear d21_1
          clear d21_2
          refine ⟨wanted_at rfl rfl rfl e21 rfl, ?_⟩
          apply Exists.intro; apply Exists.intro; apply And.intro
          · go_simp; exact ⟨rfl, rfl⟩
          · refine (HDC.out _ _ _ (HC14.out _ hC)).mono ?_
            rintro e w3 ⟨ax, cx, rfl, _, hb⟩
            exact ⟨_, rfl, Below.now hC hb, hb, ax, cx, rfl⟩
        conv => arg 8; simp only [List.cons_append, List.nil_append]
        apply each_readG (fun _ => Below.refl _ _)
        · intro u wv hC hf
          have z0 := (HX14.out _ hC).1
          have z1 := (HX14.out _ hC).2.1
          have y0 := (HX14.out _ hC).2.2.1
          have y1 := (HX14.out _ hC).2.2.2.1
          have c0 := (HX14.out _ hC).2.2.2.2.1
          have c1 := (HX14.out _ hC).2.2.2.2.2
          obtain ⟨d23_0, d21_1, -⟩ := hf
          obtain ⟨a23x, c23x, e23⟩ := d23_0 rfl
          have e21 : u 21 = _ := d21_1 rfl
          clear d21_1
          refine ⟨wanted_at rfl rfl rfl e21 rfl, ?_⟩
          go_simp
          try rfl
        conv => arg 8; simp only [List.cons_append, List.nil_append]
        apply each_readG (fun _ => Below.refl _ _)
        · intro u wv hC hf
          have z0 := (HX14.out _ hC).1
          have z1 := (HX14.out _ hC).2.1
          have y0 := (HX14.out _ hC).2.2.1
          have y1 := (HX14.out _ hC).2.2.2.1
          have c0 := (HX14.out _ hC).2.2.2.2.1
          have c1 := (HX14.out _ hC).2.2.2.2.2
          obtain ⟨d21_0, -⟩ := hf
          have e21 : u 21 = _ := d21_0 rfl
          clear d21_0
          refine ⟨wanted_at rfl rfl rfl e21 rfl, ?_⟩
          go_simp
          try rfl
        conv => arg 8; simp only [List.cons_append, List.nil_append]
        refine each_callG (fun v wv => ∃ a26x c26x, v = .slice a26x nE c26x) (fun v w w2 _ hR h => h) ?_ ?_
        · intro u wv hC hf
          have z0 := (HX14.out _ hC).1
          have z1 := (HX14.out _ hC).2.1
          have y0 := (HX14.out _ hC).2.2.1
          have y1 := (HX14.out _ hC).2.2.2.1
          have c0 := (HX14.out _ hC).2.2.2.2.1
          have c1 := (HX14.out _ hC).2.2.2.2.2
          obtain ⟨d25_0, d23_1, d21_2, -⟩ := hf
          have e25 : u 25 = _ := d25_0 rfl
          clear d25_0
          obtain ⟨a23x, c23x, e23⟩ := d23_1 rfl
          have e21 : u 21 = _ := d21_2 rfl
          clear d21_2
          refine ⟨wanted_at rfl rfl rfl e21 rfl, ?_⟩
          apply Exists.intro; apply Exists.intro; apply And.intro
          · go_simp; exact ⟨rfl, rfl⟩
          · refine (HDZ.out _ (HZ14.out _ hC)).mono ?_
            rintro e w3 ⟨ax, cx, rfl, _, hb⟩
            exact ⟨_, rfl, Below.now hC hb, hb, ax, cx, rfl⟩
        conv => arg 8; simp only [List.cons_append, List.nil_append]
        apply each_readG (fun _ => Below.refl _ _)
        · intro u wv hC hf
          have z0 := (HX14.out _ hC).1
          have z1 := (HX14.out _ hC).2.1
          have y0 := (HX14.out _ hC).2.2.1
          have y1 := (HX14.out _ hC).2.2.2.1
          have c0 := (HX14.out _ hC).2.2.2.2.1
          have c1 := (HX14.out _ hC).2.2.2.2.2
          obtain ⟨d26_0, d21_1, -⟩ := hf
          obtain ⟨a26x, c26x, e26⟩ := d26_0 rfl
          have e21 : u 21 = _ := d21_1 rfl
          clear d21_1
          refine ⟨wanted_at rfl rfl rfl e21 rfl, ?_⟩
          go_simp
          try rfl
        conv => arg 8; simp only [List.cons_append, List.nil_append]
        apply each_readG (fun _ => Below.refl _ _)
        · intro u wv hC hf
          have z0 := (HX14.out _ hC).1
          have z1 := (HX14.out _ hC).2.1
          have y0 := (HX14.out _ hC).2.2.1
          have y1 := (HX14.out _ hC).2.2.2.1
          have c0 := (HX14.out _ hC).2.2.2.2.1
          have c1 := (HX14.out _ hC).2.2.2.2.2
          obtain ⟨d21_0, -⟩ := hf
          have e21 : u 21 = _ := d21_0 rfl
          clear d21_0
          refine ⟨wanted_at rfl rfl rfl e21 rfl, ?_⟩
          go_simp
          try rfl
        conv => arg 8; simp only [List.cons_append, List.nil_append]
        refine each_callG (fun v wv => ∃ a29x c29x, v = .slice a29x nF c29x) (fun v w w2 _ hR h => h) ?_ ?_
        · intro u wv hC hf
          have z0 := (HX14.out _ hC).1
          have z1 := (HX14.out _ hC).2.1
          have y0 := (HX14.out _ hC).2.2.1
          have y1 := (HX14.out _ hC).2.2.2.1
          have c0 := (HX14.out _ hC).2.2.2.2.1
          have c1 := (HX14.out _ hC).2.2.2.2.2
          obtain ⟨d28_0, d26_1, d21_2, -⟩ := hf
          have e28 : u 28 = _ := d28_0 rfl
          clear d28_0
          obtain ⟨a26x, c26x, e26⟩ := d26_1 rfl
          have e21 : u 21 = _ := d21_2 rfl
          clear d21_2
          refine ⟨wanted_at rfl rfl rfl e21 rfl, ?_⟩
          apply Exists.intro; apply Exists.intro; apply And.intro
          · go_simp; exact ⟨rfl, rfl⟩
          · refine (HDY.out _ _ _ (HY14.out _ hC)).mono ?_
            rintro e w3 ⟨ax, cx, rfl, _, hb⟩
            exact ⟨_, rfl, Below.now hC hb, hb, ax, cx, rfl⟩
        conv => arg 8; simp only [List.cons_append, List.nil_append]
        apply each_readG (fun _ => Below.refl _ _)
        · intro u wv hC hf
          have z0 := (HX14.out _ hC).1
          have z1 := (HX14.out _ hC).2.1
          have y0 := (HX14.out _ hC).2.2.1
          have y1 := (HX14.out _ hC).2.2.2.1
          have c0 := (HX14.out _ hC).2.2.2.2.1
          have c1 := (HX14.out _ hC).2.2.2.2.2
          obtain ⟨d29_0, d21_1, -⟩ := hf
          obtain ⟨a29x, c29x, e29⟩ := d29_0 rfl
          have e21 : u 21 = _ := d21_1 rfl
          clear d21_1
          refine ⟨wanted_at rfl rfl rfl e21 rfl, ?_⟩
          go_simp
          try rfl
        conv => arg 8; simp only [List.cons_append, List.nil_append]
        apply each_readG (fun _ => Below.refl _ _)
        · intro u wv hC hf
          have z0 := (HX14.out _ hC).1
          have z1 := (HX14.out _ hC).2.1
          have y0 := (HX14.out _ hC).2.2.1
          have y1 := (HX14.out _ hC).2.2.2.1
          have c0 := (HX14.out _ hC).2.2.2.2.1
          have c1 := (HX14.out _ hC).2.2.2.2.2
          obtain ⟨d27_0, d30_1, d21_2, -⟩ := hf
          have e27 : u 27 = _ := d27_0 rfl
          clear d27_0
          have e30 : u 30 = _ := d30_1 rfl
          clear d30_1
          have e21 : u 21 = _ := d21_2 rfl
          clear d21_2
          refine ⟨wanted_at rfl rfl rfl e21 rfl, ?_⟩
          go_simp
          try rfl
        conv => arg 8; simp only [List.cons_append, List.nil_append]
        apply each_readG (fun _ => Below.refl _ _)
        · intro u wv hC hf
          have z0 := (HX14.out _ hC).1
          have z1 := (HX14.out _ hC).2.1
          have y0 := (HX14.out _ hC).2.2.1
          have y1 := (HX14.out _ hC).2.2.2.1
          have c0 := (HX14.out _ hC).2.2.2.2.1
          have c1 := (HX14.out _ hC).2.2.2.2.2
          obtain ⟨d24_0, d31_1, d21_2, -⟩ := hf
          have e24 : u 24 = _ := d24_0 rfl
          clear d24_0
          have e31 : u 31 = _ := d31_1 rfl
          clear d31_1
          have e21 : u 21 = _ := d21_2 rfl
          clear d21_2
          refine ⟨wanted_at rfl rfl rfl e21 rfl, ?_⟩
          go_simp
          try rfl
        conv => arg 8; simp only [List.cons_append, List.nil_append]
        apply each_readG (fun _ => Below.refl _ _)
        · intro u wv hC hf
          have z0 := (HX14.out _ hC).1
          have z1 := (HX14.out _ hC).2.1
          have y0 := (HX14.out _ hC).2.2.1
          have y1 := (HX14.out _ hC).2.2.2.1
          have c0 := (HX14.out _ hC).2.2.2.2.1
          have c1 := (HX14.out _ hC).2.2.2.2.2
          obtain ⟨d21_0, d32_1, d18_2, -⟩ := hf
          have e21 : u 21 = _ := d21_0 rfl
          clear d21_0
          have e32 : u 32 = _ := d32_1 rfl
          clear d32_1
          have e18 : u 18 = _ := d18_2 rfl
          clear d18_2
          refine ⟨wanted_at rfl rfl rfl e18 rfl, ?_⟩
          go_simp
          try rfl
        conv => arg 8; simp only [List.cons_append, List.nil_append]
        apply each_readG (fun _ => Below.refl _ _)
        · intro u wv hC hf
          have z0 := (HX14.out _ hC).1
          have z1 := (HX14.out _ hC).2.1
          have y0 := (HX14.out _ hC).2.2.1
          have y1 := (HX14.out _ hC).2.2.2.1
          have c0 := (HX14.out _ hC).2.2.2.2.1
          have c1 := (HX14.out _ hC).2.2.2.2.2
          obtain ⟨d33_0, d29_1, d18_2, -⟩ := hf
          have e33 : u 33 = _ := d33_0 rfl
          clear d33_0
          obtain ⟨a29x, c29x, e29⟩ := d29_1 rfl
          have e18 : u 18 = _ := d18_2 rfl
          clear d18_2
          refine ⟨wanted_at rfl rfl rfl e18 rfl, ?_⟩
          go_simp
          try rfl
        conv => arg 8; simp only [List.cons_append, List.nil_append]
        apply each_readG (fun _ => Below.refl _ _)
        · intro u wv hC hf
          have z0 := (HX14.out _ hC).1
          have z1 := (HX14.out _ hC).2.1
          have y0 := (HX14.out _ hC).2.2.1
          have y1 := (HX14.out _ hC).2.2.2.1
          have c0 := (HX14.out _ hC).2.2.2.2.1
          have c1 := (HX14.out _ hC).2.2.2.2.2
          obtain ⟨d34_0, -⟩ := hf
          have e34 : u 34 = _ := d34_0 rfl
          clear d34_0
          refine ⟨wanted_at rfl rfl rfl e34 rfl, ?_⟩
          go_simp
          try rfl
        conv => arg 8; simp only [List.cons_append, List.nil_append]
        refine each_callG (fun v wv => ∃ a36x c36x, v = .slice a36x uC c36x) (fun v w w2 _ hR h => h) ?_ ?_
        · intro u wv hC hf
          have z0 := (HX14.out _ hC).1
          have z1 := (HX14.out _ hC).2.1
          have y0 := (HX14.out _ hC).2.2.1
          have y1 := (HX14.out _ hC).2.2.2.1
          have c0 := (HX14.out _ hC).2.2.2.2.1
          have c1 := (HX14.out _ hC).2.2.2.2.2
          obtain ⟨d35_0, d34_1, d34_2, -⟩ := hf
          have e35 : u 35 = _ := d35_0 rfl
          clear d35_0
          have e34 : u 34 = _ := d34_1 rfl
          clear d34_1
          clear d34_2
          refine ⟨wanted_at rfl rfl rfl e34 rfl, ?_⟩
          apply Exists.intro; apply Exists.intro; apply And.intro
          · go_simp; exact ⟨rfl, rfl⟩
          · refine (HUC.out _ _ _ (HC14.out _ hC)).mono ?_
            rintro e w3 ⟨ax, cx, rfl, _, hb⟩
            exact ⟨_, rfl, Below.now hC hb, hb, ax, cx, rfl⟩
        conv => arg 8; simp only [List.cons_append, List.nil_append]
        apply each_readG (fun _ => Below.refl _ _)
        · intro u wv hC hf
          have z0 := (HX14.out _ hC).1
          have z1 := (HX14.out _ hC).2.1
          have y0 := (HX14.out _ hC).2.2.1
          have y1 := (HX14.out _ hC).2.2.2.1
          have c0 := (HX14.out _ hC).2.2.2.2.1
          have c1 := (HX14.out _ hC).2.2.2.2.2
          obtain ⟨d36_0, d34_1, -⟩ := hf
          obtain ⟨a36x, c36x, e36⟩ := d36_0 rfl
          have e34 : u 34 = _ := d34_1 rfl
          clear d34_1
          refine ⟨wanted_at rfl rfl rfl e34 rfl, ?_⟩
          go_simp
          try rfl
        conv => arg 8; simp only [List.cons_append, List.nil_append]
        apply each_readG (fun _ => Below.refl _ _)
        · intro u wv hC hf
          have z0 := (HX14.out _ hC).1
          have z1 := (HX14.out _ hC).2.1
          have y0 := (HX14.out _ hC).2.2.1
          have y1 := (HX14.out _ hC).2.2.2.1
          have c0 := (HX14.out _ hC).2.2.2.2.1
          have c1 := (HX14.out _ hC).2.2.2.2.2
          obtain ⟨d34_0, -⟩ := hf
          have e34 : u 34 = _ := d34_0 rfl
          clear d34_0
          refine ⟨wanted_at rfl rfl rfl e34 rfl, ?_⟩
          go_simp
          try rfl
        conv => arg 8; simp only [List.cons_append, List.nil_append]
        refine each_callG (fun v wv => ∃ a39x c39x, v = .slice a39x uE c39x) (fun v w w2 _ hR h => h) ?_ ?_
        · intro u wv hC hf
          have z0 := (HX14.out _ hC).1
          have z1 := (HX14.out _ hC).2.1
          have y0 := (HX14.out _ hC).2.2.1
          have y1 := (HX14.out _ hC).2.2.2.1
          have c0 := (HX14.out _ hC).2.2.2.2.1
          have c1 := (HX14.out _ hC).2.2.2.2.2
          obtain ⟨d38_0, d36_1, d34_2, -⟩ := hf
          have e38 : u 38 = _ := d38_0 rfl
          clear d38_0
          obtain ⟨a36x, c36x, e36⟩ := d36_1 rfl
          have e34 : u 34 = _ := d34_2 rfl
          clear d34_2
          refine ⟨wanted_at rfl rfl rfl e34 rfl, ?_⟩
          apply Exists.intro; apply Exists.intro; apply And.intro
          · go_simp; exact ⟨rfl, rfl⟩
          · refine (HUZ.out _ (HZ14.out _ hC)).mono ?_
            rintro e w3 ⟨ax, cx, rfl, _, hb⟩
            exact ⟨_, rfl, Below.now hC hb, hb, ax, cx, rfl⟩
        conv => arg 8; simp only [List.cons_append, List.nil_append]
        apply each_readG (fun _ => Below.refl _ _)
        · intro u wv hC hf
          have z0 := (HX14.out _ hC).1
          have z1 := (HX14.out _ hC).2.1
          have y0 := (HX14.out _ hC).2.2.1
          have y1 := (HX14.out _ hC).2.2.2.1
          have c0 := (HX14.out _ hC).2.2.2.2.1
          have c1 := (HX14.out _ hC).2.2.2.2.2
          obtain ⟨d39_0, d34_1, -⟩ := hf
          obtain ⟨a39x, c39x, e39⟩ := d39_0 rfl
          have e34 : u 34 = _ := d34_1 rfl
          clear d34_1
          refine ⟨wanted_at rfl rfl rfl e34 rfl, ?_⟩
          go_simp
          try rfl
        conv => arg 8; simp only [List.cons_append, List.nil_append]
        apply each_readG (fun _ => Below.refl _ _)
        · intro u wv hC hf
          have z0 := (HX14.out _ hC).1
          have z1 := (HX14.out _ hC).2.1
          have y0 := (HX14.out _ hC).2.2.1
          have y1 := (HX14.out _ hC).2.2.2.1
          have c0 := (HX14.out _ hC).2.2.2.2.1
          have c1 := (HX14.out _ hC).2.2.2.2.2
          obtain ⟨d34_0, -⟩ := hf
          have e34 : u 34 = _ := d34_0 rfl
          clear d34_0
          refine ⟨wanted_at rfl rfl rfl e34 rfl, ?_⟩
          go_simp
          try rfl
        conv => arg 8; simp only [List.cons_append, List.nil_append]
        refine each_callG (fun v wv => ∃ a42x c42x, v = .slice a42x uF c42x) (fun v w w2 _ hR h => h) ?_ ?_
        · intro u wv hC hf
          have z0 := (HX14.out _ hC).1
          have z1 := (HX14.out _ hC).2.1
          have y0 := (HX14.out _ hC).2.2.1
          have y1 := (HX14.out _ hC).2.2.2.1
          have c0 := (HX14.out _ hC).2.2.2.2.1
          have c1 := (HX14.out _ hC).2.2.2.2.2
          obtain ⟨d41_0, d39_1, d34_2, -⟩ := hf
          have e41 : u 41 = _ := d41_0 rfl
          clear d41_0
          obtain ⟨a39x, c39x, e39⟩ := d39_1 rfl
          have e34 : u 34 = _ := d34_2 rfl
          clear d34_2
          refine ⟨wanted_at rfl rfl rfl e34 rfl, ?_⟩
          apply Exists.intro; apply Exists.intro; apply And.intro
          · go_simp; exact ⟨rfl, rfl⟩
          · refine (HUY.out _ _ _ (HY14.out _ hC)).mono ?_
            rintro e w3 ⟨ax, cx, rfl, _, hb⟩
            exact ⟨_, rfl, Below.now hC hb, hb, ax, cx, rfl⟩
        conv => arg 8; simp only [List.cons_append, List.nil_append]
        apply each_readG (fun _ => Below.refl _ _)
        · intro u wv hC hf
          have z0 := (HX14.out _ hC).1
          have z1 := (HX14.out _ hC).2.1
          have y0 := (HX14.out _ hC).2.2.1
          have y1 := (HX14.out _ hC).2.2.2.1
          have c0 := (HX14.out _ hC).2.2.2.2.1
          have c1 := (HX14.out _ hC).2.2.2.2.2
          obtain ⟨d42_0, d34_1, -⟩ := hf
          obtain ⟨a42x, c42x, e42⟩ := d42_0 rfl
          have e34 : u 34 = _ := d34_1 rfl
          clear d34_1
          refine ⟨wanted_at rfl rfl rfl e34 rfl, ?_⟩
          go_simp
          try rfl
        conv => arg 8; simp only [List.cons_append, List.nil_append]
        apply each_readG (fun _ => Below.refl _ _)
        · intro u wv hC hf
          have z0 := (HX14.out _ hC).1
          have z1 := (HX14.out _ hC).2.1
          have y0 := (HX14.out _ hC).2.2.1
          have y1 := (HX14.out _ hC).2.2.2.1
          have c0 := (HX14.out _ hC).2.2.2.2.1
          have c1 := (HX14.out _ hC).2.2.2.2.2
          obtain ⟨d40_0, d43_1, d34_2, -⟩ := hf
          have e40 : u 40 = _ := d40_0 rfl
          clear d40_0
          have e43 : u 43 = _ := d43_1 rfl
          clear d43_1
          have e34 : u 34 = _ := d34_2 rfl
          clear d34_2
          refine ⟨wanted_at rfl rfl rfl e34 rfl, ?_⟩
          go_simp
          try rfl
        conv => arg 8; simp only [List.cons_append, List.nil_append]
        apply each_readG (fun _ => Below.refl _ _)
        · intro u wv hC hf
          have z0 := (HX14.out _ hC).1
          have z1 := (HX14.out _ hC).2.1
          have y0 := (HX14.out _ hC).2.2.1
          have y1 := (HX14.out _ hC).2.2.2.1
          have c0 := (HX14.out _ hC).2.2.2.2.1
          have c1 := (HX14.out _ hC).2.2.2.2.2
          obtain ⟨d37_0, d44_1, d34_2, -⟩ := hf
          have e37 : u 37 = _ := d37_0 rfl
          clear d37_0
          have e44 : u 44 = _ := d44_1 rfl
          clear d44_1
          have e34 : u 34 = _ := d34_2 rfl
          clear d34_2
          refine ⟨wanted_at rfl rfl rfl e34 rfl, ?_⟩
          go_simp
          try rfl
        conv => arg 8; simp only [List.cons_append, List.nil_append]
        apply each_readG (fun _ => Below.refl _ _)
        · intro u wv hC hf
          have z0 := (HX14.out _ hC).1
          have z1 := (HX14.out _ hC).2.1
          have y0 := (HX14.out _ hC).2.2.1
          have y1 := (HX14.out _ hC).2.2.2.1
          have c0 := (HX14.out _ hC).2.2.2.2.1
          have c1 := (HX14.out _ hC).2.2.2.2.2
          obtain ⟨d34_0, d45_1, d18_2, -⟩ := hf
          have e34 : u 34 = _ := d34_0 rfl
          clear d34_0
          have e45 : u 45 = _ := d45_1 rfl
          clear d45_1
          have e18 : u 18 = _ := d18_2 rfl
          clear d18_2
          refine ⟨wanted_at rfl rfl rfl e18 rfl, ?_⟩
          go_simp
          try rfl
        conv => arg 8; simp only [List.cons_append, List.nil_append]
        apply each_readG (fun _ => Below.refl _ _)
        · intro u wv hC hf
          have z0 := (HX14.out _ hC).1
          have z1 := (HX14.out _ hC).2.1
          have y0 := (HX14.out _ hC).2.2.1
          have y1 := (HX14.out _ hC).2.2.2.1
          have c0 := (HX14.out _ hC).2.2.2.2.1
          have c1 := (HX14.out _ hC).2.2.2.2.2
          obtain ⟨d18_0, d46_1, d15_2, -⟩ := hf
          have e18 : u 18 = _ := d18_0 rfl
          clear d18_0
          have e46 : u 46 = _ := d46_1 rfl
          clear d46_1
          have e15 : u 15 = _ := d15_2 rfl
          clear d15_2
          refine ⟨wanted_at rfl rfl rfl e15 rfl, ?_⟩
          go_simp
          try rfl
        conv => arg 8; simp only [List.cons_append, List.nil_append]
        apply each_read (fun _ => Below.refl _ _) rfl
        · intro u wv hC hf
          have z0 := (HX14.out _ hC).1
          have z1 := (HX14.out _ hC).2.1
          have y0 := (HX14.out _ hC).2.2.1
          have y1 := (HX14.out _ hC).2.2.2.1
          have c0 := (HX14.out _ hC).2.2.2.2.1
          have c1 := (HX14.out _ hC).2.2.2.2.2
          obtain ⟨d15_0, d47_1, -⟩ := hf
          have e15 : u 15 = _ := d15_0 rfl
          clear d15_0
          have e47 : u 47 = _ := d47_1 rfl
          clear d47_1
          go_simp
          try rfl
        conv => arg 8; simp only [List.cons_append, List.nil_append]
        apply each_read (fun _ => Below.refl _ _) rfl
        · intro u wv hC hf
          have z0 := (HX14.out _ hC).1
          have z1 := (HX14.out _ hC).2.1
          have y0 := (HX14.out _ hC).2.2.1
          have y1 := (HX14.out _ hC).2.2.2.1
          have c0 := (HX14.out _ hC).2.2.2.2.1
          have c1 := (HX14.out _ hC).2.2.2.2.2
          obtain ⟨d48_0, d42_1, d0_2, d1_3, d2_4, d3_5, d4_6, d5_7, d6_8, d7_9, d8_10, d9_11, d10_12, d11_13, d12_14, d13_15, d14_16, d15_17, d16_18, d17_19, d18_20, d19_21, d20_22, d21_23, d22_24, d23_25, d24_26, d25_27, d26_28, d27_29, d28_30, d29_31, d30_32, d31_33, d32_34, d33_35, d34_36, d35_37, d36_38, d37_39, d38_40, d39_41, d40_42, d41_43, d42_44, d43_45, d44_46, d45_47, d46_48, d47_49, d48_50, -⟩ := hf
          have e48 : u 48 = _ := d48_0 rfl
          clear d48_0
          obtain ⟨a42x, c42x, e42⟩ := d42_1 rfl
          have e0 : u 0 = _ := d0_2 rfl
          clear d0_2
          have e1 : u 1 = _ := d1_3 rfl
          clear d1_3
          have e2 : u 2 = _ := d2_4 rfl
          clear d2_4
          have e3 : u 3 = _ := d3_5 rfl
          clear d3_5
          have e4 : u 4 = _ := d4_6 rfl
          clear d4_6
          have e5 : u 5 = _ := d5_7 rfl
          clear d5_7
          have e6 : u 6 = _ := d6_8 rfl
          clear d6_8
          have e7 : u 7 = _ := d7_9 rfl
          clear d7_9
          have e8 : u 8 = _ := d8_10 rfl
          clear d8_10
          have e9 : u 9 = _ := d9_11 rfl
          clear d9_11
          have e10 : u 10 = _ := d10_12 rfl
          clear d10_12
          have e11 : u 11 = _ := d11_13 rfl
          clear d11_13
          have e12 : u 12 = _ := d12_14 rfl
          clear d12_14
          have e13 : u 13 = _ := d13_15 rfl
          clear d13_15
          have e14 : u 14 = _ := d14_16 rfl
          clear d14_16
          have e15 : u 15 = _ := d15_17 rfl
          clear d15_17
          have e16 : u 16 = _ := d16_18 rfl
          clear d16_18
          have e17 : u 17 = _ := d17_19 rfl
          clear d17_19
          have e18 : u 18 = _ := d18_20 rfl
          clear d18_20
          have e19 : u 19 = _ := d19_21 rfl
          clear d19_21
          have e20 : u 20 = _ := d20_22 rfl
          clear d20_22
          have e21 : u 21 = _ := d21_23 rfl
          clear d21_23
          have e22 : u 22 = _ := d22_24 rfl
          clear d22_24
          obtain ⟨a23x, c23x, e23⟩ := d23_25 rfl
          have e24 : u 24 = _ := d24_26 rfl
          clear d24_26
          have e25 : u 25 = _ := d25_27 rfl
          clear d25_27
          obtain ⟨a26x, c26x, e26⟩ := d26_28 rfl
          have e27 : u 27 = _ := d27_29 rfl
          clear d27_29
          have e28 : u 28 = _ := d28_30 rfl
          clear d28_30
          obtain ⟨a29x, c29x, e29⟩ := d29_31 rfl
          have e30 : u 30 = _ := d30_32 rfl
          clear d30_32
          have e31 : u 31 = _ := d31_33 rfl
          clear d31_33
          have e32 : u 32 = _ := d32_34 rfl
          clear d32_34
          have e33 : u 33 = _ := d33_35 rfl
          clear d33_35
          have e34 : u 34 = _ := d34_36 rfl
          clear d34_36
          have e35 : u 35 = _ := d35_37 rfl
          clear d35_37
          obtain ⟨a36x, c36x, e36⟩ := d36_38 rfl
          have e37 : u 37 = _ := d37_39 rfl
          clear d37_39
          have e38 : u 38 = _ := d38_40 rfl
          clear d38_40
          obtain ⟨a39x, c39x, e39⟩ := d39_41 rfl
          have e40 : u 40 = _ := d40_42 rfl
          clear d40_42
          have e41 : u 41 = _ := d41_43 rfl
          clear d41_43
          clear d42_44
          have e43 : u 43 = _ := d43_45 rfl
          clear d43_45
          have e44 : u 44 = _ := d44_46 rfl
          clear d44_46
          have e45 : u 45 = _ := d45_47 rfl
          clear d45_47
          have e46 : u 46 = _ := d46_48 rfl
          clear d46_48
          have e47 : u 47 = _ := d47_49 rfl
          clear d47_49
          clear d48_50
          go_simp
          try rfl
        intro u w15 hb15 hall
        obtain ⟨a0, a1, a2, a3, a4, a5, a6, a7, a8, a9, a10, a11, a12, a13, a14, a15, a16, a17, a18, a19, a20, a21, a22, a23, a24, a25, a26, a27, a28, a29, a30, a31, a32, a33, a34, a35, a36, a37, a38, a39, a40, a41, a42, a43, a44, a45, a46, a47, a48, a49, -⟩ := hall
        have e0 : u 0 = _ := a0
        clear a0
        have e1 : u 1 = _ := a1
        clear a1
        have e2 : u 2 = _ := a2
        clear a2
        have e3 : u 3 = _ := a3
        clear a3
        have e4 : u 4 = _ := a4
        clear a4
        have e5 : u 5 = _ := a5
        clear a5
        have e6 : u 6 = _ := a6
        clear a6
        have e7 : u 7 = _ := a7
        clear a7
        have e8 : u 8 = _ := a8
        clear a8
        have e9 : u 9 = _ := a9
        clear a9
        have e10 : u 10 = _ := a10
        clear a10
        have e11 : u 11 = _ := a11
        clear a11
        have e12 : u 12 = _ := a12
        clear a12
        have e13 : u 13 = _ := a13
        clear a13
        have e14 : u 14 = _ := a14
        clear a14
        have e15 : u 15 = _ := a15
        clear a15
        have e16 : u 16 = _ := a16
        clear a16
        have e17 : u 17 = _ := a17
        clear a17
        have e18 : u 18 = _ := a18
        clear a18
        have e19 : u 19 = _ := a19
        clear a19
        have e20 : u 20 = _ := a20
        clear a20
        have e21 : u 21 = _ := a21
        clear a21
        have e22 : u 22 = _ := a22
        clear a22
        obtain ⟨a23x, c23x, e23⟩ := a23
        replace e23 : u 23 = _ := e23
        have e24 : u 24 = _ := a24
        clear a24
        have e25 : u 25 = _ := a25
        clear a25
        obtain ⟨a26x, c26x, e26⟩ := a26
        replace e26 : u 26 = _ := e26
        have e27 : u 27 = _ := a27
        clear a27
        have e28 : u 28 = _ := a28
        clear a28
        obtain ⟨a29x, c29x, e29⟩ := a29
        replace e29 : u 29 = _ := e29
        have e30 : u 30 = _ := a30
        clear a30
        have e31 : u 31 = _ := a31
        clear a31
        have e32 : u 32 = _ := a32
        clear a32
        have e33 : u 33 = _ := a33
        clear a33
        have e34 : u 34 = _ := a34
        clear a34
        have e35 : u 35 = _ := a35
        clear a35
        obtain ⟨a36x, c36x, e36⟩ := a36
        replace e36 : u 36 = _ := e36
        have e37 : u 37 = _ := a37
        clear a37
        have e38 : u 38 = _ := a38
        clear a38
        obtain ⟨a39x, c39x, e39⟩ := a39
        replace e39 : u 39 = _ := e39
        have e40 : u 40 = _ := a40
        clear a40
        have e41 : u 41 = _ := a41
        clear a41
        obtain ⟨a42x, c42x, e42⟩ := a42
        replace e42 : u 42 = _ := e42
        have e43 : u 43 = _ := a43
        clear a43
        have e44 : u 44 = _ := a44
        clear a44
        have e45 : u 45 = _ := a45
        clear a45
        have e46 : u 46 = _ := a46
        clear a46
        have e47 : u 47 = _ := a47
        clear a47
        have e48 : u 48 = _ := a48
        clear a48
        have e49 : u 49 = _ := a49
        clear a49
        simp only [e0, e1, e2, e3, e4, e5, e6, e7, e8, e9, e10, e11, e12, e13, e14, e15, e16, e17, e18, e19, e20, e21, e22, e23, e24, e25, e26, e27, e28, e29, e30, e31, e32, e33, e34, e35, e36, e37, e38, e39, e40, e41, e42, e43, e44, e45, e46, e47, e48, e49]
        clear e0 e1 e2 e3 e4 e5 e6 e7 e8 e9 e10 e11 e12 e13 e14 e15 e16 e17 e18 e19 e20 e21 e22 e23 e24 e25 e26 e27 e28 e29 e30 e31 e32 e33 e34 e35 e36 e37 e38 e39 e40 e41 e42 e43 e44 e45 e46 e47 e48 e49
        have HBE := Lib.hid (Below.now HB1.out (Below.now HW2.out (Below.now HB14.out hb15)))
        go_wp2_with fail
        go_ret
        exact ⟨rfl, HBE.out⟩
      · have HPT := Lib.hid (implProductTable_no m z az cz n y ay cy (w12.alloc (.cells #[.int .i64 (n : Nat), .slice ay y.length cy] 25)) (HZW.out _ (Below.now HB12.out (alloc_belowT _ _))) (HYW.out _ (Below.refl _ _)) HT.out HU.out hmn)
        generalize hM : m * n = M at *
        have hMi : ¬ ((M : Nat) : Int) ≤ 40 := by omega
        have hMi2 : decide (((M : Nat) : Int) ≤ 40) = false := decide_eq_false hMi
        have hMi3 : ¬ M ≤ 40 := by omega
        have hMi4 : decide (M ≤ 40) = false := decide_eq_false hMi3
        go_wp2_with fail
        refine HPT.out.mono ?_
        rintro e w13 ⟨rfl, hb13⟩
        clear HPT
        go_upto_region 24 with fail
        have HXC : Hid (∀ W, Below (w13.alloc (.cells #[.int .i64 0, .slice none 0 0] 25)).heap.size (w13.alloc (.cells #[.int .i64 0, .slice none 0 0] 25)) W → W.cell? ⟨w13.heap.size, 0, none⟩ = some (.int .i64 0) ∧ W.cell? ⟨w13.heap.size, 1, none⟩ = some (.slice none 0 0)) := Lib.hid (fun W hW => ⟨by rw [hW.cell (by simp)]; simp, by rw [hW.cell (by simp)]; simp⟩)
        have HU14 : Hid (Below (w12.alloc (.cells #[.int .i64 (n : Nat), .slice ay y.length cy] 25)).heap.size (w12.alloc (.cells #[.int .i64 (n : Nat), .slice ay y.length cy] 25)) (w13.alloc (.cells #[.int .i64 0, .slice none 0 0] 25))) := Lib.hid (Below.now hb13 (alloc_belowT _ _))
        have HB14 : Hid (Below w2.heap.size w2 (w13.alloc (.cells #[.int .i64 0, .slice none 0 0] 25))) := Lib.hid (Below.now HB12.out (Below.now (alloc_belowT _ _) HU14.out))
        generalize w13.alloc (.cells #[.int .i64 0, .slice none 0 0] 25) = w14 at *
        have HX14 : Hid (∀ W, Below w14.heap.size w14 W → W.cell? ⟨w1.heap.size, 0, none⟩ = some (.int .i64 (m : Nat)) ∧ W.cell? ⟨w1.heap.size, 1, none⟩ = some (.slice az z.length cz) ∧ W.cell? ⟨w12.heap.size, 0, none⟩ = some (.int .i64 (n : Nat)) ∧ W.cell? ⟨w12.heap.size, 1, none⟩ = some (.slice ay y.length cy) ∧ W.cell? ⟨w13.heap.size, 0, none⟩ = some (.int .i64 0) ∧ W.cell? ⟨w13.heap.size, 1, none⟩ = some (.slice none 0 0)) := Lib.hid (fun W hW => by
          have e1 := HX.out W (Below.now HB14.out hW)
          have e2 := HXU.out W (Below.now HU14.out hW)
          exact ⟨e1.1, e1.2, e2.1, e2.2, HXC.out W hW⟩)
        have HZ14 : Hid (∀ W, Below w14.heap.size w14 W → IntsIn W az z) := Lib.hid (fun W h => HZW.out _ (Below.now HB14.out h))
        clear hb13 z0 z1
        refine region_each (fun W => Below w14.heap.size w14 W) (fun W W2 => Below W.heap.size W W2) (fun u => by simp only [fPut, Act.put, List.setIfInBounds_toArray, List.set_cons_succ, List.set_cons_zero, Nat.zero_add, Nat.reduceAdd]; rfl) (by kernel_rfl) (by kernel_rfl) (by kernel_rfl) (Below.drew (Below.refl _ _)) ?_
        apply each_read (fun _ => Below.refl _ _) rfl
        · intro u wv hC hf
          have z0 := (HX14.out _ hC).1
          have z1 := (HX14.out _ hC).2.1
          have y0 := (HX14.out _ hC).2.2.1
          have y1 := (HX14.out _ hC).2.2.2.1
          have c0 := (HX14.out _ hC).2.2.2.2.1
          have c1 := (HX14.out _ hC).2.2.2.2.2
          clear hf
          go_simp
          try rfl
        apply each_read (fun _ => Below.refl _ _) rfl
        · intro u wv hC hf
          have z0 := (HX14.out _ hC).1
          have z1 := (HX14.out _ hC).2.1
          have y0 := (HX14.out _ hC).2.2.1
          have y1 := (HX14.out _ hC).2.2.2.1
          have c0 := (HX14.out _ hC).2.2.2.2.1
          have c1 := (HX14.out _ hC).2.2.2.2.2
          obtain ⟨d0_0, -⟩ := hf
          have e0 : u 0 = _ := d0_0 rfl
          clear d0_0
          go_simp
          try rfl
        conv => arg 8; simp only [List.cons_append, List.nil_append]
        apply each_readG (fun _ => Below.refl _ _)
        · intro u wv hC hf
          have z0 := (HX14.out _ hC).1
          have z1 := (HX14.out _ hC).2.1
          have y0 := (HX14.out _ hC).2.2.1
          have y1 := (HX14.out _ hC).2.2.2.1
          have c0 := (HX14.out _ hC).2.2.2.2.1
          have c1 := (HX14.out _ hC).2.2.2.2.2
          obtain ⟨d1_0, -⟩ := hf
          have e1 : u 1 = _ := d1_0 rfl
          clear d1_0
          refine ⟨wanted_at rfl rfl rfl e1 rfl, ?_⟩
          go_simp
          try rfl
        conv => arg 8; simp only [List.cons_append, List.nil_append]
        apply each_callRG
        · intro u wv hC hf
          have z0 := (HX14.out _ hC).1
          have z1 := (HX14.out _ hC).2.1
          have y0 := (HX14.out _ hC).2.2.1
          have y1 := (HX14.out _ hC).2.2.2.1
          have c0 := (HX14.out _ hC).2.2.2.2.1
          have c1 := (HX14.out _ hC).2.2.2.2.2
          obtain ⟨d2_0, d1_1, d1_2, -⟩ := hf
          have e2 : u 2 = _ := d2_0 rfl
          clear d2_0
          have e1 : u 1 = _ := d1_1 rfl
          clear d1_1
          clear d1_2
          refine ⟨wanted_at rfl rfl rfl e1 rfl, ?_⟩
          apply Exists.intro; apply Exists.intro; apply And.intro
          · go_simp; exact ⟨rfl, rfl⟩
          · refine (HTZ.out _ (HZ14.out _ hC)).mono ?_
            rintro e w3 ⟨rfl, hb⟩
            exact ⟨rfl, Below.now hC hb, hb⟩
        conv => arg 8; simp only [List.cons_append, List.nil_append]
        apply each_read (fun _ => Below.refl _ _) rfl
        · intro u wv hC hf
          have z0 := (HX14.out _ hC).1
          have z1 := (HX14.out _ hC).2.1
          have y0 := (HX14.out _ hC).2.2.1
          have y1 := (HX14.out _ hC).2.2.2.1
          have c0 := (HX14.out _ hC).2.2.2.2.1
          have c1 := (HX14.out _ hC).2.2.2.2.2
          obtain ⟨d1_0, d3_1, -⟩ := hf
          have e1 : u 1 = _ := d1_0 rfl
          clear d1_0
          have e3 : u 3 = _ := d3_1 rfl
          clear d3_1
          go_simp
          try rfl
        conv => arg 8; simp only [List.cons_append, List.nil_append]
        apply each_read (fun _ => Below.refl _ _) rfl
        · intro u wv hC hf
          have z0 := (HX14.out _ hC).1
          have z1 := (HX14.out _ hC).2.1
          have y0 := (HX14.out _ hC).2.2.1
          have y1 := (HX14.out _ hC).2.2.2.1
          have c0 := (HX14.out _ hC).2.2.2.2.1
          have c1 := (HX14.out _ hC).2.2.2.2.2
          obtain ⟨d4_0, d3_1, -⟩ := hf
          have e4 : u 4 = _ := d4_0 rfl
          clear d4_0
          have e3 : u 3 = _ := d3_1 rfl
          clear d3_1
          go_simp
          try rfl
        conv => arg 8; simp only [List.cons_append, List.nil_append]
        apply each_readG (fun _ => Below.refl _ _)
        · intro u wv hC hf
          have z0 := (HX14.out _ hC).1
          have z1 := (HX14.out _ hC).2.1
          have y0 := (HX14.out _ hC).2.2.1
          have y1 := (HX14.out _ hC).2.2.2.1
          have c0 := (HX14.out _ hC).2.2.2.2.1
          have c1 := (HX14.out _ hC).2.2.2.2.2
          obtain ⟨d5_0, -⟩ := hf
          have e5 : u 5 = _ := d5_0 rfl
          clear d5_0
          refine ⟨wanted_at rfl rfl rfl e5 rfl, ?_⟩
          go_simp
          try rfl
        conv => arg 8; simp only [List.cons_append, List.nil_append]
        apply each_readG (fun _ => Below.refl _ _)
        · intro u wv hC hf
          have z0 := (HX14.out _ hC).1
          have z1 := (HX14.out _ hC).2.1
          have y0 := (HX14.out _ hC).2.2.1
          have y1 := (HX14.out _ hC).2.2.2.1
          have c0 := (HX14.out _ hC).2.2.2.2.1
          have c1 := (HX14.out _ hC).2.2.2.2.2
          obtain ⟨d5_0, -⟩ := hf
          have e5 : u 5 = _ := d5_0 rfl
          clear d5_0
          refine ⟨wanted_at rfl rfl rfl e5 rfl, ?_⟩
          go_simp
          try rfl
        conv => arg 8; simp only [List.cons_append, List.nil_append]
        apply each_readG (fun _ => Below.refl _ _)
        · intro u wv hC hf
          have z0 := (HX14.out _ hC).1
          have z1 := (HX14.out _ hC).2.1
          have y0 := (HX14.out _ hC).2.2.1
          have y1 := (HX14.out _ hC).2.2.2.1
          have c0 := (HX14.out _ hC).2.2.2.2.1
          have c1 := (HX14.out _ hC).2.2.2.2.2
          obtain ⟨d7_0, d5_1, -⟩ := hf
          have e7 : u 7 = _ := d7_0 rfl
          clear d7_0
          have e5 : u 5 = _ := d5_1 rfl
          clear d5_1
          refine ⟨wanted_at rfl rfl rfl e5 rfl, ?_⟩
          go_simp
          try rfl
        conv => arg 8; simp only [List.cons_append, List.nil_append]
        apply each_readG (fun _ => Below.refl _ _)
        · intro u wv hC hf
          have z0 := (HX14.out _ hC).1
          have z1 := (HX14.out _ hC).2.1
          have y0 := (HX14.out _ hC).2.2.1
          have y1 := (HX14.out _ hC).2.2.2.1
          have c0 := (HX14.out _ hC).2.2.2.2.1
          have c1 := (HX14.out _ hC).2.2.2.2.2
          obtain ⟨d5_0, -⟩ := hf
          have e5 : u 5 = _ := d5_0 rfl
          clear d5_0
          refine ⟨wanted_at rfl rfl rfl e5 rfl, ?_⟩
          go_simp
          try rfl
        conv => arg 8; simp only [List.cons_append, List.nil_append]
        apply each_readG (fun _ => Below.refl _ _)
        · intro u wv hC hf
          have z0 := (HX14.out _ hC).1
          have z1 := (HX14.out _ hC).2.1
          have y0 := (HX14.out _ hC).2.2.1
          have y1 := (HX14.out _ hC).2.2.2.1
          have c0 := (HX14.out _ hC).2.2.2.2.1
          have c1 := (HX14.out _ hC).2.2.2.2.2
          obtain ⟨d9_0, d5_1, -⟩ := hf
          have e9 : u 9 = _ := d9_0 rfl
          clear d9_0
          have e5 : u 5 = _ := d5_1 rfl
          clear d5_1
          refine ⟨wanted_at rfl rfl rfl e5 rfl, ?_⟩
          go_simp
          try rfl
        conv => arg 8; simp only [List.cons_append, List.nil_append]
        apply each_readG (fun _ => Below.refl _ _)
        · intro u wv hC hf
          have z0 := (HX14.out _ hC).1
          have z1 := (HX14.out _ hC).2.1
          have y0 := (HX14.out _ hC).2.2.1
          have y1 := (HX14.out _ hC).2.2.2.1
          have c0 := (HX14.out _ hC).2.2.2.2.1
          have c1 := (HX14.out _ hC).2.2.2.2.2
          obtain ⟨d8_0, d10_1, d5_2, -⟩ := hf
          have e8 : u 8 = _ := d8_0 rfl
          clear d8_0
          have e10 : u 10 = _ := d10_1 rfl
          clear d10_1
          have e5 : u 5 = _ := d5_2 rfl
          clear d5_2
          refine ⟨wanted_at rfl rfl rfl e5 rfl, ?_⟩
          go_simp
          try rfl
        conv => arg 8; simp only [List.cons_append, List.nil_append]
        apply each_readG (fun _ => Below.refl _ _)
        · intro u wv hC hf
          have z0 := (HX14.out _ hC).1
          have z1 := (HX14.out _ hC).2.1
          have y0 := (HX14.out _ hC).2.2.1
          have y1 := (HX14.out _ hC).2.2.2.1
          have c0 := (HX14.out _ hC).2.2.2.2.1
          have c1 := (HX14.out _ hC).2.2.2.2.2
          obtain ⟨d11_0, d5_1, -⟩ := hf
          have e11 : u 11 = _ := d11_0 rfl
          clear d11_0
          have e5 : u 5 = _ := d5_1 rfl
          clear d5_1
          refine ⟨wanted_at rfl rfl rfl e5 rfl, ?_⟩
          go_simp
          try rfl
        conv => arg 8; simp only [List.cons_append, List.nil_append]
        apply each_readG (fun _ => Below.refl _ _)
        · intro u wv hC hf
          have z0 := (HX14.out _ hC).1
          have z1 := (HX14.out _ hC).2.1
          have y0 := (HX14.out _ hC).2.2.1
          have y1 := (HX14.out _ hC).2.2.2.1
          have c0 := (HX14.out _ hC).2.2.2.2.1
          have c1 := (HX14.out _ hC).2.2.2.2.2
          obtain ⟨d6_0, d12_1, d5_2, -⟩ := hf
          have e6 : u 6 = _ := d6_0 rfl
          clear d6_0
          have e12 : u 12 = _ := d12_1 rfl
          clear d12_1
          have e5 : u 5 = _ := d5_2 rfl
          clear d5_2
          refine ⟨wanted_at rfl rfl rfl e5 rfl, ?_⟩
          go_simp
          try rfl
        conv => arg 8; simp only [List.cons_append, List.nil_append]
        apply each_read (fun _ => Below.refl _ _) rfl
        · intro u wv hC hf
          have z0 := (HX14.out _ hC).1
          have z1 := (HX14.out _ hC).2.1
          have y0 := (HX14.out _ hC).2.2.1
          have y1 := (HX14.out _ hC).2.2.2.1
          have c0 := (HX14.out _ hC).2.2.2.2.1
          have c1 := (HX14.out _ hC).2.2.2.2.2
          obtain ⟨d5_0, d13_1, -⟩ := hf
          have e5 : u 5 = _ := d5_0 rfl
          clear d5_0
          have e13 : u 13 = _ := d13_1 rfl
          clear d13_1
          go_simp
          try rfl
        conv => arg 8; simp only [List.cons_append, List.nil_append]
        apply each_read (fun _ => Below.refl _ _) rfl
        · intro u wv hC hf
          have z0 := (HX14.out _ hC).1
          have z1 := (HX14.out _ hC).2.1
          have y0 := (HX14.out _ hC).2.2.1
          have y1 := (HX14.out _ hC).2.2.2.1
          have c0 := (HX14.out _ hC).2.2.2.2.1
          have c1 := (HX14.out _ hC).2.2.2.2.2
          obtain ⟨d14_0, d5_1, -⟩ := hf
          have e14 : u 14 = _ := d14_0 rfl
          clear d14_0
          have e5 : u 5 = _ := d5_1 rfl
          clear d5_1
          go_simp
          try rfl
        conv => arg 8; simp only [List.cons_append, List.nil_append]
        apply each_readG (fun _ => Below.refl _ _)
        · intro u wv hC hf
          have z0 := (HX14.out _ hC).1
          have z1 := (HX14.out _ hC).2.1
          have y0 := (HX14.out _ hC).2.2.1
          have y1 := (HX14.out _ hC).2.2.2.1
          have c0 := (HX14.out _ hC).2.2.2.2.1
          have c1 := (HX14.out _ hC).2.2.2.2.2
          obtain ⟨d15_0, -⟩ := hf
          have e15 : u 15 = _ := d15_0 rfl
          clear d15_0
          refine ⟨wanted_at rfl rfl rfl e15 rfl, ?_⟩
          go_simp
          try rfl
        conv => arg 8; simp only [List.cons_append, List.nil_append]
        apply each_readG (fun _ => Below.refl _ _)
        · intro u wv hC hf
          have z0 := (HX14.out _ hC).1
          have z1 := (HX14.out _ hC).2.1
          have y0 := (HX14.out _ hC).2.2.1
          have y1 := (HX14.out _ hC).2.2.2.1
          have c0 := (HX14.out _ hC).2.2.2.2.1
          have c1 := (HX14.out _ hC).2.2.2.2.2
          obtain ⟨d16_0, d15_1, -⟩ := hf
          have e16 : u 16 = _ := d16_0 rfl
          clear d16_0
          have e15 : u 15 = _ := d15_1 rfl
          clear d15_1
          refine ⟨wanted_at rfl rfl rfl e15 rfl, ?_⟩
          go_simp
          try rfl
        conv => arg 8; simp only [List.cons_append, List.nil_append]
        apply each_readG (fun _ => Below.refl _ _)
        · intro u wv hC hf
          have z0 := (HX14.out _ hC).1
          have z1 := (HX14.out _ hC).2.1
          have y0 := (HX14.out _ hC).2.2.1
          have y1 := (HX14.out _ hC).2.2.2.1
          have c0 := (HX14.out _ hC).2.2.2.2.1
          have c1 := (HX14.out _ hC).2.2.2.2.2
          obtain ⟨d17_0, d15_1, d15_2, -⟩ := hf
          have e17 : u 17 = _ := d17_0 rfl
          clear d17_0
          have e15 : u 15 = _ := d15_1 rfl
          clear d15_1
          clear d15_2
          refine ⟨wanted_at rfl rfl rfl e15 rfl, ?_⟩
          go_simp
          try rfl
        conv => arg 8; simp only [List.cons_append, List.nil_append]
        refine each_off ?_ ?_
        · intro u wv hC hf
          obtain ⟨d18_0, -⟩ := hf
          have e18 : u 18 = _ := d18_0 rfl
          clear d18_0
          exact wanted_at rfl rfl rfl e18 rfl
        conv => arg 8; simp only [List.cons_append, List.nil_append]
        refine each_off ?_ ?_
        · intro u wv hC hf
          obtain ⟨d19_0, d18_1, d18_2, -⟩ := hf
          have e19 : u 19 = _ := d19_0 rfl
          clear d19_0
          have e18 : u 18 = _ := d18_1 rfl
          clear d18_1
          clear d18_2
          exact wanted_at rfl rfl rfl e18 rfl
        conv => arg 8; simp only [List.cons_append, List.nil_append]
        refine each_off ?_ ?_
        · intro u wv hC hf
          obtain ⟨d20_0, d20_1, d18_2, -⟩ := hf
          have e20 : u 20 = _ := d20_0 rfl
          clear d20_0
          clear d20_1
          have e18 : u 18 = _ := d18_2 rfl
          clear d18_2
          exact wanted_at rfl rfl rfl e18 rfl
        conv => arg 8; simp only [List.cons_append, List.nil_append]
        refine each_off ?_ ?_
        · intro u wv hC hf
          obtain ⟨d21_0, -⟩ := hf
          have e21 : u 21 = _ := d21_0 rfl
          clear d21_0
          exact wanted_undef rfl rfl rfl e21
        conv => arg 8; simp only [List.cons_append, List.nil_append]
        refine each_off ?_ ?_
        · intro u wv hC hf
          obtain ⟨d22_0, d21_1, d21_2, -⟩ := hf
          have e22 : u 22 = _ := d22_0 rfl
          clear d22_0
          have e21 : u 21 = _ := d21_1 rfl
          clear d21_1
          clear d21_2
          exact wanted_undef rfl rfl rfl e21
        conv => arg 8; simp only [List.cons_append, List.nil_append]
        refine each_off ?_ ?_
        · intro u wv hC hf
          obtain ⟨d23_0, d21_1, -⟩ := hf
          have e23 : u 23 = _ := d23_0 rfl
          clear d23_0
          have e21 : u 21 = _ := d21_1 rfl
          clear d21_1
          exact wanted_undef rfl rfl rfl e21
        conv => arg 8; simp only [List.cons_append, List.nil_append]
        refine each_off ?_ ?_
        · intro u wv hC hf
          obtain ⟨d21_0, -⟩ := hf
          have e21 : u 21 = _ := d21_0 rfl
          clear d21_0
          exact wanted_undef rfl rfl rfl e21
        conv => arg 8; simp only [List.cons_append, List.nil_append]
        refine each_off ?_ ?_
        · intro u wv hC hf
          obtain ⟨d25_0, d23_1, d21_2, -⟩ := hf
          have e25 : u 25 = _ := d25_0 rfl
          clear d25_0
          have e23 : u 23 = _ := d23_1 rfl
          clear d23_1
          have e21 : u 21 = _ := d21_2 rfl
          clear d21_2
          exact wanted_undef rfl rfl rfl e21
        conv => arg 8; simp only [List.cons_append, List.nil_append]
        refine each_off ?_ ?_
        · intro u wv hC hf
          obtain ⟨d26_0, d21_1, -⟩ := hf
          have e26 : u 26 = _ := d26_0 rfl
          clear d26_0
          have e21 : u 21 = _ := d21_1 rfl
          clear d21_1
          exact wanted_undef rfl rfl rfl e21
        conv => arg 8; simp only [List.cons_append, List.nil_append]
        refine each_off ?_ ?_
        · intro u wv hC hf
          obtain ⟨d21_0, -⟩ := hf
          have e21 : u 21 = _ := d21_0 rfl
          clear d21_0
          exact wanted_undef rfl rfl rfl e21
        conv => arg 8; simp only [List.cons_append, List.nil_append]
        refine each_off ?_ ?_
        · intro u wv hC hf
          obtain ⟨d28_0, d26_1, d21_2, -⟩ := hf
          have e28 : u 28 = _ := d28_0 rfl
          clear d28_0
          have e26 : u 26 = _ := d26_1 rfl
          clear d26_1
          have e21 : u 21 = _ := d21_2 rfl
          clear d21_2
          exact wanted_undef rfl rfl rfl e21
        conv => arg 8; simp only [List.cons_append, List.nil_append]
        refine each_off ?_ ?_
        · intro u wv hC hf
          obtain ⟨d29_0, d21_1, -⟩ := hf
          have e29 : u 29 = _ := d29_0 rfl
          clear d29_0
          have e21 : u 21 = _ := d21_1 rfl
          clear d21_1
          exact wanted_undef rfl rfl rfl e21
        conv => arg 8; simp only [List.cons_append, List.nil_append]
        refine each_off ?_ ?_
        · intro u wv hC hf
          obtain ⟨d27_0, d30_1, d21_2, -⟩ := hf
          have e27 : u 27 = _ := d27_0 rfl
          clear d27_0
          have e30 : u 30 = _ := d30_1 rfl
          clear d30_1
          have e21 : u 21 = _ := d21_2 rfl
          clear d21_2
          exact wanted_undef rfl rfl rfl e21
        conv => arg 8; simp only [List.cons_append, List.nil_append]
        refine each_off ?_ ?_
        · intro u wv hC hf
          obtain ⟨d24_0, d31_1, d21_2, -⟩ := hf
          have e24 : u 24 = _ := d24_0 rfl
          clear d24_0
          have e31 : u 31 = _ := d31_1 rfl
          clear d31_1
          have e21 : u 21 = _ := d21_2 rfl
          clear d21_2
          exact wanted_undef rfl rfl rfl e21
        conv => arg 8; simp only [List.cons_append, List.nil_append]
        refine each_off ?_ ?_
        · intro u wv hC hf
          obtain ⟨d21_0, d32_1, d18_2, -⟩ := hf
          have e21 : u 21 = _ := d21_0 rfl
          clear d21_0
          have e32 : u 32 = _ := d32_1 rfl
          clear d32_1
          have e18 : u 18 = _ := d18_2 rfl
          clear d18_2
          exact wanted_at rfl rfl rfl e18 rfl
        conv => arg 8; simp only [List.cons_append, List.nil_append]
        refine each_off ?_ ?_
        · intro u wv hC hf
          obtain ⟨d33_0, d29_1, d18_2, -⟩ := hf
          have e33 : u 33 = _ := d33_0 rfl
          clear d33_0
          have e29 : u 29 = _ := d29_1 rfl
          clear d29_1
          have e18 : u 18 = _ := d18_2 rfl
          clear d18_2
          exact wanted_at rfl rfl rfl e18 rfl
        conv => arg 8; simp only [List.cons_append, List.nil_append]
        refine each_off ?_ ?_
        · intro u wv hC hf
          obtain ⟨d34_0, -⟩ := hf
          have e34 : u 34 = _ := d34_0 rfl
          clear d34_0
          exact wanted_undef rfl rfl rfl e34
        conv => arg 8; simp only [List.cons_append, List.nil_append]
        refine each_off ?_ ?_
        · intro u wv hC hf
          obtain ⟨d35_0, d34_1, d34_2, -⟩ := hf
          have e35 : u 35 = _ := d35_0 rfl
          clear d35_0
          have e34 : u 34 = _ := d34_1 rfl
          clear d34_1
          clear d34_2
          exact wanted_undef rfl rfl rfl e34
        conv => arg 8; simp only [List.cons_append, List.nil_append]
        refine each_off ?_ ?_
        · intro u wv hC hf
          obtain ⟨d36_0, d34_1, -⟩ := hf
          have e36 : u 36 = _ := d36_0 rfl
          clear d36_0
          have e34 : u 34 = _ := d34_1 rfl
          clear d34_1
          exact wanted_undef rfl rfl rfl e34
        conv => arg 8; simp only [List.cons_append, List.nil_append]
        refine each_off ?_ ?_
        · intro u wv hC hf
          obtain ⟨d34_0, -⟩ := hf
          have e34 : u 34 = _ := d34_0 rfl
          clear d34_0
          exact wanted_undef rfl rfl rfl e34
        conv => arg 8; simp only [List.cons_append, List.nil_append]
        refine each_off ?_ ?_
        · intro u wv hC hf
          obtain ⟨d38_0, d36_1, d34_2, -⟩ := hf
          have e38 : u 38 = _ := d38_0 rfl
          clear d38_0
          have e36 : u 36 = _ := d36_1 rfl
          clear d36_1
          have e34 : u 34 = _ := d34_2 rfl
          clear d34_2
          exact wanted_undef rfl rfl rfl e34
        conv => arg 8; simp only [List.cons_append, List.nil_append]
        refine each_off ?_ ?_
        · intro u wv hC hf
          obtain ⟨d39_0, d34_1, -⟩ := hf
          have e39 : u 39 = _ := d39_0 rfl
          clear d39_0
          have e34 : u 34 = _ := d34_1 rfl
          clear d34_1
          exact wanted_undef rfl rfl rfl e34
        conv => arg 8; simp only [List.cons_append, List.nil_append]
        refine each_off ?_ ?_
        · intro u wv hC hf
          obtain ⟨d34_0, -⟩ := hf
          have e34 : u 34 = _ := d34_0 rfl
          clear d34_0
          exact wanted_undef rfl rfl rfl e34
        conv => arg 8; simp only [List.cons_append, List.nil_append]
        refine each_off ?_ ?_
        · intro u wv hC hf
          obtain ⟨d41_0, d39_1, d34_2, -⟩ := hf
          have e41 : u 41 = _ := d41_0 rfl
          clear d41_0
          have e39 : u 39 = _ := d39_1 rfl
          clear d39_1
          have e34 : u 34 = _ := d34_2 rfl
          clear d34_2
          exact wanted_undef rfl rfl rfl e34
        conv => arg 8; simp only [List.cons_append, List.nil_append]
        refine each_off ?_ ?_
        · intro u wv hC hf
          obtain ⟨d42_0, d34_1, -⟩ := hf
          have e42 : u 42 = _ := d42_0 rfl
          clear d42_0
          have e34 : u 34 = _ := d34_1 rfl
          clear d34_1
          exact wanted_undef rfl rfl rfl e34
        conv => arg 8; simp only [List.cons_append, List.nil_append]
        refine each_off ?_ ?_
        · intro u wv hC hf
          obtain ⟨d40_0, d43_1, d34_2, -⟩ := hf
          have e40 : u 40 = _ := d40_0 rfl
          clear d40_0
          have e43 : u 43 = _ := d43_1 rfl
          clear d43_1
          have e34 : u 34 = _ := d34_2 rfl
          clear d34_2
          exact wanted_undef rfl rfl rfl e34
        conv => arg 8; simp only [List.cons_append, List.nil_append]
        refine each_off ?_ ?_
        · intro u wv hC hf
          obtain ⟨d37_0, d44_1, d34_2, -⟩ := hf
          have e37 : u 37 = _ := d37_0 rfl
          clear d37_0
          have e44 : u 44 = _ := d44_1 rfl
          clear d44_1
          have e34 : u 34 = _ := d34_2 rfl
          clear d34_2
          exact wanted_undef rfl rfl rfl e34
        conv => arg 8; simp only [List.cons_append, List.nil_append]
        refine each_off ?_ ?_
        · intro u wv hC hf
          obtain ⟨d34_0, d45_1, d18_2, -⟩ := hf
          have e34 : u 34 = _ := d34_0 rfl
          clear d34_0
          have e45 : u 45 = _ := d45_1 rfl
          clear d45_1
          have e18 : u 18 = _ := d18_2 rfl
          clear d18_2
          exact wanted_at rfl rfl rfl e18 rfl
        conv => arg 8; simp only [List.cons_append, List.nil_append]
        apply each_readG (fun _ => Below.refl _ _)
        · intro u wv hC hf
          have z0 := (HX14.out _ hC).1
          have z1 := (HX14.out _ hC).2.1
          have y0 := (HX14.out _ hC).2.2.1
          have y1 := (HX14.out _ hC).2.2.2.1
          have c0 := (HX14.out _ hC).2.2.2.2.1
          have c1 := (HX14.out _ hC).2.2.2.2.2
          obtain ⟨d18_0, d46_1, d15_2, -⟩ := hf
          have e18 : u 18 = _ := d18_0 rfl
          clear d18_0
          have e46 : u 46 = _ := d46_1 rfl
          clear d46_1
          have e15 : u 15 = _ := d15_2 rfl
          clear d15_2
          refine ⟨wanted_at rfl rfl rfl e15 rfl, ?_⟩
          go_simp
          try rfl
        conv => arg 8; simp only [List.cons_append, List.nil_append]
        apply each_read (fun _ => Below.refl _ _) rfl
        · intro u wv hC hf
          have z0 := (HX14.out _ hC).1
          have z1 := (HX14.out _ hC).2.1
          have y0 := (HX14.out _ hC).2.2.1
          have y1 := (HX14.out _ hC).2.2.2.1
          have c0 := (HX14.out _ hC).2.2.2.2.1
          have c1 := (HX14.out _ hC).2.2.2.2.2
          obtain ⟨d15_0, d47_1, -⟩ := hf
          have e15 : u 15 = _ := d15_0 rfl
          clear d15_0
          have e47 : u 47 = _ := d47_1 rfl
          clear d47_1
          go_simp
          try rfl
        conv => arg 8; simp only [List.cons_append, List.nil_append]
        apply each_read (fun _ => Below.refl _ _) rfl
        · intro u wv hC hf
          have z0 := (HX14.out _ hC).1
          have z1 := (HX14.out _ hC).2.1
          have y0 := (HX14.out _ hC).2.2.1
          have y1 := (HX14.out _ hC).2.2.2.1
          have c0 := (HX14.out _ hC).2.2.2.2.1
          have c1 := (HX14.out _ hC).2.2.2.2.2
          obtain ⟨d48_0, d42_1, d0_2, d1_3, d2_4, d3_5, d4_6, d5_7, d6_8, d7_9, d8_10, d9_11, d10_12, d11_13, d12_14, d13_15, d14_16, d15_17, d16_18, d17_19, d18_20, d19_21, d20_22, d21_23, d22_24, d23_25, d24_26, d25_27, d26_28, d27_29, d28_30, d29_31, d30_32, d31_33, d32_34, d33_35, d34_36, d35_37, d36_38, d37_39, d38_40, d39_41, d40_42, d41_43, d42_44, d43_45, d44_46, d45_47, d46_48, d47_49, d48_50, -⟩ := hf
          have e48 : u 48 = _ := d48_0 rfl
          clear d48_0
          have e42 : u 42 = _ := d42_1 rfl
          clear d42_1
          have e0 : u 0 = _ := d0_2 rfl
          clear d0_2
          have e1 : u 1 = _ := d1_3 rfl
          clear d1_3
          have e2 : u 2 = _ := d2_4 rfl
          clear d2_4
          have e3 : u 3 = _ := d3_5 rfl
          clear d3_5
          have e4 : u 4 = _ := d4_6 rfl
          clear d4_6
          have e5 : u 5 = _ := d5_7 rfl
          clear d5_7
          have e6 : u 6 = _ := d6_8 rfl
          clear d6_8
          have e7 : u 7 = _ := d7_9 rfl
          clear d7_9
          have e8 : u 8 = _ := d8_10 rfl
          clear d8_10
          have e9 : u 9 = _ := d9_11 rfl
          clear d9_11
          have e10 : u 10 = _ := d10_12 rfl
          clear d10_12
          have e11 : u 11 = _ := d11_13 rfl
          clear d11_13
          have e12 : u 12 = _ := d12_14 rfl
          clear d12_14
          have e13 : u 13 = _ := d13_15 rfl
          clear d13_15
          have e14 : u 14 = _ := d14_16 rfl
          clear d14_16
          have e15 : u 15 = _ := d15_17 rfl
          clear d15_17
          have e16 : u 16 = _ := d16_18 rfl
          clear d16_18
          have e17 : u 17 = _ := d17_19 rfl
          clear d17_19
          have e18 : u 18 = _ := d18_20 rfl
          clear d18_20
          have e19 : u 19 = _ := d19_21 rfl
          clear d19_21
          have e20 : u 20 = _ := d20_22 rfl
          clear d20_22
          have e21 : u 21 = _ := d21_23 rfl
          clear d21_23
          have e22 : u 22 = _ := d22_24 rfl
          clear d22_24
          have e23 : u 23 = _ := d23_25 rfl
          clear d23_25
          have e24 : u 24 = _ := d24_26 rfl
          clear d24_26
          have e25 : u 25 = _ := d25_27 rfl
          clear d25_27
          have e26 : u 26 = _ := d26_28 rfl
          clear d26_28
          have e27 : u 27 = _ := d27_29 rfl
          clear d27_29
          have e28 : u 28 = _ := d28_30 rfl
          clear d28_30
          have e29 : u 29 = _ := d29_31 rfl
          clear d29_31
          have e30 : u 30 = _ := d30_32 rfl
          clear d30_32
          have e31 : u 31 = _ := d31_33 rfl
          clear d31_33
          have e32 : u 32 = _ := d32_34 rfl
          clear d32_34
          have e33 : u 33 = _ := d33_35 rfl
          clear d33_35
          have e34 : u 34 = _ := d34_36 rfl
          clear d34_36
          have e35 : u 35 = _ := d35_37 rfl
          clear d35_37
          have e36 : u 36 = _ := d36_38 rfl
          clear d36_38
          have e37 : u 37 = _ := d37_39 rfl
          clear d37_39
          have e38 : u 38 = _ := d38_40 rfl
          clear d38_40
          have e39 : u 39 = _ := d39_41 rfl
          clear d39_41
          have e40 : u 40 = _ := d40_42 rfl
          clear d40_42
          have e41 : u 41 = _ := d41_43 rfl
          clear d41_43
          clear d42_44
          have e43 : u 43 = _ := d43_45 rfl
          clear d43_45
          have e44 : u 44 = _ := d44_46 rfl
          clear d44_46
          have e45 : u 45 = _ := d45_47 rfl
          clear d45_47
          have e46 : u 46 = _ := d46_48 rfl
          clear d46_48
          have e47 : u 47 = _ := d47_49 rfl
          clear d47_49
          clear d48_50
          go_simp
          try rfl
        intro u w15 hb15 hall
        obtain ⟨a0, a1, a2, a3, a4, a5, a6, a7, a8, a9, a10, a11, a12, a13, a14, a15, a16, a17, a18, a19, a20, a21, a22, a23, a24, a25, a26, a27, a28, a29, a30, a31, a32, a33, a34, a35, a36, a37, a38, a39, a40, a41, a42, a43, a44, a45, a46, a47, a48, a49, -⟩ := hall
        have e0 : u 0 = _ := a0
        clear a0
        have e1 : u 1 = _ := a1
        clear a1
        have e2 : u 2 = _ := a2
        clear a2
        have e3 : u 3 = _ := a3
        clear a3
        have e4 : u 4 = _ := a4
        clear a4
        have e5 : u 5 = _ := a5
        clear a5
        have e6 : u 6 = _ := a6
        clear a6
        have e7 : u 7 = _ := a7
        clear a7
        have e8 : u 8 = _ := a8
        clear a8
        have e9 : u 9 = _ := a9
        clear a9
        have e10 : u 10 = _ := a10
        clear a10
        have e11 : u 11 = _ := a11
        clear a11
        have e12 : u 12 = _ := a12
        clear a12
        have e13 : u 13 = _ := a13
        clear a13
        have e14 : u 14 = _ := a14
        clear a14
        have e15 : u 15 = _ := a15
        clear a15
        have e16 : u 16 = _ := a16
        clear a16
        have e17 : u 17 = _ := a17
        clear a17
        have e18 : u 18 = _ := a18
        clear a18
        have e19 : u 19 = _ := a19
        clear a19
        have e20 : u 20 = _ := a20
        clear a20
        have e21 : u 21 = _ := a21
        clear a21
        have e22 : u 22 = _ := a22
        clear a22
        have e23 : u 23 = _ := a23
        clear a23
        have e24 : u 24 = _ := a24
        clear a24
        have e25 : u 25 = _ := a25
        clear a25
        have e26 : u 26 = _ := a26
        clear a26
        have e27 : u 27 = _ := a27
        clear a27
        have e28 : u 28 = _ := a28
        clear a28
        have e29 : u 29 = _ := a29
        clear a29
        have e30 : u 30 = _ := a30
        clear a30
        have e31 : u 31 = _ := a31
        clear a31
        have e32 : u 32 = _ := a32
        clear a32
        have e33 : u 33 = _ := a33
        clear a33
        have e34 : u 34 = _ := a34
        clear a34
        have e35 : u 35 = _ := a35
        clear a35
        have e36 : u 36 = _ := a36
        clear a36
        have e37 : u 37 = _ := a37
        clear a37
        have e38 : u 38 = _ := a38
        clear a38
        have e39 : u 39 = _ := a39
        clear a39
        have e40 : u 40 = _ := a40
        clear a40
        have e41 : u 41 = _ := a41
        clear a41
        have e42 : u 42 = _ := a42
        clear a42
        have e43 : u 43 = _ := a43
        clear a43
        have e44 : u 44 = _ := a44
        clear a44
        have e45 : u 45 = _ := a45
        clear a45
        have e46 : u 46 = _ := a46
        clear a46
        have e47 : u 47 = _ := a47
        clear a47
        have e48 : u 48 = _ := a48
        clear a48
        have e49 : u 49 = _ := a49
        clear a49
        simp only [e0, e1, e2, e3, e4, e5, e6, e7, e8, e9, e10, e11, e12, e13, e14, e15, e16, e17, e18, e19, e20, e21, e22, e23, e24, e25, e26, e27, e28, e29, e30, e31, e32, e33, e34, e35, e36, e37, e38, e39, e40, e41, e42, e43, e44, e45, e46, e47, e48, e49]
        clear e0 e1 e2 e3 e4 e5 e6 e7 e8 e9 e10 e11 e12 e13 e14 e15 e16 e17 e18 e19 e20 e21 e22 e23 e24 e25 e26 e27 e28 e29 e30 e31 e32 e33 e34 e35 e36 e37 e38 e39 e40 e41 e42 e43 e44 e45 e46 e47 e48 e49
        have HBE := Lib.hid (Below.now HB1.out (Below.now HW2.out (Below.now HB14.out hb15)))
        go_wp2_with fail
        go_ret
        exact ⟨rfl, HBE.out⟩
set_option maxRecDepth 100000 in
theorem walkBig (a : Option Addr) (n cap : Nat) (w : World) (hn : n ≤ 9223372036854775807) (hlen : 1048576 < n) :
    Calls Try.prog 3 #[.slice a n cap] w fun e w' => e = .returned (.bool true) ∧ Below w.heap.size w w' := by
  have hq0 : (1048576 : Int) < (n : Int) := by omega
  go_enter Try.func3, Try.ntmps3
  go_wp2_with fail
  go_ret
  exact ⟨rfl, Below.refl _ _⟩
end Go.Proofs.Ytdhaebbfiaddnaa.fnTables
