/-
  ProductTable of the program at valid tables.
-/
import Derived.Test.YtdhaebbfiaddnaaGrp30
namespace Go.Proofs.Ytdhaebbfiaddnaa
open Go.RowKit
set_option linter.unusedVariables false
set_option maxRecDepth 20000 in
set_option maxHeartbeats 4000000 in
theorem implProductTable_no (m : Nat) (l : List Int) (a : Option Addr) (cap : Nat) (n : Nat) (y : List Int) (b : Option Addr) (cup : Nat) (w : World) (hl : IntsIn w a l) (hy : IntsIn w b y) (hT : TabG m l) (hU : TabG n y) (hmn : ¬ m * n ≤ 40) :
    Calls Try.prog 12 #[.agg #[.int .i64 (m : Nat), .slice a l.length cap], .agg #[.int .i64 (n : Nat), .slice b y.length cup]] w fun e w' => e = .returned (.tuple #[.agg #[.int .i64 0, .slice none 0 0], .bool false]) ∧ Below w.heap.size w w' := by
  obtain ⟨hlen, hm1, hm2⟩ := hT.few
  obtain ⟨hlen2, hn1, hn2⟩ := hU.few
  have HB1 := Lib.hid (alloc_belI w (.cells #[.int .i64 (m : Nat), .slice a l.length cap] 25))
  have HW2 := Lib.hid (alloc_belI (w.alloc (.cells #[.int .i64 (m : Nat), .slice a l.length cap] 25)) (.cells #[.int .i64 (n : Nat), .slice b y.length cup] 25))
  have HX : Hid (∀ W, Below ((w.alloc (.cells #[.int .i64 (m : Nat), .slice a l.length cap] 25)).alloc (.cells #[.int .i64 (n : Nat), .slice b y.length cup] 25)).heap.size ((w.alloc (.cells #[.int .i64 (m : Nat), .slice a l.length cap] 25)).alloc (.cells #[.int .i64 (n : Nat), .slice b y.length cup] 25)) W → W.cell? ⟨w.heap.size, 0, none⟩ = some (.int .i64 (m : Nat)) ∧ W.cell? ⟨w.heap.size, 1, none⟩ = some (.slice a l.length cap) ∧ W.cell? ⟨w.heap.size + 1, 0, none⟩ = some (.int .i64 (n : Nat)) ∧ W.cell? ⟨w.heap.size + 1, 1, none⟩ = some (.slice b y.length cup)) := Lib.hid (fun W hW => ⟨by rw [hW.cell (by simp; omega)]; simp [go_sem], by rw [hW.cell (by simp; omega)]; simp [go_sem], by rw [hW.cell (by simp)]; simp [go_sem], by rw [hW.cell (by simp)]; simp [go_sem]⟩)
  have HTO := Lib.hid (fun W (h : IntsIn W a l) => implTableOk_any (m : Nat) l a cap W h (by omega))
  rw [hT.tab] at HTO
  have HUO := Lib.hid (fun W (h : IntsIn W b y) => implTableOk_any (n : Nat) y b cup W h (by omega))
  rw [hU.tab] at HUO
  have HL := Lib.hid hl
  have HLU := Lib.hid (IntsIn.later hy HB1.out)
  have hs2 : ((w.alloc (.cells #[.int .i64 (m : Nat), .slice a l.length cap] 25)).alloc (.cells #[.int .i64 (n : Nat), .slice b y.length cup] 25)).heap.size = w.heap.size + 1 + 1 := by simp
  have HS2 := Lib.hid hs2
  have hbig : m * n ≤ 1600 := Nat.le_trans (Nat.mul_le_mul hm2 hn2) (by decide)
  have hw1 : IntKind.i64.wrap ((m : Int) * (n : Int)) = ((m * n : Nat) : Int) := by rw [Int.natCast_mul]; exact IntWalk.i64_in _ (by rw [← Int.natCast_mul]; omega)
  generalize m * n = M at *
  have hM : (40 : Int) < (M : Int) := by omega
  clear hl hy hT hU hs2
  go_enter Try.func12, Try.ntmps12
  go_wp2_with fail
  generalize ((w.alloc (.cells #[.int .i64 (m : Nat), .slice a l.length cap] 25)).alloc (.cells #[.int .i64 (n : Nat), .slice b y.length cup] 25)) = w2 at *
  have hal := alloc_belI w2 (.cells #[.int .i64 0, .slice none 0 0] 25)
  have HA := Lib.hid (alloc_at w2 (.cells #[.int .i64 0, .slice none 0 0] 25))
  refine (HTO.out _ (HL.out.later (Below.now HB1.out (Below.now HW2.out hal)))).mono ?_
  rintro e w3 ⟨rfl, hb3⟩
  have HB3 := Lib.hid (Below.now hal hb3)
  have HQ3 := Lib.hid ((hb3.block w2.heap.size (Array.getElem?_eq_some_iff.1 HA.out).1).trans HA.out)
  obtain ⟨z0, z1, z2, z3⟩ := HX.out _ HB3.out
  clear hb3 hal HA HTO
  have HB3 : Hid (Below w2.heap.size w2 w3) := HB3
  go_wp2_with fail
  refine (HUO.out _ (HLU.out.later (Below.now HW2.out HB3.out))).mono ?_
  rintro e w4 ⟨rfl, hb4⟩
  have HB4 := Lib.hid (Below.now HB3.out hb4)
  have HQ4 := Lib.hid ((hb4.block w2.heap.size (Array.getElem?_eq_some_iff.1 HQ3.out).1).trans HQ3.out)
  clear hb4 HB3 HQ3 HUO z0 z1 z2 z3
  have hq4 := HQ4.out
  rw [HS2.out] at hq4
  have HQ4 := Lib.hid hq4
  clear hq4
  generalize hr : w.heap.size + 1 + 1 = r1 at *
  have HS2 : Hid (r1 = w.heap.size + 1 + 1) := Lib.hid hr.symm
  clear hr
  obtain ⟨z0, z1, z2, z3⟩ := HX.out _ HB4.out
  have HO4 := Lib.hid (box_sets HQ4.out (.int .i64 0) (.slice none 0 0))
  obtain ⟨⟨f0, f1⟩, ⟨u0, u1⟩, _⟩ := HO4.out
  have F : Hid (Below w.heap.size w ((w4.setCell ⟨r1, 0, none⟩ (.int .i64 0)).setCell ⟨r1, 1, none⟩ (.slice none 0 0))) := Lib.hid (((Below.now HB1.out (Below.now HW2.out HB4.out)).setCell (by have := HS2.out; show w.heap.size ≤ r1; omega) _).setCell (by have := HS2.out; show w.heap.size ≤ r1; omega) _)
  clear HO4
  go_wp2_with fail
  refine bodyPost_ret (v := .tuple #[.agg #[.int .i64 0, .slice none 0 0], .bool false]) ?_ rfl ⟨rfl, F.out⟩
  simp [results, Try.results12, go_sem, u0, u1]
set_option maxRecDepth 20000 in
set_option maxHeartbeats 8000000 in
theorem implProductTable_ok (m : Nat) (l : List Int) (a : Option Addr) (cap : Nat) (n : Nat) (y : List Int) (b : Option Addr) (cup : Nat) (w : World) (hl : IntsIn w a l) (hy : IntsIn w b y) (hT : TabG m l) (hU : TabG n y) (hmn : m * n ≤ 40) :
    Calls Try.prog 12 #[.agg #[.int .i64 (m : Nat), .slice a l.length cap], .agg #[.int .i64 (n : Nat), .slice b y.length cup]] w (RetTb (m * n) ((prodT m (l.map Int.toNat) n (y.map Int.toNat)).map Int.ofNat) w) := by
  obtain ⟨hlen, hm1, hm2⟩ := hT.few
  obtain ⟨hlen2, hn1, hn2⟩ := hU.few
  have HB1 := Lib.hid (alloc_belI w (.cells #[.int .i64 (m : Nat), .slice a l.length cap] 25))
  have HW2 := Lib.hid (alloc_belI (w.alloc (.cells #[.int .i64 (m : Nat), .slice a l.length cap] 25)) (.cells #[.int .i64 (n : Nat), .slice b y.length cup] 25))
  have HX : Hid (∀ W, Below ((w.alloc (.cells #[.int .i64 (m : Nat), .slice a l.length cap] 25)).alloc (.cells #[.int .i64 (n : Nat), .slice b y.length cup] 25)).heap.size ((w.alloc (.cells #[.int .i64 (m : Nat), .slice a l.length cap] 25)).alloc (.cells #[.int .i64 (n : Nat), .slice b y.length cup] 25)) W → W.cell? ⟨w.heap.size, 0, none⟩ = some (.int .i64 (m : Nat)) ∧ W.cell? ⟨w.heap.size, 1, none⟩ = some (.slice a l.length cap) ∧ W.cell? ⟨w.heap.size + 1, 0, none⟩ = some (.int .i64 (n : Nat)) ∧ W.cell? ⟨w.heap.size + 1, 1, none⟩ = some (.slice b y.length cup)) := Lib.hid (fun W hW => ⟨by rw [hW.cell (by simp; omega)]; simp [go_sem], by rw [hW.cell (by simp; omega)]; simp [go_sem], by rw [hW.cell (by simp)]; simp [go_sem], by rw [hW.cell (by simp)]; simp [go_sem]⟩)
  have HTO := Lib.hid (fun W (h : IntsIn W a l) => implTableOk_any (m : Nat) l a cap W h (by omega))
  rw [hT.tab] at HTO
  have HUO := Lib.hid (fun W (h : IntsIn W b y) => implTableOk_any (n : Nat) y b cup W h (by omega))
  rw [hU.tab] at HUO
  have HL := Lib.hid hl
  have HLU := Lib.hid (IntsIn.later hy HB1.out)
  have hs2 : ((w.alloc (.cells #[.int .i64 (m : Nat), .slice a l.length cap] 25)).alloc (.cells #[.int .i64 (n : Nat), .slice b y.length cup] 25)).heap.size = w.heap.size + 1 + 1 := by simp
  have HS2 := Lib.hid hs2
  have HTM := Lib.hid (fun i k W (h : IntsIn W a l) hi hk => implTimes_any m _ a l.length cap i k W (hT.nats.2.1 W a h) hT.nats.1.toTb hT.nats.2.2 hi hk)
  have HTU := Lib.hid (fun i k W (h : IntsIn W b y) hi hk => implTimes_any n _ b y.length cup i k W (hU.nats.2.1 W b h) hU.nats.1.toTb hU.nats.2.2 hi hk)
  have HTT := Lib.hid hT.nats.1
  have HUU := Lib.hid hU.nats.1
  generalize hz : l.map Int.toNat = zn at *
  generalize hyn : y.map Int.toNat = yn at *
  have hw1 : IntKind.i64.wrap ((m : Int) * (n : Int)) = ((m * n : Nat) : Int) := by rw [Int.natCast_mul]; exact IntWalk.i64_in _ (by rw [← Int.natCast_mul]; omega)
  have HDV : Hid (∀ x, x < m * n → x / n < m ∧ x % n < n) := Lib.hid (fun x hx => div_lt' HTT.out HUU.out hx)
  have HPT : Hid (prodT m zn n yn = mkT (m * n) (prdF m zn n yn)) := Lib.hid rfl
  have HSZ : Hid (∀ i k, i < m * n → k < m * n → tm m zn (i / n) (k / n) * n ≤ 1600 ∧ tm m zn (i / n) (k / n) * n + tm n yn (i % n) (k % n) = prdF m zn n yn i k ∧ prdF m zn n yn i k < 40) := Lib.hid (fun i k hi hk => by
    obtain ⟨a1, a2⟩ := div_lt' HTT.out HUU.out hi
    obtain ⟨b1, b2⟩ := div_lt' HTT.out HUU.out hk
    have h1 := HTT.out.tm_lt a1 b1
    have h2 := prdF_lt HTT.out HUU.out hi hk
    exact ⟨Nat.le_trans (Nat.mul_le_mul (Nat.le_of_lt (Nat.lt_of_lt_of_le h1 hm2)) hn2) (by decide), rfl, by omega⟩)
  generalize hM : m * n = M at *
  have hM40 : ¬ (40 : Int) < (M : Int) := by omega
  have hn0 : ¬ (n : Int) = 0 := by omega
  have hn0b : ((n : Int) == 0) = false := by rw [beq_eq_false_iff_ne]; omega
  have hn0c : ¬ n = 0 := by omega
  clear hl hy hT hU hs2 hz hyn HTT HUU
  go_enter Try.func12, Try.ntmps12
  go_wp2_with fail
  generalize ((w.alloc (.cells #[.int .i64 (m : Nat), .slice a l.length cap] 25)).alloc (.cells #[.int .i64 (n : Nat), .slice b y.length cup] 25)) = w2 at *
  have hal := alloc_belI w2 (.cells #[.int .i64 0, .slice none 0 0] 25)
  have HA := Lib.hid (alloc_at w2 (.cells #[.int .i64 0, .slice none 0 0] 25))
  refine (HTO.out _ (HL.out.later (Below.now HB1.out (Below.now HW2.out hal)))).mono ?_
  rintro e w3 ⟨rfl, hb3⟩
  have HB3 := Lib.hid (Below.now hal hb3)
  have HQ3 := Lib.hid ((hb3.block w2.heap.size (Array.getElem?_eq_some_iff.1 HA.out).1).trans HA.out)
  obtain ⟨z0, z1, z2, z3⟩ := HX.out _ HB3.out
  clear hb3 hal HA HTO
  have HB3 : Hid (Below w2.heap.size w2 w3) := HB3
  go_wp2_with fail
  refine (HUO.out _ (HLU.out.later (Below.now HW2.out HB3.out))).mono ?_
  rintro e w4 ⟨rfl, hb4⟩
  have HB4 := Lib.hid (Below.now HB3.out hb4)
  have HQ4 := Lib.hid ((hb4.block w2.heap.size (Array.getElem?_eq_some_iff.1 HQ3.out).1).trans HQ3.out)
  clear hb4 HB3 HQ3 HUO z0 z1 z2 z3
  have hq4 := HQ4.out
  rw [HS2.out] at hq4
  have HQ4 := Lib.hid hq4
  clear hq4
  generalize hr : w.heap.size + 1 + 1 = r1 at *
  have HS2 : Hid (r1 = w.heap.size + 1 + 1) := Lib.hid hr.symm
  clear hr
  obtain ⟨z0, z1, z2, z3⟩ := HX.out _ HB4.out
  go_wp2_with fail
  have HST := Lib.hid (Rec2.start 25 3 1 (w := w4) (w1 := w4) (Below.refl _ _) (.int .i64 (M : Nat)))
  clear z0 z1 z2 z3
  generalize w4.alloc (.cells #[.int .i64 (M : Nat), .slice none 0 0] 25) = w5 at *
  generalize hg : w4.heap.size = g at *
  have HG := Lib.hid hg
  clear hg
  go_loopw [35] (fun i wr => ∃ c : Nat, c ≤ M ∧ i = .int .i64 (c : Nat) ∧ Hid (∃ v, Rec2 25 3 1 w4 wr g (.int .i64 (M : Nat)) v (rowsN M (prdF m zn n yn) c).length (ivs (rowsN M (prdF m zn n yn) c)))) (fun i _ => M - (intOf i).toNat)
  case atStart => exact ⟨0, Nat.zero_le _, rfl, Lib.hid ⟨_, HST.out⟩⟩
  case round =>
    clear HST
    obtain ⟨c, hcm, rfl, HV⟩ := hrel
    obtain ⟨v, hv⟩ := HV.out
    have HR := Lib.hid hv
    have HBR := Lib.hid (Below.now HB4.out hv.below)
    clear hv HV
    obtain ⟨y0, y1, _, _⟩ := HR.out.facts
    by_cases hc : c < M
    · go_wp2_with fail
      generalize hWR : wr = wr0 at *
      clear hWR y0 y1
      go_loopw [40] (fun i wr => ∃ d : Nat, d ≤ M ∧ i = .int .i64 (d : Nat) ∧ Hid (∃ v, Rec2 25 3 1 w4 wr g (.int .i64 (M : Nat)) v (rowsN M (prdF m zn n yn) c ++ rowN (prdF m zn n yn) c d).length (ivs (rowsN M (prdF m zn n yn) c ++ rowN (prdF m zn n yn) c d)))) (fun i _ => M - (intOf i).toNat)
      case atStart => exact ⟨0, Nat.zero_le _, rfl, Lib.hid ⟨v, by rw [rowN_zero, List.append_nil]; exact HR.out⟩⟩
      case round =>
        clear HR HBR
        obtain ⟨d, hdm, rfl, HV⟩ := hrel
        obtain ⟨v, hv⟩ := HV.out
        have HR := Lib.hid hv
        have HBI := Lib.hid (Below.now HB4.out hv.below)
        clear hv HV
        by_cases hd : d < M
        · have hn1' : (rowsN M (prdF m zn n yn) c ++ rowN (prdF m zn n yn) c d).length ≤ 1640 := by
            rw [List.length_append, rowsN_len, rowN_len]
            have := mul_le hmn hc
            omega
          have HE : Hid (rowsN M (prdF m zn n yn) c ++ rowN (prdF m zn n yn) c (d + 1) = (rowsN M (prdF m zn n yn) c ++ rowN (prdF m zn n yn) c d) ++ [prdF m zn n yn c d]) := Lib.hid (by rw [rowN_succ, List.append_assoc])
          obtain ⟨hic, hjc⟩ := HDV.out c hc
          obtain ⟨hid, hjd⟩ := HDV.out d hd
          obtain ⟨p1, p2, p3⟩ := HSZ.out c d hc hd
          have q1 : (c : Int).tdiv (n : Int) = ((c / n : Nat) : Int) := (Int.ofNat_tdiv c n).symm
          have q2 : (d : Int).tdiv (n : Int) = ((d / n : Nat) : Int) := (Int.ofNat_tdiv d n).symm
          have q3 : (c : Int).tmod (n : Int) = ((c % n : Nat) : Int) := (Int.ofNat_tmod c n).symm
          have q4 : (d : Int).tmod (n : Int) = ((d % n : Nat) : Int) := (Int.ofNat_tmod d n).symm
          have q1b : (c : Int) / (n : Int) = ((c / n : Nat) : Int) := (Int.natCast_ediv c n).symm
          have q2b : (d : Int) / (n : Int) = ((d / n : Nat) : Int) := (Int.natCast_ediv d n).symm
          have q3b : (c : Int) % (n : Int) = ((c % n : Nat) : Int) := (Int.natCast_emod c n).symm
          have q4b : (d : Int) % (n : Int) = ((d % n : Nat) : Int) := (Int.natCast_emod d n).symm
          generalize c / n = ic at *
          generalize d / n = id at *
          generalize c % n = jc at *
          generalize d % n = jd at *
          have q5 : IntKind.i64.wrap ((c : Int).tdiv (n : Int)) = ((ic : Nat) : Int) := by rw [q1]; exact IntWalk.i64_in _ (by omega)
          have q6 : IntKind.i64.wrap ((d : Int).tdiv (n : Int)) = ((id : Nat) : Int) := by rw [q2]; exact IntWalk.i64_in _ (by omega)
          have q5b : IntKind.i64.wrap ((c : Int) / (n : Int)) = ((ic : Nat) : Int) := by rw [q1b]; exact IntWalk.i64_in _ (by omega)
          have q6b : IntKind.i64.wrap ((d : Int) / (n : Int)) = ((id : Nat) : Int) := by rw [q2b]; exact IntWalk.i64_in _ (by omega)
          have q7 : IntKind.i64.wrap (((tm m zn ic id : Nat) : Int) * (n : Int)) = ((tm m zn ic id * n : Nat) : Int) := by rw [Int.natCast_mul]; exact IntWalk.i64_in _ (by rw [← Int.natCast_mul]; omega)
          have q8 : IntKind.i64.wrap (((tm m zn ic id * n : Nat) : Int) + ((tm n yn jc jd : Nat) : Int)) = ((prdF m zn n yn c d : Nat) : Int) := by rw [← Int.natCast_add, p2]; exact IntWalk.i64_in _ (by omega)
          clear p1 p2 p3 q1 q2 q1b q2b
          generalize tm m zn ic id * n = U at *
          generalize rowsN M (prdF m zn n yn) c ++ rowN (prdF m zn n yn) c d = Q at *
          generalize prdF m zn n yn c d = X at *
          go_upto_region 10 with fail
          refine region_each (fun W => Below wr.heap.size wr W) (fun W W2 => Below W.heap.size W W2) (fun u => by simp only [fPut, Act.put, List.setIfInBounds_toArray, List.set_cons_succ, List.set_cons_zero, Nat.zero_add, Nat.reduceAdd]; rfl) (by kernel_rfl) (by kernel_rfl) (by kernel_rfl) (Below.drew (Below.refl _ _)) ?_
          apply each_read (fun _ => Below.refl _ _) rfl
          · intro u wv hC hf
            have z0 := (HX.out _ (Below.now HBI.out hC)).1
            have z1 := (HX.out _ (Below.now HBI.out hC)).2.1
            have z2 := (HX.out _ (Below.now HBI.out hC)).2.2.1
            have z3 := (HX.out _ (Below.now HBI.out hC)).2.2.2
            have y0 := (HR.out.later hC).facts.1
            have y1 := (HR.out.later hC).facts.2.1
            clear hf
            go_simp
            try rfl
          apply each_read (fun _ => Below.refl _ _) rfl
          · intro u wv hC hf
            have z0 := (HX.out _ (Below.now HBI.out hC)).1
            have z1 := (HX.out _ (Below.now HBI.out hC)).2.1
            have z2 := (HX.out _ (Below.now HBI.out hC)).2.2.1
            have z3 := (HX.out _ (Below.now HBI.out hC)).2.2.2
            have y0 := (HR.out.later hC).facts.1
            have y1 := (HR.out.later hC).facts.2.1
            clear hf
            go_simp
            try rfl
          conv => arg 8; simp only [List.cons_append, List.nil_append]
          apply each_read (fun _ => Below.refl _ _) rfl
          · intro u wv hC hf
            have z0 := (HX.out _ (Below.now HBI.out hC)).1
            have z1 := (HX.out _ (Below.now HBI.out hC)).2.1
            have z2 := (HX.out _ (Below.now HBI.out hC)).2.2.1
            have z3 := (HX.out _ (Below.now HBI.out hC)).2.2.2
            have y0 := (HR.out.later hC).facts.1
            have y1 := (HR.out.later hC).facts.2.1
            clear hf
            go_simp
            try rfl
          conv => arg 8; simp only [List.cons_append, List.nil_append]
          apply each_read (fun _ => Below.refl _ _) rfl
          · intro u wv hC hf
            have z0 := (HX.out _ (Below.now HBI.out hC)).1
            have z1 := (HX.out _ (Below.now HBI.out hC)).2.1
            have z2 := (HX.out _ (Below.now HBI.out hC)).2.2.1
            have z3 := (HX.out _ (Below.now HBI.out hC)).2.2.2
            have y0 := (HR.out.later hC).facts.1
            have y1 := (HR.out.later hC).facts.2.1
            obtain ⟨d2_0, -⟩ := hf
            have e2 : u 2 = _ := d2_0 rfl
            clear d2_0
            go_simp
            try rfl
          conv => arg 8; simp only [List.cons_append, List.nil_append]
          apply each_read (fun _ => Below.refl _ _) rfl
          · intro u wv hC hf
            have z0 := (HX.out _ (Below.now HBI.out hC)).1
            have z1 := (HX.out _ (Below.now HBI.out hC)).2.1
            have z2 := (HX.out _ (Below.now HBI.out hC)).2.2.1
            have z3 := (HX.out _ (Below.now HBI.out hC)).2.2.2
            have y0 := (HR.out.later hC).facts.1
            have y1 := (HR.out.later hC).facts.2.1
            obtain ⟨d1_0, d3_1, -⟩ := hf
            have e1 : u 1 = _ := d1_0 rfl
            clear d1_0
            have e3 : u 3 = _ := d3_1 rfl
            clear d3_1
            go_simp
            try rfl
          conv => arg 8; simp only [List.cons_append, List.nil_append]
          apply each_read (fun _ => Below.refl _ _) rfl
          · intro u wv hC hf
            have z0 := (HX.out _ (Below.now HBI.out hC)).1
            have z1 := (HX.out _ (Below.now HBI.out hC)).2.1
            have z2 := (HX.out _ (Below.now HBI.out hC)).2.2.1
            have z3 := (HX.out _ (Below.now HBI.out hC)).2.2.2
            have y0 := (HR.out.later hC).facts.1
            have y1 := (HR.out.later hC).facts.2.1
            clear hf
            go_simp
            try rfl
          conv => arg 8; simp only [List.cons_append, List.nil_append]
          apply each_read (fun _ => Below.refl _ _) rfl
          · intro u wv hC hf
            have z0 := (HX.out _ (Below.now HBI.out hC)).1
            have z1 := (HX.out _ (Below.now HBI.out hC)).2.1
            have z2 := (HX.out _ (Below.now HBI.out hC)).2.2.1
            have z3 := (HX.out _ (Below.now HBI.out hC)).2.2.2
            have y0 := (HR.out.later hC).facts.1
            have y1 := (HR.out.later hC).facts.2.1
            clear hf
            go_simp
            try rfl
          conv => arg 8; simp only [List.cons_append, List.nil_append]
          apply each_read (fun _ => Below.refl _ _) rfl
          · intro u wv hC hf
            have z0 := (HX.out _ (Below.now HBI.out hC)).1
            have z1 := (HX.out _ (Below.now HBI.out hC)).2.1
            have z2 := (HX.out _ (Below.now HBI.out hC)).2.2.1
            have z3 := (HX.out _ (Below.now HBI.out hC)).2.2.2
            have y0 := (HR.out.later hC).facts.1
            have y1 := (HR.out.later hC).facts.2.1
            obtain ⟨d6_0, -⟩ := hf
            have e6 : u 6 = _ := d6_0 rfl
            clear d6_0
            go_simp
            try rfl
          conv => arg 8; simp only [List.cons_append, List.nil_append]
          apply each_read (fun _ => Below.refl _ _) rfl
          · intro u wv hC hf
            have z0 := (HX.out _ (Below.now HBI.out hC)).1
            have z1 := (HX.out _ (Below.now HBI.out hC)).2.1
            have z2 := (HX.out _ (Below.now HBI.out hC)).2.2.1
            have z3 := (HX.out _ (Below.now HBI.out hC)).2.2.2
            have y0 := (HR.out.later hC).facts.1
            have y1 := (HR.out.later hC).facts.2.1
            obtain ⟨d5_0, d7_1, -⟩ := hf
            have e5 : u 5 = _ := d5_0 rfl
            clear d5_0
            have e7 : u 7 = _ := d7_1 rfl
            clear d7_1
            go_simp
            try rfl
          conv => arg 8; simp only [List.cons_append, List.nil_append]
          apply each_callR rfl
          · intro u wv hC hf
            have z0 := (HX.out _ (Below.now HBI.out hC)).1
            have z1 := (HX.out _ (Below.now HBI.out hC)).2.1
            have z2 := (HX.out _ (Below.now HBI.out hC)).2.2.1
            have z3 := (HX.out _ (Below.now HBI.out hC)).2.2.2
            have y0 := (HR.out.later hC).facts.1
            have y1 := (HR.out.later hC).facts.2.1
            obtain ⟨d0_0, d4_1, d8_2, -⟩ := hf
            have e0 : u 0 = _ := d0_0 rfl
            clear d0_0
            have e4 : u 4 = _ := d4_1 rfl
            clear d4_1
            have e8 : u 8 = _ := d8_2 rfl
            clear d8_2
            apply Exists.intro; apply Exists.intro; apply And.intro
            · go_simp; exact ⟨rfl, rfl⟩
            · refine (HTM.out ic id _ (HL.out.later (Below.now HB1.out (Below.now HW2.out (Below.now HBI.out hC)))) hic hid).mono ?_
              rintro e w3 ⟨rfl, hb⟩
              exact ⟨rfl, Below.now hC hb, hb⟩
          conv => arg 8; simp only [List.cons_append, List.nil_append]
          apply each_read (fun _ => Below.refl _ _) rfl
          · intro u wv hC hf
            have z0 := (HX.out _ (Below.now HBI.out hC)).1
            have z1 := (HX.out _ (Below.now HBI.out hC)).2.1
            have z2 := (HX.out _ (Below.now HBI.out hC)).2.2.1
            have z3 := (HX.out _ (Below.now HBI.out hC)).2.2.2
            have y0 := (HR.out.later hC).facts.1
            have y1 := (HR.out.later hC).facts.2.1
            obtain ⟨d9_0, d9_1, d0_2, d1_3, d2_4, d3_5, d4_6, d5_7, d6_8, d7_9, d8_10, d9_11, -⟩ := hf
            have e9 : u 9 = _ := d9_0 rfl
            clear d9_0
            clear d9_1
            have e0 : u 0 = _ := d0_2 rfl
            clear d0_2
            have e1 : u 1 = _ := d1_3 rfl
            clear d1_3
            have e2 : u 2 = _ := d2_4 rfl
            clear d2_4
            have e3 : u 3 = _ := d3_5 rfl
            clear d3_5
            have e4 : u 4 = _ := d4_6 rfl
            clear d4_6
            have e5 : u 5 = _ := d5_7 rfl
            clear d5_7
            have e6 : u 6 = _ := d6_8 rfl
            clear d6_8
            have e7 : u 7 = _ := d7_9 rfl
            clear d7_9
            have e8 : u 8 = _ := d8_10 rfl
            clear d8_10
            clear d9_11
            go_simp
            try rfl
          intro u w6 d6 hall
          obtain ⟨a0, a1, a2, a3, a4, a5, a6, a7, a8, a9, a10, -⟩ := hall
          have e0 : u 0 = _ := a0
          clear a0
          have e1 : u 1 = _ := a1
          clear a1
          have e2 : u 2 = _ := a2
          clear a2
          have e3 : u 3 = _ := a3
          clear a3
          have e4 : u 4 = _ := a4
          clear a4
          have e5 : u 5 = _ := a5
          clear a5
          have e6 : u 6 = _ := a6
          clear a6
          have e7 : u 7 = _ := a7
          clear a7
          have e8 : u 8 = _ := a8
          clear a8
          have e9 : u 9 = _ := a9
          clear a9
          have e10 : u 10 = _ := a10
          clear a10
          simp only [e0, e1, e2, e3, e4, e5, e6, e7, e8, e9, e10]
          clear e0 e1 e2 e3 e4 e5 e6 e7 e8 e9 e10
          have HR6 := Lib.hid (HR.out.later d6)
          go_upto_region 11 with fail
          refine region_tail 18 (fun W => Below w6.heap.size w6 W) (fun W W2 => Below W.heap.size W W2) (fun u => by simp only [List.take_succ_cons, List.take_zero, fPut, Act.put, List.setIfInBounds_toArray, List.set_cons_succ, List.set_cons_zero, Nat.zero_add, Nat.reduceAdd]; rfl) (by kernel_rfl) (by kernel_rfl) (by kernel_rfl) (by kernel_rfl) (by kernel_rfl) (by kernel_rfl) (by kernel_rfl) (Below.drew (Below.refl _ _)) ?_
          conv => arg 7; simp only [List.take_succ_cons, List.take_zero]
          apply each_read (fun _ => Below.refl _ _) rfl
          · intro u wv hC hf
            have z0 := (HX.out _ (Below.now HBI.out (Below.now d6 hC))).1
            have z1 := (HX.out _ (Below.now HBI.out (Below.now d6 hC))).2.1
            have z2 := (HX.out _ (Below.now HBI.out (Below.now d6 hC))).2.2.1
            have z3 := (HX.out _ (Below.now HBI.out (Below.now d6 hC))).2.2.2
            have y0 := (HR.out.later (Below.now d6 hC)).facts.1
            have y1 := (HR.out.later (Below.now d6 hC)).facts.2.1
            clear hf
            go_simp
            try rfl
          apply each_read (fun _ => Below.refl _ _) rfl
          · intro u wv hC hf
            have z0 := (HX.out _ (Below.now HBI.out (Below.now d6 hC))).1
            have z1 := (HX.out _ (Below.now HBI.out (Below.now d6 hC))).2.1
            have z2 := (HX.out _ (Below.now HBI.out (Below.now d6 hC))).2.2.1
            have z3 := (HX.out _ (Below.now HBI.out (Below.now d6 hC))).2.2.2
            have y0 := (HR.out.later (Below.now d6 hC)).facts.1
            have y1 := (HR.out.later (Below.now d6 hC)).facts.2.1
            obtain ⟨d0_0, -⟩ := hf
            have e0 : u 0 = _ := d0_0 rfl
            clear d0_0
            go_simp
            try rfl
          conv => arg 8; simp only [List.cons_append, List.nil_append]
          apply each_read (fun _ => Below.refl _ _) rfl
          · intro u wv hC hf
            have z0 := (HX.out _ (Below.now HBI.out (Below.now d6 hC))).1
            have z1 := (HX.out _ (Below.now HBI.out (Below.now d6 hC))).2.1
            have z2 := (HX.out _ (Below.now HBI.out (Below.now d6 hC))).2.2.1
            have z3 := (HX.out _ (Below.now HBI.out (Below.now d6 hC))).2.2.2
            have y0 := (HR.out.later (Below.now d6 hC)).facts.1
            have y1 := (HR.out.later (Below.now d6 hC)).facts.2.1
            clear hf
            go_simp
            try rfl
          conv => arg 8; simp only [List.cons_append, List.nil_append]
          apply each_read (fun _ => Below.refl _ _) rfl
          · intro u wv hC hf
            have z0 := (HX.out _ (Below.now HBI.out (Below.now d6 hC))).1
            have z1 := (HX.out _ (Below.now HBI.out (Below.now d6 hC))).2.1
            have z2 := (HX.out _ (Below.now HBI.out (Below.now d6 hC))).2.2.1
            have z3 := (HX.out _ (Below.now HBI.out (Below.now d6 hC))).2.2.2
            have y0 := (HR.out.later (Below.now d6 hC)).facts.1
            have y1 := (HR.out.later (Below.now d6 hC)).facts.2.1
            clear hf
            go_simp
            try rfl
          conv => arg 8; simp only [List.cons_append, List.nil_append]
          apply each_read (fun _ => Below.refl _ _) rfl
          · intro u wv hC hf
            have z0 := (HX.out _ (Below.now HBI.out (Below.now d6 hC))).1
            have z1 := (HX.out _ (Below.now HBI.out (Below.now d6 hC))).2.1
            have z2 := (HX.out _ (Below.now HBI.out (Below.now d6 hC))).2.2.1
            have z3 := (HX.out _ (Below.now HBI.out (Below.now d6 hC))).2.2.2
            have y0 := (HR.out.later (Below.now d6 hC)).facts.1
            have y1 := (HR.out.later (Below.now d6 hC)).facts.2.1
            obtain ⟨d3_0, -⟩ := hf
            have e3 : u 3 = _ := d3_0 rfl
            clear d3_0
            go_simp
            try rfl
          conv => arg 8; simp only [List.cons_append, List.nil_append]
          apply each_read (fun _ => Below.refl _ _) rfl
          · intro u wv hC hf
            have z0 := (HX.out _ (Below.now HBI.out (Below.now d6 hC))).1
            have z1 := (HX.out _ (Below.now HBI.out (Below.now d6 hC))).2.1
            have z2 := (HX.out _ (Below.now HBI.out (Below.now d6 hC))).2.2.1
            have z3 := (HX.out _ (Below.now HBI.out (Below.now d6 hC))).2.2.2
            have y0 := (HR.out.later (Below.now d6 hC)).facts.1
            have y1 := (HR.out.later (Below.now d6 hC)).facts.2.1
            obtain ⟨d2_0, d4_1, -⟩ := hf
            have e2 : u 2 = _ := d2_0 rfl
            clear d2_0
            have e4 : u 4 = _ := d4_1 rfl
            clear d4_1
            go_simp
            try rfl
          conv => arg 8; simp only [List.cons_append, List.nil_append]
          apply each_read (fun _ => Below.refl _ _) rfl
          · intro u wv hC hf
            have z0 := (HX.out _ (Below.now HBI.out (Below.now d6 hC))).1
            have z1 := (HX.out _ (Below.now HBI.out (Below.now d6 hC))).2.1
            have z2 := (HX.out _ (Below.now HBI.out (Below.now d6 hC))).2.2.1
            have z3 := (HX.out _ (Below.now HBI.out (Below.now d6 hC))).2.2.2
            have y0 := (HR.out.later (Below.now d6 hC)).facts.1
            have y1 := (HR.out.later (Below.now d6 hC)).facts.2.1
            clear hf
            go_simp
            try rfl
          conv => arg 8; simp only [List.cons_append, List.nil_append]
          apply each_read (fun _ => Below.refl _ _) rfl
          · intro u wv hC hf
            have z0 := (HX.out _ (Below.now HBI.out (Below.now d6 hC))).1
            have z1 := (HX.out _ (Below.now HBI.out (Below.now d6 hC))).2.1
            have z2 := (HX.out _ (Below.now HBI.out (Below.now d6 hC))).2.2.1
            have z3 := (HX.out _ (Below.now HBI.out (Below.now d6 hC))).2.2.2
            have y0 := (HR.out.later (Below.now d6 hC)).facts.1
            have y1 := (HR.out.later (Below.now d6 hC)).facts.2.1
            clear hf
            go_simp
            try rfl
          conv => arg 8; simp only [List.cons_append, List.nil_append]
          apply each_read (fun _ => Below.refl _ _) rfl
          · intro u wv hC hf
            have z0 := (HX.out _ (Below.now HBI.out (Below.now d6 hC))).1
            have z1 := (HX.out _ (Below.now HBI.out (Below.now d6 hC))).2.1
            have z2 := (HX.out _ (Below.now HBI.out (Below.now d6 hC))).2.2.1
            have z3 := (HX.out _ (Below.now HBI.out (Below.now d6 hC))).2.2.2
            have y0 := (HR.out.later (Below.now d6 hC)).facts.1
            have y1 := (HR.out.later (Below.now d6 hC)).facts.2.1
            clear hf
            go_simp
            try rfl
          conv => arg 8; simp only [List.cons_append, List.nil_append]
          apply each_read (fun _ => Below.refl _ _) rfl
          · intro u wv hC hf
            have z0 := (HX.out _ (Below.now HBI.out (Below.now d6 hC))).1
            have z1 := (HX.out _ (Below.now HBI.out (Below.now d6 hC))).2.1
            have z2 := (HX.out _ (Below.now HBI.out (Below.now d6 hC))).2.2.1
            have z3 := (HX.out _ (Below.now HBI.out (Below.now d6 hC))).2.2.2
            have y0 := (HR.out.later (Below.now d6 hC)).facts.1
            have y1 := (HR.out.later (Below.now d6 hC)).facts.2.1
            obtain ⟨d8_0, -⟩ := hf
            have e8 : u 8 = _ := d8_0 rfl
            clear d8_0
            go_simp
            try rfl
          conv => arg 8; simp only [List.cons_append, List.nil_append]
          apply each_read (fun _ => Below.refl _ _) rfl
          · intro u wv hC hf
            have z0 := (HX.out _ (Below.now HBI.out (Below.now d6 hC))).1
            have z1 := (HX.out _ (Below.now HBI.out (Below.now d6 hC))).2.1
            have z2 := (HX.out _ (Below.now HBI.out (Below.now d6 hC))).2.2.1
            have z3 := (HX.out _ (Below.now HBI.out (Below.now d6 hC))).2.2.2
            have y0 := (HR.out.later (Below.now d6 hC)).facts.1
            have y1 := (HR.out.later (Below.now d6 hC)).facts.2.1
            obtain ⟨d7_0, d9_1, -⟩ := hf
            have e7 : u 7 = _ := d7_0 rfl
            clear d7_0
            have e9 : u 9 = _ := d9_1 rfl
            clear d9_1
            go_simp
            try rfl
          conv => arg 8; simp only [List.cons_append, List.nil_append]
          apply each_read (fun _ => Below.refl _ _) rfl
          · intro u wv hC hf
            have z0 := (HX.out _ (Below.now HBI.out (Below.now d6 hC))).1
            have z1 := (HX.out _ (Below.now HBI.out (Below.now d6 hC))).2.1
            have z2 := (HX.out _ (Below.now HBI.out (Below.now d6 hC))).2.2.1
            have z3 := (HX.out _ (Below.now HBI.out (Below.now d6 hC))).2.2.2
            have y0 := (HR.out.later (Below.now d6 hC)).facts.1
            have y1 := (HR.out.later (Below.now d6 hC)).facts.2.1
            clear hf
            go_simp
            try rfl
          conv => arg 8; simp only [List.cons_append, List.nil_append]
          apply each_read (fun _ => Below.refl _ _) rfl
          · intro u wv hC hf
            have z0 := (HX.out _ (Below.now HBI.out (Below.now d6 hC))).1
            have z1 := (HX.out _ (Below.now HBI.out (Below.now d6 hC))).2.1
            have z2 := (HX.out _ (Below.now HBI.out (Below.now d6 hC))).2.2.1
            have z3 := (HX.out _ (Below.now HBI.out (Below.now d6 hC))).2.2.2
            have y0 := (HR.out.later (Below.now d6 hC)).facts.1
            have y1 := (HR.out.later (Below.now d6 hC)).facts.2.1
            clear hf
            go_simp
            try rfl
          conv => arg 8; simp only [List.cons_append, List.nil_append]
          apply each_read (fun _ => Below.refl _ _) rfl
          · intro u wv hC hf
            have z0 := (HX.out _ (Below.now HBI.out (Below.now d6 hC))).1
            have z1 := (HX.out _ (Below.now HBI.out (Below.now d6 hC))).2.1
            have z2 := (HX.out _ (Below.now HBI.out (Below.now d6 hC))).2.2.1
            have z3 := (HX.out _ (Below.now HBI.out (Below.now d6 hC))).2.2.2
            have y0 := (HR.out.later (Below.now d6 hC)).facts.1
            have y1 := (HR.out.later (Below.now d6 hC)).facts.2.1
            obtain ⟨d12_0, -⟩ := hf
            have e12 : u 12 = _ := d12_0 rfl
            clear d12_0
            go_simp
            try rfl
          conv => arg 8; simp only [List.cons_append, List.nil_append]
          apply each_read (fun _ => Below.refl _ _) rfl
          · intro u wv hC hf
            have z0 := (HX.out _ (Below.now HBI.out (Below.now d6 hC))).1
            have z1 := (HX.out _ (Below.now HBI.out (Below.now d6 hC))).2.1
            have z2 := (HX.out _ (Below.now HBI.out (Below.now d6 hC))).2.2.1
            have z3 := (HX.out _ (Below.now HBI.out (Below.now d6 hC))).2.2.2
            have y0 := (HR.out.later (Below.now d6 hC)).facts.1
            have y1 := (HR.out.later (Below.now d6 hC)).facts.2.1
            obtain ⟨d11_0, d13_1, -⟩ := hf
            have e11 : u 11 = _ := d11_0 rfl
            clear d11_0
            have e13 : u 13 = _ := d13_1 rfl
            clear d13_1
            go_simp
            try rfl
          conv => arg 8; simp only [List.cons_append, List.nil_append]
          apply each_callR rfl
          · intro u wv hC hf
            have z0 := (HX.out _ (Below.now HBI.out (Below.now d6 hC))).1
            have z1 := (HX.out _ (Below.now HBI.out (Below.now d6 hC))).2.1
            have z2 := (HX.out _ (Below.now HBI.out (Below.now d6 hC))).2.2.1
            have z3 := (HX.out _ (Below.now HBI.out (Below.now d6 hC))).2.2.2
            have y0 := (HR.out.later (Below.now d6 hC)).facts.1
            have y1 := (HR.out.later (Below.now d6 hC)).facts.2.1
            obtain ⟨d6_0, d10_1, d14_2, -⟩ := hf
            have e6 : u 6 = _ := d6_0 rfl
            clear d6_0
            have e10 : u 10 = _ := d10_1 rfl
            clear d10_1
            have e14 : u 14 = _ := d14_2 rfl
            clear d14_2
            apply Exists.intro; apply Exists.intro; apply And.intro
            · go_simp; exact ⟨rfl, rfl⟩
            · refine (HTU.out jc jd _ (HLU.out.later (Below.now HW2.out (Below.now HBI.out (Below.now d6 hC)))) hjc hjd).mono ?_
              rintro e w3 ⟨rfl, hb⟩
              exact ⟨rfl, Below.now hC hb, hb⟩
          conv => arg 8; simp only [List.cons_append, List.nil_append]
          apply each_read (fun _ => Below.refl _ _) rfl
          · intro u wv hC hf
            have z0 := (HX.out _ (Below.now HBI.out (Below.now d6 hC))).1
            have z1 := (HX.out _ (Below.now HBI.out (Below.now d6 hC))).2.1
            have z2 := (HX.out _ (Below.now HBI.out (Below.now d6 hC))).2.2.1
            have z3 := (HX.out _ (Below.now HBI.out (Below.now d6 hC))).2.2.2
            have y0 := (HR.out.later (Below.now d6 hC)).facts.1
            have y1 := (HR.out.later (Below.now d6 hC)).facts.2.1
            obtain ⟨d5_0, d15_1, -⟩ := hf
            have e5 : u 5 = _ := d5_0 rfl
            clear d5_0
            have e15 : u 15 = _ := d15_1 rfl
            clear d15_1
            go_simp
            try rfl
          conv => arg 8; simp only [List.cons_append, List.nil_append]
          refine each_do (fun v wv => ∃ g7, v = .slice (some ⟨g7, 0, none⟩) 1 1 ∧ wv.cell? ⟨g7, 0, none⟩ = some (.int .i64 ((X : Nat) : Int))) (fun v w w2 _ hR ⟨g7, h1, hc⟩ => ⟨g7, h1, (hR.cell (World.block_lt_of_cell? _ _ hc)).trans hc⟩) rfl ?_ ?_
          · intro u wv hC hf
            have z0 := (HX.out _ (Below.now HBI.out (Below.now d6 hC))).1
            have z1 := (HX.out _ (Below.now HBI.out (Below.now d6 hC))).2.1
            have z2 := (HX.out _ (Below.now HBI.out (Below.now d6 hC))).2.2.1
            have z3 := (HX.out _ (Below.now HBI.out (Below.now d6 hC))).2.2.2
            have y0 := (HR.out.later (Below.now d6 hC)).facts.1
            have y1 := (HR.out.later (Below.now d6 hC)).facts.2.1
            obtain ⟨d16_0, -⟩ := hf
            have e16 : u 16 = _ := d16_0 rfl
            clear d16_0
            refine ⟨.slice (some ⟨wv.heap.size, 0, none⟩) 1 1, wv.alloc (.cells #[.int .i64 ((X : Nat) : Int)] 3), ?_, Below.alloc hC hC.size _, alloc_belowT _ _, wv.heap.size, rfl, by (rw [World.cell?_alloc_new]; rfl)⟩
            go_simp
            try rfl
          intro u w7 d70 hall
          obtain ⟨a0, a1, a2, a3, a4, a5, a6, a7, a8, a9, a10, a11, a12, a13, a14, a15, a16, a17, -⟩ := hall
          have e0 : u 0 = _ := a0
          clear a0
          have e1 : u 1 = _ := a1
          clear a1
          have e2 : u 2 = _ := a2
          clear a2
          have e3 : u 3 = _ := a3
          clear a3
          have e4 : u 4 = _ := a4
          clear a4
          have e5 : u 5 = _ := a5
          clear a5
          have e6 : u 6 = _ := a6
          clear a6
          have e7 : u 7 = _ := a7
          clear a7
          have e8 : u 8 = _ := a8
          clear a8
          have e9 : u 9 = _ := a9
          clear a9
          have e10 : u 10 = _ := a10
          clear a10
          have e11 : u 11 = _ := a11
          clear a11
          have e12 : u 12 = _ := a12
          clear a12
          have e13 : u 13 = _ := a13
          clear a13
          have e14 : u 14 = _ := a14
          clear a14
          have e15 : u 15 = _ := a15
          clear a15
          have e16 : u 16 = _ := a16
          clear a16
          obtain ⟨g17, e17, r17⟩ := a17
          replace e17 : u 17 = _ := e17
          change wpList _ _ _ (List.drop 18 _) _ _
          simp only [List.drop_succ_cons, List.drop_zero]
          simp only [e0, e1, e2, e3, e4, e5, e6, e7, e8, e9, e10, e11, e12, e13, e14, e15, e16, e17]
          clear e0 e1 e2 e3 e4 e5 e6 e7 e8 e9 e10 e11 e12 e13 e14 e15 e16 e17
          have d7 := Below.now d6 d70
          have HR7 := Lib.hid (HR.out.later d7)
          refine wpList_appB rfl (.tmp 54) (.tmp 70) rfl Try.underlying23 Try.infoInt rfl (by decide) rfl HR7.out.own HR7.out.lt rfl (m := 1) (news := [.int .i64 ((X : Nat) : Int)]) (fun j u hu => by
            match j, hu with
            | 0, hu =>
              obtain rfl := Option.some.inj hu
              rw [add_off]
              exact r17
            | j + 1, hu => cases hu) rfl (by decide) (fun u hu => by rw [List.mem_singleton.1 hu]; rfl) (by unfold maxLen; omega) (by omega) ?_
          intro g4 c4 w9 hn9 hg9 _
          obtain ⟨hbk, hput⟩ := HR7.out.putD hg9 hn9
          have HP9 := Lib.hid hput
          obtain ⟨q0, q1, f0, f1⟩ := rec_cells hbk
          clear hbk hput hn9 hg9 r17
          have F : Hid (∃ v, Rec2 25 3 1 w4 (w9.setCell ⟨g, 1, none⟩ (.slice (some ⟨g4, 0, none⟩) (Q.length + 1) c4)) g (.int .i64 (M : Nat)) v (rowsN M (prdF m zn n yn) c ++ rowN (prdF m zn n yn) c (d + 1)).length (ivs (rowsN M (prdF m zn n yn) c ++ rowN (prdF m zn n yn) c (d + 1)))) := Lib.hid ⟨_, by rw [HE.out, List.length_append, ivs_app]; exact HP9.out⟩
          go_wp2_with fail
          go_roundw
          case rel => exact ⟨d + 1, by omega, by go_num, F⟩
          case measure => simp [intOf]; omega
        · obtain rfl : d = M := by omega
          have F : Hid (∃ v, Rec2 25 3 1 w4 wr g (.int .i64 (d : Nat)) v (rowsN d (prdF m zn n yn) (c + 1)).length (ivs (rowsN d (prdF m zn n yn) (c + 1)))) := Lib.hid ⟨_, by rw [rowsN_succ]; exact HR.out⟩
          go_wp2_with fail
          go_roundw
          case rel => exact ⟨c + 1, by omega, by go_num, F⟩
          case measure => simp [intOf]; omega
    · obtain rfl : c = M := by omega
      have hq := (HR.out.below.block r1 (Array.getElem?_eq_some_iff.1 HQ4.out).1).trans HQ4.out
      obtain ⟨a7, c7, rfl⟩ := owns_form HR.out.own
      obtain ⟨⟨f0, f1⟩, ⟨u0, u1⟩, _⟩ := box_sets hq (.int .i64 (c : Nat)) (.slice a7 (rowsN c (prdF m zn n yn) c).length c7)
      have F : Hid (RetTb c ((prodT m zn n yn).map Int.ofNat) w (.returned (.tuple #[.agg #[.int .i64 (c : Nat), .slice a7 (rowsN c (prdF m zn n yn) c).length c7], .bool true])) ((wr.setCell ⟨r1, 0, none⟩ (.int .i64 (c : Nat))).setCell ⟨r1, 1, none⟩ (.slice a7 (rowsN c (prdF m zn n yn) c).length c7))) := Lib.hid (by
        have hr1 : r1 < g + 1 := by have := (Array.getElem?_eq_some_iff.1 HQ4.out).1; have := HG.out; omega
        have ho := ownsRow_setCell_below (ownsRow_setCell_below HR.out.own (a := ⟨r1, 0, none⟩) hr1 (.int .i64 (c : Nat))) (a := ⟨r1, 1, none⟩) hr1 (.slice a7 (rowsN c (prdF m zn n yn) c).length c7)
        have e : prodT m zn n yn = rowsN c (prdF m zn n yn) c := HPT.out
        rw [e]
        refine ⟨a7, c7, ?_, owns_ints (l := (rowsN c (prdF m zn n yn) c).map Int.ofNat) ho, ?_⟩
        · rw [List.length_map]
        · exact ((Below.now HB1.out (Below.now HW2.out HBR.out)).setCell (by have := HS2.out; show w.heap.size ≤ r1; omega) _).setCell (by have := HS2.out; show w.heap.size ≤ r1; omega) _)
      clear hq
      go_wp2_with fail
      refine bodyPost_ret (v := .tuple #[.agg #[.int .i64 (c : Nat), .slice a7 (rowsN c (prdF m zn n yn) c).length c7], .bool true]) ?_ rfl F.out
      simp [results, Try.results12, go_sem, u0, u1]
end Go.Proofs.Ytdhaebbfiaddnaa
