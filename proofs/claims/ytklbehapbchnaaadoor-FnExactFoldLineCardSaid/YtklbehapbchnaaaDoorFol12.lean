/-
  The folded graph of words, of the reference: where there is one.
-/
import Derived.Test.YtklbehapbchnaaaDoorFol11
namespace Go.Proofs.YtklbehapbchnaaaDoor
open Go.RowKit
set_option linter.unusedVariables false
theorem fold_cells {W : World} {g : Nat} {x y z : Value} {T : TypeId} (h : W.heap[g]? = some (.cells #[x, y, z] T (0, 0))) : W.cell? ⟨g, 0, none⟩ = some x ∧ W.cell? ⟨g, 1, none⟩ = some y ∧ W.cell? ⟨g, 2, none⟩ = some z ∧ W.frozen? ⟨g, 0, none⟩ = false ∧ W.frozen? ⟨g, 1, none⟩ = false ∧ W.frozen? ⟨g, 2, none⟩ = false := by
  refine ⟨by simp [World.cell?, h], by simp [World.cell?, h], by simp [World.cell?, h], by simp [World.frozen?, h], by simp [World.frozen?, h], by simp [World.frozen?, h]⟩
theorem fold_set2 {W : World} {g : Nat} {x y z : Value} {T : TypeId} (h : W.heap[g]? = some (.cells #[x, y, z] T (0, 0))) (v : Value) : (W.setCell ⟨g, 2, none⟩ v).heap[g]? = some (.cells #[x, y, v] T (0, 0)) := by
  unfold World.setCell
  simp [Array.getElem?_modify, h]
theorem fold_set3 {W : World} {g : Nat} {x y z : Value} {T : TypeId} (h : W.heap[g]? = some (.cells #[x, y, z] T (0, 0))) (u1 u2 u3 : Value) : (((W.setCell ⟨g, 0, none⟩ u1).setCell ⟨g, 1, none⟩ u2).setCell ⟨g, 2, none⟩ u3).heap[g]? = some (.cells #[u1, u2, u3] T (0, 0)) := by
  unfold World.setCell
  simp [Array.getElem?_modify, h]
theorem owns_caps {w : World} {base : Nat} {T : TypeId} {size : Nat} {a : Option Addr} {n m cap : Nat} {xs : List Value} (h : w.ownsRow base T size (.slice a m cap) n xs) : n ≤ cap ∧ cap ≤ maxLen := by
  rcases h.2 with ⟨hv, h0⟩ | ⟨g', cap', cur, hv, _, _, hn, hc, _⟩
  · simp only [Value.slice.injEq] at hv
    obtain ⟨_, _, rfl⟩ := hv
    exact ⟨by omega, by unfold maxLen; omega⟩
  · simp only [Value.slice.injEq] at hv
    obtain ⟨_, _, rfl⟩ := hv
    exact ⟨hn, hc⟩
theorem arcs_some {w : World} {a : Option Addr} {L : List Arc3} (h : ArcsIn w a L) (h0 : 0 < L.length) : ∃ b off, a = some ⟨b, off, none⟩ := by
  obtain ⟨b, off, e, _⟩ := arc_cells h h0
  exact ⟨b, off, e⟩
/-- what may be said of where a slice lies -/
def SlF (a : Option Addr) (c : Nat) : Prop := (a = none → c = 0) ∧ ∀ ad, a = some ad → ∃ b off, ad = ⟨b, off, none⟩
theorem SlF.nil : SlF none 0 := ⟨fun _ => rfl, fun ad h => by cases h⟩
theorem SlF.some (b off c : Nat) : SlF (some ⟨b, off, none⟩) c := ⟨fun h => (by cases h), fun ad h => ⟨b, off, (Option.some.inj h).symm⟩⟩
theorem SlF.arcs {w : World} {a : Option Addr} {L : List Arc3} {c : Nat} (h : ArcsIn w a L) (h0 : 0 < L.length) : SlF a c := by
  obtain ⟨b, off, rfl⟩ := arcs_some h h0
  exact SlF.some b off c
theorem arcs_far {w w' : World} {a : Option Addr} {L : List Arc3} {B q r : Nat} {x y : Int} {p : Option Addr} {T : TypeId} (h : ArcsIn w a L) (hB : w.heap[B]? = some (.cells #[.int .i64 x, .int .i64 y, .slice p q r] T (0, 0))) (hs : ∀ b, b < w.heap.size → b ≠ B → w'.heap[b]? = w.heap[b]?) : ArcsIn w' a L := by
  rcases h with h | ⟨b, off, rfl, hc⟩
  · exact .inl h
  · rcases Nat.eq_zero_or_pos L.length with h0 | h0
    · have := List.length_eq_zero_iff.1 h0
      subst this
      exact .inl rfl
    · obtain ⟨b', off', e, hb, hc'⟩ := arc_cells (.inr ⟨b, off, rfl, hc⟩ : ArcsIn w (some ⟨b, off, none⟩) L) h0
      simp only [Option.some.injEq, Addr.mk.injEq, and_true] at e
      obtain ⟨rfl, rfl⟩ := e
      obtain ⟨d0, d1, d2⟩ := hc' 0 h0
      have hne : b ≠ B := fun e => by
        subst e
        rw [Nat.zero_mul, Nat.add_zero] at d2
        have hk : off + 2 < 3 := by
          rcases Nat.lt_or_ge (off + 2) 3 with hk | hk
          · exact hk
          · exfalso
            simp [World.cell?, hB] at d2
            rw [List.getElem?_eq_none (by simp; omega)] at d2
            cases d2
        obtain rfl : off = 0 := by omega
        simp [World.cell?, hB] at d2
      refine .inr ⟨b, off, rfl, fun i hi => ?_⟩
      rw [← hc i hi]
      unfold World.cell?
      rw [hs b hb hne]
theorem set_other (w : World) (B o : Nat) (v : Value) : ∀ b, b < w.heap.size → b ≠ B → (w.setCell ⟨B, o, none⟩ v).heap[b]? = w.heap[b]? := fun b hb hne => (setGrownB w B o v).block b hb (fun e => hne (Option.some.inj e))
theorem set_other3 (w : World) (B : Nat) (u1 u2 u3 : Value) : ∀ b, b < w.heap.size → b ≠ B → (((w.setCell ⟨B, 0, none⟩ u1).setCell ⟨B, 1, none⟩ u2).setCell ⟨B, 2, none⟩ u3).heap[b]? = w.heap[b]? := fun b hb hne => by
  rw [set_other _ B 2 u3 b (by simpa using hb) hne, set_other _ B 1 u2 b (by simpa using hb) hne, set_other _ B 0 u1 b hb hne]
def RetFY (g : Nat) (ws : List ByteArray) (w : World) (e : Ending) (w' : World) : Prop := ∃ V M a c, e = .returned (.tuple #[.agg #[.int .i64 ((g : Nat) : Int), .int .i64 ((V : Nat) : Int), .slice a M.length c], .bool true]) ∧ ArcsIn w' a M ∧ M.length ≤ c ∧ FoldR g ws V M ∧ Below w.heap.size w w'
set_option maxRecDepth 20000 in
set_option maxHeartbeats 4000000 in
theorem specFoldWords_yes (g : Nat) (ws : List ByteArray) (a : Option Addr) (cap : Nat) (w : World) (hL : StrsIn w a ws) (hz : ∀ j, j < ws.length → (nthS ws j).size ≤ maxLen) (ho : OkFW g ws) :
    Calls Tryd.prog 23 #[.int .i64 (g : Nat), .slice a ws.length cap] w (RetFY g ws w) := by
  have HB1 := Lib.hid (alloc_belT w (.cells #[.int .i64 0, .int .i64 0, .slice none 0 0] 48))
  have HZB := Lib.hid (alloc_at w (.cells #[.int .i64 0, .int .i64 0, .slice none 0 0] 48))
  have HL1 := Lib.hid (hL.later HB1.out)
  have HZ := Lib.hid hz
  have HO := Lib.hid ho
  have h6 := ho.len
  have hg1 := ho.g1
  have hg2 := ho.g2
  have hin : inB (g : Nat) 1 2 = true := by unfold inB; simp; omega
  clear hL hz ho
  go_enter Tryd.func23, Tryd.ntmps23
  go_wp2_with (go_at_call 37; refine (l01In_any _ _ _ _).mono ?_; rintro e w' ⟨rfl, rfl⟩)
  generalize w.alloc (.cells #[.int .i64 0, .int .i64 0, .slice none 0 0] 48) = w1 at *
  go_loopw [31] (fun v31 wr => ∃ j : Nat, j ≤ ws.length ∧ v31 = .int .i64 (j : Nat) ∧ wr = w1) (fun v31 _ => ws.length - (intOf v31).toNat)
  case atStart => exact ⟨0, Nat.zero_le _, rfl, rfl⟩
  case round =>
    obtain ⟨j, hj, rfl, hw⟩ := hrel
    replace hw := hw.symm
    subst hw
    by_cases hjl : j < ws.length
    · obtain ⟨b, off, rfl, _, hc⟩ := HL1.out.cell hjl
      have hcj := hc j hjl
      have hsz := HZ.out j hjl
      have hf := HO.out.ok j hjl
      clear hc
      go_wp2_with (go_at_call 38; refine (l24Ok_any _ _ _ hsz).mono ?_; rintro e w' ⟨rfl, rfl⟩)
      go_roundw
      case rel => exact ⟨j + 1, by omega, by go_num, trivial⟩
      case measure => simp [intOf]; omega
    · obtain rfl : j = ws.length := by omega
      have HFL := Lib.hid (fun W (h : StrsIn W a ws) => l25Flower_any g ws a cap W h HO.out.ok h6 hg1 hg2)
      go_wp2_with fail
      refine (HFL.out _ HL1.out).mono ?_
      rintro e w2 ⟨v8, rfl, hb2⟩
      obtain ⟨f1, f2, f3, f4⟩ := HO.out.flow
      obtain ⟨aF, cF, rfl⟩ := owns_form hb2.1
      change FlOk g (flF g ws ws.length).1 _ 0 at f1
      change (flF g ws ws.length).1.length ≤ 96 at f2
      obtain ⟨F, hF⟩ : ∃ F, (flF g ws ws.length).1 = F := ⟨_, rfl⟩
      obtain ⟨n, hn⟩ : ∃ n, (flF g ws ws.length).2 = n := ⟨_, rfl⟩
      rw [hF] at f1 f2 hb2 ⊢
      rw [hn] at f1 f3 f4 ⊢
      have HFE : Hid (flo g ws = F) := Lib.hid hF
      have HFO := Lib.hid f1
      have HCP := Lib.hid (owns_caps hb2.1)
      have HA2 : Hid (ArcsIn w2 aF F) := Lib.hid (owns_cells hb2.1)
      have HB2 := Lib.hid (Below.now HB1.out hb2.2)
      have HZ2 := Lib.hid (((hb2.2).block w.heap.size (Array.getElem?_eq_some_iff.1 HZB.out).1).trans HZB.out)
      have HFD0 := Lib.hid (l25Fold_any F aF cF n w2 HA2.out HCP.out.1 (by omega) HCP.out.2 f3 (by omega) (fun x hx => ⟨(f1.rng x hx).1, (f1.rng x hx).2.1⟩))
      clear hF hn f1 hb2 HFL HL1 HZ hin HB1 HZB
      go_wp2_with fail
      refine HFD0.out.mono ?_
      rintro e w3 ⟨g3, pc, par, rfl, hpa, hps, hsh⟩
      have HPA := Lib.hid hpa
      have HPS := Lib.hid hps
      have HSH := Lib.hid hsh
      have HB3 := Lib.hid (Below.now HB2.out hpa.below)
      have HZ3 := Lib.hid ((hpa.below.block w.heap.size (Array.getElem?_eq_some_iff.1 HZ2.out).1).trans HZ2.out)
      have HA3 : Hid (ArcsIn w3 aF F) := Lib.hid (RowsIn.later HA2.out hpa.below)
      clear hpa hps hsh HFD0 HA2 HZ2
      have HE := Lib.hid (alloc_belT w3 (.cells #[] 66))
      go_wp2_with fail
      go_loopw [11, 53] (fun v11 v53 wr => ∃ (j : Nat) (av : Option Addr) (c : Nat), j ≤ F.length ∧ v53 = .int .i64 (j : Nat) ∧ v11 = .slice av (putTo (rootP par) F j).length c ∧ (putTo (rootP par) F j).length ≤ c ∧ Hid (SlF av c) ∧ Hid (ArcsIn wr av (putTo (rootP par) F j)) ∧ Hid (Below w3.heap.size w3 wr)) (fun _ v53 _ => F.length - (intOf v53).toNat)
      case atStart => exact ⟨0, some ⟨w3.heap.size, 0, none⟩, 0, Nat.zero_le _, rfl, rfl, Nat.le_refl _, Lib.hid (SlF.some _ _ _), Lib.hid (.inl rfl), HE⟩
      case round =>
        clear HE
        obtain ⟨j, av, c, hj, rfl, rfl, hlc, HSF, HAV, HBW⟩ := hrel
        by_cases hjl : j < F.length
        · obtain ⟨b0, off, rfl, hb0, hc⟩ := arc_cells (RowsIn.later HA3.out HBW.out) hjl
          obtain ⟨c0, c1, c2⟩ := hc j hjl
          have hjj : (j : Int) < (F.length : Int) := by omega
          have HLN := Lib.hid (putTo_len (rootP par) F j)
          have HRG := Lib.hid (HFO.out.rng F[j] (List.getElem_mem hjl))
          obtain ⟨⟨a1, a2, a3⟩, hfj⟩ : ∃ x, F[j] = x := ⟨_, rfl⟩
          rw [hfj] at c0 c1 c2 HRG
          have HSU : Hid (putTo (rootP par) F (j + 1) = putA (putTo (rootP par) F j) (rootP par a1, rootP par a2, a3)) := Lib.hid (by have h := putTo_succ (r := rootP par) hjl; rw [hfj] at h; exact h)
          have HNE : Hid (0 < (putTo (rootP par) F (j + 1)).length) := Lib.hid (by rw [HSU.out]; exact putA_ne _ _)
          have HBX := Lib.hid (BoxA.new wr (a1, a2, a3))
          have HAL := Lib.hid (alloc_belT wr (.cells #[.int .i64 ((a1 : Nat) : Int), .int .i64 ((a2 : Nat) : Int), .int .i64 ((a3 : Nat) : Int)] 66))
          have HBW2 := Lib.hid (Below.now HBW.out HAL.out)
          have HAV2 := Lib.hid (RowsIn.later HAV.out HAL.out)
          clear hc hb0 hfj
          go_upto_region 15 with fail
          generalize wr.heap.size = Ba at *
          generalize wr.alloc (.cells #[.int .i64 ((a1 : Nat) : Int), .int .i64 ((a2 : Nat) : Int), .int .i64 ((a3 : Nat) : Int)] 66) = wb at *
          clear c0 c1 c2 HAL HBW HAV
          obtain ⟨Lj, hLj⟩ : ∃ Lj, putTo (rootP par) F j = Lj := ⟨_, rfl⟩
          rw [hLj] at HSU HLN HAV2 hlc ⊢
          clear hLj
          have kr := Below.refl wb.heap.size wb
          obtain ⟨e0, e1, e2⟩ := HBX.out.2
          simp only [] at e0 e1 e2
          have HBXL : Hid (∀ W, Below wb.heap.size wb W → W.cell? ⟨Ba, 0, none⟩ = some (.int .i64 ((a1 : Nat) : Int)) ∧ W.cell? ⟨Ba, 1, none⟩ = some (.int .i64 ((a2 : Nat) : Int)) ∧ W.cell? ⟨Ba, 2, none⟩ = some (.int .i64 ((a3 : Nat) : Int))) := Lib.hid (fun W hW => (HBX.out.later hW).2)
          have HFD : Hid (∀ V W, V < n → Below wb.heap.size wb W → Calls Tryd.prog 42 #[.slice (some ⟨g3, 0, none⟩) n pc, .int .i64 (V : Nat)] W fun e w' => e = .returned (.int .i64 ((rootP par V : Nat) : Int)) ∧ W = w') := Lib.hid (fun V W hV hW => by
            have h := l25Find_any par (some ⟨g3, 0, none⟩) pc V W (((HPA.out.later HBW2.out).later hW).ints) HPS.out.ok (by rw [HPS.out.len]; exact hV) (by rw [HPS.out.len]; omega)
            rw [HPS.out.len] at h
            exact h)
          have HPT : Hid (∀ W, Below wb.heap.size wb W → Calls Tryd.prog 41 #[.slice av Lj.length c, .agg #[.int .i64 ((rootP par a1 : Nat) : Int), .int .i64 ((rootP par a2 : Nat) : Int), .int .i64 ((a3 : Nat) : Int)]] W (RetPut Lj (rootP par a1, rootP par a2, a3) W)) := Lib.hid (fun W hW => l25Put_any Lj (rootP par a1, rootP par a2, a3) av c W (RowsIn.later HAV2.out hW) hlc (by have := HLN.out; omega) HSF.out.1 HSF.out.2)
          have ha1 : a1 < n := HRG.out.1
          have ha2 : a2 < n := HRG.out.2.1
          go_region_held3 (fun w' => w'.cell? ⟨Ba, 0, none⟩ = some (.int .i64 ((a1 : Nat) : Int)) ∧ w'.cell? ⟨Ba, 1, none⟩ = some (.int .i64 ((a2 : Nat) : Int)) ∧ w'.cell? ⟨Ba, 2, none⟩ = some (.int .i64 ((a3 : Nat) : Int))) (go_keep) (first
            | (go_at_call 42; refine (HFD.out _ _ (by assumption) (by repeat (first | exact kr | refine Below.drew ?_ | refine below_drewN ?_ _))).mono ?_; rintro e w' ⟨rfl, rfl⟩)
            | (go_at_call 41; refine (HPT.out _ (by repeat (first | exact kr | refine Below.drew ?_ | refine below_drewN ?_ _))).mono ?_; rintro e w6 ⟨a6, c6, rfl, hc6, hi6, hb6⟩; have k6 : Below wb.heap.size wb w6 := Below.now (by repeat (first | exact kr | refine Below.drew ?_ | refine below_drewN ?_ _)) hb6; have t0 := (HBXL.out w6 k6).1; have t1 := (HBXL.out w6 k6).2.1; have t2 := (HBXL.out w6 k6).2.2; have HI6 := Lib.hid hi6; have HC6 := Lib.hid hc6; have K6 := Lib.hid k6; clear hi6 hb6 hc6 k6))
          all_goals
            have HI7 : Hid (ArcsIn w6 a6 (putTo (rootP par) F (j + 1))) := Lib.hid (by rw [HSU.out]; exact HI6.out)
            have HBW6 := Lib.hid (Below.now HBW2.out K6.out)
            have HSF6 : Hid (SlF a6 c6) := Lib.hid (SlF.arcs HI7.out HNE.out)
            go_wp2_with fail
            go_roundw
            case rel => exact ⟨j + 1, a6, c6, by omega, by go_num, by rw [HSU.out], by rw [HSU.out]; exact HC6.out, HSF6, HI7, HBW6⟩
            case measure => simp [intOf]; omega
        · obtain rfl : j = F.length := by omega
          obtain ⟨s1, s2⟩ := putTo_sort (rootP par) F
          have HLN := Lib.hid (putTo_len (rootP par) F F.length)
          obtain ⟨L, hLL⟩ : ∃ L, putTo (rootP par) F F.length = L := ⟨_, rfl⟩
          rw [hLL] at s1 s2 HLN hlc HAV ⊢
          have HSO := Lib.hid s1
          have HME := Lib.hid s2
          clear hLL s1 s2
          have HBN : Hid (∀ x ∈ L, x.1 < n ∧ x.2.1 < n) := Lib.hid (fun x hx => by
            obtain ⟨y, hy, rfl⟩ := List.mem_map.1 ((HME.out x).1 hx)
            obtain ⟨q1, q2, _⟩ := HFO.out.rng y hy
            exact ⟨(HPS.out.root_lt q1).1, (HPS.out.root_lt q2).1⟩)
          have hL96 : L.length ≤ 96 := by have := HLN.out; omega
          have HOR := Lib.hid (l25Order_any g L av c n wr HAV.out (by omega) hg1 hg2 f3 (by omega) HBN.out)
          have HB5 := Lib.hid (Below.now HB3.out HBW.out)
          have HZ5 := Lib.hid ((HBW.out.block w.heap.size (Array.getElem?_eq_some_iff.1 HZ3.out).1).trans HZ3.out)
          clear HBW HZ3
          go_wp2_with fail
          refine HOR.out.mono ?_
          rintro e w6 ⟨v, u, z, ord, k, rfl, hbo, hbf, hke⟩
          obtain ⟨q1, q2⟩ := ord_len hbf f3 HBN.out
          obtain ⟨g7, c7, rfl⟩ := owns_slot hbo.1 q1
          have HBO := Lib.hid hbo
          have HBF := Lib.hid hbf
          have HKE := Lib.hid hke
          have HOI := Lib.hid (ord_ints hbo)
          have HAV6 := Lib.hid (RowsIn.later HAV.out hbo.2)
          have HB6 := Lib.hid (Below.now HB5.out hbo.2)
          have HZ6 := Lib.hid ((hbo.2.block w.heap.size (Array.getElem?_eq_some_iff.1 HZ5.out).1).trans HZ5.out)
          have HIN : Hid (∀ x ∈ L, x.1 ∈ ord ∧ x.2.1 ∈ ord) := Lib.hid (fold_fok hg1 hg2 f3 (by omega) HFO.out.rng HFO.out.conn HPS.out.fs HSH.out HME.out HSO.out hbf hke).1
          have HFR : Hid (FoldR g ws ord.length (putTo ord.idxOf L L.length)) := Lib.hid ⟨rootP par, L, ord, k, by rw [HFE.out]; exact HPS.out.fs, by rw [HFE.out]; exact HSH.out, by rw [HFE.out]; exact HME.out, HSO.out, hbf, hke, rfl, putTo_all _ _⟩
          clear hbo hbf hke HOR HBN HB5 HZ5 HAV HPA HPS HSH HFO HFE HME HSO HCP HA3 HO HB2 HB3
          have HT0 := Lib.hid (alloc_at w6 (.cells #[.int .i64 ((g : Nat) : Int), .int .i64 ((ord.length : Nat) : Int), .slice none 0 0] 48))
          have HE0 := Lib.hid (alloc_belT w6 (.cells #[.int .i64 ((g : Nat) : Int), .int .i64 ((ord.length : Nat) : Int), .slice none 0 0] 48))
          have HBO6 := Lib.hid (Array.getElem?_eq_some_iff.1 HZ6.out).1
          go_wp2_with fail
          go_loopw [84] (fun v84 wr => ∃ (j : Nat) (av : Option Addr) (c : Nat), j ≤ L.length ∧ v84 = .int .i64 (j : Nat) ∧ Hid (wr.heap[w6.heap.size]? = some (.cells #[.int .i64 ((g : Nat) : Int), .int .i64 ((ord.length : Nat) : Int), .slice av (putTo ord.idxOf L j).length c] 48 (0, 0))) ∧ (putTo ord.idxOf L j).length ≤ c ∧ Hid (SlF av c) ∧ Hid (ArcsIn wr av (putTo ord.idxOf L j)) ∧ Hid (Below w6.heap.size w6 wr)) (fun v84 _ => L.length - (intOf v84).toNat)
          case atStart => exact ⟨0, none, 0, Nat.zero_le _, rfl, HT0, Nat.le_refl _, Lib.hid SlF.nil, Lib.hid (.inl rfl), HE0⟩
          case round =>
            clear HT0 HE0
            obtain ⟨j, av2, c2, hj, rfl, HBX, hlc2, HSF2, HAV2, HBW⟩ := hrel
            by_cases hjl : j < L.length
            · obtain ⟨b0, off, rfl, hb0, hc⟩ := arc_cells (RowsIn.later HAV6.out HBW.out) hjl
              obtain ⟨c0, c1, c3⟩ := hc j hjl
              have hjj : (j : Int) < (L.length : Int) := by omega
              have HLN2 := Lib.hid (putTo_len ord.idxOf L j)
              have HMO := Lib.hid (HIN.out L[j] (List.getElem_mem hjl))
              obtain ⟨⟨a1, a2, a3⟩, hfj⟩ : ∃ x, L[j] = x := ⟨_, rfl⟩
              rw [hfj] at c0 c1 c3 HMO
              have HSU : Hid (putTo ord.idxOf L (j + 1) = putA (putTo ord.idxOf L j) (ord.idxOf a1, ord.idxOf a2, a3)) := Lib.hid (by have h := putTo_succ (r := ord.idxOf) hjl; rw [hfj] at h; exact h)
              have HNE : Hid (0 < (putTo ord.idxOf L (j + 1)).length) := Lib.hid (by rw [HSU.out]; exact putA_ne _ _)
              have HBA := Lib.hid (BoxA.new wr (a1, a2, a3))
              have HAL := Lib.hid (alloc_belT wr (.cells #[.int .i64 ((a1 : Nat) : Int), .int .i64 ((a2 : Nat) : Int), .int .i64 ((a3 : Nat) : Int)] 66))
              have HBW2 := Lib.hid (Below.now HBW.out HAL.out)
              have HAV3 := Lib.hid (RowsIn.later HAV2.out HAL.out)
              have HBX2 := Lib.hid ((HAL.out.block w6.heap.size (Array.getElem?_eq_some_iff.1 HBX.out).1).trans HBX.out)
              have HIX : Hid (∀ x W, x ∈ ord → Below w6.heap.size w6 W → Calls Tryd.prog 44 #[.slice (some ⟨g7, 0, none⟩) ord.length c7, .int .i64 (x : Nat)] W fun e w' => e = .returned (.int .i64 ((ord.idxOf x : Nat) : Int)) ∧ W = w') := Lib.hid (fun x W hx hW => by
                have h := l25Index_any ord (some ⟨g7, 0, none⟩) c7 x W (HOI.out.later hW) (by omega)
                unfold idxZ at h
                rw [if_pos hx] at h
                exact h)
              clear hc hb0 hfj
              go_upto_region 22 with fail
              generalize wr.heap.size = Ba at *
              generalize wr.alloc (.cells #[.int .i64 ((a1 : Nat) : Int), .int .i64 ((a2 : Nat) : Int), .int .i64 ((a3 : Nat) : Int)] 66) = wb at *
              clear c0 c1 c3 HAL HBW HAV2 HBX
              obtain ⟨Lj, hLj⟩ : ∃ Lj, putTo ord.idxOf L j = Lj := ⟨_, rfl⟩
              rw [hLj] at HSU HLN2 HAV3 hlc2 HBX2
              clear hLj
              have HBXL : Hid (∀ W, Below wb.heap.size wb W → W.cell? ⟨Ba, 0, none⟩ = some (.int .i64 ((a1 : Nat) : Int)) ∧ W.cell? ⟨Ba, 1, none⟩ = some (.int .i64 ((a2 : Nat) : Int)) ∧ W.cell? ⟨Ba, 2, none⟩ = some (.int .i64 ((a3 : Nat) : Int))) := Lib.hid (fun W hW => (HBA.out.later hW).2)
              have HOX : Hid (∀ W, Below wb.heap.size wb W → W.heap[w6.heap.size]? = some (.cells #[.int .i64 ((g : Nat) : Int), .int .i64 ((ord.length : Nat) : Int), .slice av2 Lj.length c2] 48 (0, 0))) := Lib.hid (fun W hW => (hW.block w6.heap.size (Array.getElem?_eq_some_iff.1 HBX2.out).1).trans HBX2.out)
              have HPT : Hid (∀ W, Below wb.heap.size wb W → Calls Tryd.prog 41 #[.slice av2 Lj.length c2, .agg #[.int .i64 ((ord.idxOf a1 : Nat) : Int), .int .i64 ((ord.idxOf a2 : Nat) : Int), .int .i64 ((a3 : Nat) : Int)]] W (RetPut Lj (ord.idxOf a1, ord.idxOf a2, a3) W)) := Lib.hid (fun W hW => l25Put_any Lj (ord.idxOf a1, ord.idxOf a2, a3) av2 c2 W (RowsIn.later HAV3.out hW) hlc2 (by have := HLN2.out; omega) HSF2.out.1 HSF2.out.2)
              refine region_tail 14 (fun W => Below wb.heap.size wb W) (fun W W2 => Below W.heap.size W W2) (fun u => by simp only [List.take_succ_cons, List.take_zero, fPut, Act.put, List.setIfInBounds_toArray, List.set_cons_succ, List.set_cons_zero, Nat.zero_add, Nat.reduceAdd]; rfl) (by kernel_rfl) (by kernel_rfl) (by kernel_rfl) (by kernel_rfl) (by kernel_rfl) (by kernel_rfl) (by kernel_rfl) (Below.drew (Below.refl _ _)) ?_
              conv => arg 7; simp only [List.take_succ_cons, List.take_zero]
              apply each_read (fun _ => Below.refl _ _) rfl
              · intro u wv hC hf
                have z0 := (HBXL.out _ hC).1
                have z1 := (HBXL.out _ hC).2.1
                have z2 := (HBXL.out _ hC).2.2
                have y2 := (fold_cells (HOX.out _ hC)).2.2.1
                clear hf
                go_simp
                try rfl
              apply each_read (fun _ => Below.refl _ _) rfl
              · intro u wv hC hf
                have z0 := (HBXL.out _ hC).1
                have z1 := (HBXL.out _ hC).2.1
                have z2 := (HBXL.out _ hC).2.2
                have y2 := (fold_cells (HOX.out _ hC)).2.2.1
                obtain ⟨d0_0, -⟩ := hf
                have e0 : u 0 = _ := d0_0 rfl
                clear d0_0
                go_simp
                try rfl
              conv => arg 8; simp only [List.cons_append, List.nil_append]
              apply each_read (fun _ => Below.refl _ _) rfl
              · intro u wv hC hf
                have z0 := (HBXL.out _ hC).1
                have z1 := (HBXL.out _ hC).2.1
                have z2 := (HBXL.out _ hC).2.2
                have y2 := (fold_cells (HOX.out _ hC)).2.2.1
                clear hf
                go_simp
                try rfl
              conv => arg 8; simp only [List.cons_append, List.nil_append]
              apply each_read (fun _ => Below.refl _ _) rfl
              · intro u wv hC hf
                have z0 := (HBXL.out _ hC).1
                have z1 := (HBXL.out _ hC).2.1
                have z2 := (HBXL.out _ hC).2.2
                have y2 := (fold_cells (HOX.out _ hC)).2.2.1
                clear hf
                go_simp
                try rfl
              conv => arg 8; simp only [List.cons_append, List.nil_append]
              apply each_read (fun _ => Below.refl _ _) rfl
              · intro u wv hC hf
                have z0 := (HBXL.out _ hC).1
                have z1 := (HBXL.out _ hC).2.1
                have z2 := (HBXL.out _ hC).2.2
                have y2 := (fold_cells (HOX.out _ hC)).2.2.1
                obtain ⟨d3_0, -⟩ := hf
                have e3 : u 3 = _ := d3_0 rfl
                clear d3_0
                go_simp
                try rfl
              conv => arg 8; simp only [List.cons_append, List.nil_append]
              apply each_callR rfl
              · intro u wv hC hf
                have z0 := (HBXL.out _ hC).1
                have z1 := (HBXL.out _ hC).2.1
                have z2 := (HBXL.out _ hC).2.2
                have y2 := (fold_cells (HOX.out _ hC)).2.2.1
                obtain ⟨d2_0, d4_1, -⟩ := hf
                have e2 : u 2 = _ := d2_0 rfl
                clear d2_0
                have e4 : u 4 = _ := d4_1 rfl
                clear d4_1
                apply Exists.intro; apply Exists.intro; apply And.intro
                · go_simp; exact ⟨rfl, rfl⟩
                · refine (HIX.out _ _ HMO.out.1 (Below.now HBW2.out hC)).mono ?_
                  rintro e w3 ⟨rfl, rfl⟩
                  exact ⟨rfl, hC, Below.refl _ _⟩
              conv => arg 8; simp only [List.cons_append, List.nil_append]
              apply each_read (fun _ => Below.refl _ _) rfl
              · intro u wv hC hf
                have z0 := (HBXL.out _ hC).1
                have z1 := (HBXL.out _ hC).2.1
                have z2 := (HBXL.out _ hC).2.2
                have y2 := (fold_cells (HOX.out _ hC)).2.2.1
                clear hf
                go_simp
                try rfl
              conv => arg 8; simp only [List.cons_append, List.nil_append]
              apply each_read (fun _ => Below.refl _ _) rfl
              · intro u wv hC hf
                have z0 := (HBXL.out _ hC).1
                have z1 := (HBXL.out _ hC).2.1
                have z2 := (HBXL.out _ hC).2.2
                have y2 := (fold_cells (HOX.out _ hC)).2.2.1
                clear hf
                go_simp
                try rfl
              conv => arg 8; simp only [List.cons_append, List.nil_append]
              apply each_read (fun _ => Below.refl _ _) rfl
              · intro u wv hC hf
                have z0 := (HBXL.out _ hC).1
                have z1 := (HBXL.out _ hC).2.1
                have z2 := (HBXL.out _ hC).2.2
                have y2 := (fold_cells (HOX.out _ hC)).2.2.1
                obtain ⟨d7_0, -⟩ := hf
                have e7 : u 7 = _ := d7_0 rfl
                clear d7_0
                go_simp
                try rfl
              conv => arg 8; simp only [List.cons_append, List.nil_append]
              apply each_callR rfl
              · intro u wv hC hf
                have z0 := (HBXL.out _ hC).1
                have z1 := (HBXL.out _ hC).2.1
                have z2 := (HBXL.out _ hC).2.2
                have y2 := (fold_cells (HOX.out _ hC)).2.2.1
                obtain ⟨d6_0, d8_1, d5_2, -⟩ := hf
                have e6 : u 6 = _ := d6_0 rfl
                clear d6_0
                have e8 : u 8 = _ := d8_1 rfl
                clear d8_1
                have e5 : u 5 = _ := d5_2 rfl
                clear d5_2
                apply Exists.intro; apply Exists.intro; apply And.intro
                · go_simp; exact ⟨rfl, rfl⟩
                · refine (HIX.out _ _ HMO.out.2 (Below.now HBW2.out hC)).mono ?_
                  rintro e w3 ⟨rfl, rfl⟩
                  exact ⟨rfl, hC, Below.refl _ _⟩
              conv => arg 8; simp only [List.cons_append, List.nil_append]
              apply each_read (fun _ => Below.refl _ _) rfl
              · intro u wv hC hf
                have z0 := (HBXL.out _ hC).1
                have z1 := (HBXL.out _ hC).2.1
                have z2 := (HBXL.out _ hC).2.2
                have y2 := (fold_cells (HOX.out _ hC)).2.2.1
                clear hf
                go_simp
                try rfl
              conv => arg 8; simp only [List.cons_append, List.nil_append]
              apply each_read (fun _ => Below.refl _ _) rfl
              · intro u wv hC hf
                have z0 := (HBXL.out _ hC).1
                have z1 := (HBXL.out _ hC).2.1
                have z2 := (HBXL.out _ hC).2.2
                have y2 := (fold_cells (HOX.out _ hC)).2.2.1
                obtain ⟨d10_0, -⟩ := hf
                have e10 : u 10 = _ := d10_0 rfl
                clear d10_0
                go_simp
                try rfl
              conv => arg 8; simp only [List.cons_append, List.nil_append]
              apply each_read (fun _ => Below.refl _ _) rfl
              · intro u wv hC hf
                have z0 := (HBXL.out _ hC).1
                have z1 := (HBXL.out _ hC).2.1
                have z2 := (HBXL.out _ hC).2.2
                have y2 := (fold_cells (HOX.out _ hC)).2.2.1
                obtain ⟨d5_0, d9_1, d11_2, -⟩ := hf
                have e5 : u 5 = _ := d5_0 rfl
                clear d5_0
                have e9 : u 9 = _ := d9_1 rfl
                clear d9_1
                have e11 : u 11 = _ := d11_2 rfl
                clear d11_2
                go_simp
                try rfl
              conv => arg 8; simp only [List.cons_append, List.nil_append]
              refine each_call (fun v wv => ∃ xa ca, v = .slice xa (putA Lj (ord.idxOf a1, ord.idxOf a2, a3)).length ca ∧ (putA Lj (ord.idxOf a1, ord.idxOf a2, a3)).length ≤ ca ∧ ArcsIn wv xa (putA Lj (ord.idxOf a1, ord.idxOf a2, a3))) (fun v wv w2 _ hR ⟨xa, ca, h1, h2, h3⟩ => ⟨xa, ca, h1, h2, RowsIn.later h3 hR⟩) rfl ?_ ?_
              · intro u wv hC hf
                have z0 := (HBXL.out _ hC).1
                have z1 := (HBXL.out _ hC).2.1
                have z2 := (HBXL.out _ hC).2.2
                have y2 := (fold_cells (HOX.out _ hC)).2.2.1
                obtain ⟨d1_0, d12_1, d9_2, -⟩ := hf
                have e1 : u 1 = _ := d1_0 rfl
                clear d1_0
                have e12 : u 12 = _ := d12_1 rfl
                clear d12_1
                have e9 : u 9 = _ := d9_2 rfl
                clear d9_2
                apply Exists.intro; apply Exists.intro; apply And.intro
                · go_simp; exact ⟨rfl, rfl⟩
                · refine (HPT.out _ hC).mono ?_
                  rintro e w3 ⟨xa, ca, rfl, hc4, hi4, hb4⟩
                  exact ⟨_, rfl, Below.now hC hb4, hb4, xa, ca, rfl, hc4, hi4⟩
              intro u w7 d1 hall
              obtain ⟨a0, a1, a2, a3, a4, a5, a6, a7, a8, a9, a10, a11, a12, a13, -⟩ := hall
              have e0 : u 0 = _ := a0
              clear a0
              have e1 : u 1 = _ := a1
              clear a1
              have e2 : u 2 = _ := a2
              clear a2
              have e3 : u 3 = _ := a3
              clear a3
              have e4 : u 4 = _ := a4
              clear a4
              have e5 : u 5 = _ := a5
              clear a5
              have e6 : u 6 = _ := a6
              clear a6
              have e7 : u 7 = _ := a7
              clear a7
              have e8 : u 8 = _ := a8
              clear a8
              have e9 : u 9 = _ := a9
              clear a9
              have e10 : u 10 = _ := a10
              clear a10
              have e11 : u 11 = _ := a11
              clear a11
              have e12 : u 12 = _ := a12
              clear a12
              obtain ⟨xa13, ca13, e13, n13, r13⟩ := a13
              replace e13 : u 13 = _ := e13
              change wpList _ _ _ (List.drop 14 _) _ _
              simp only [List.drop_succ_cons, List.drop_zero]
              simp only [e0, e1, e2, e3, e4, e5, e6, e7, e8, e9, e10, e11, e12, e13]
              clear e0 e1 e2 e3 e4 e5 e6 e7 e8 e9 e10 e11 e12 e13
              have HO7 := Lib.hid (HOX.out w7 d1)
              obtain ⟨_, _, o2, _, _, of2⟩ := fold_cells HO7.out
              have HO8 := Lib.hid (fold_set2 HO7.out (.slice xa13 (putA Lj (ord.idxOf a1, ord.idxOf a2, a3)).length ca13))
              have HBW7 := Lib.hid ((Below.now HBW2.out d1).setCell (p := ⟨w6.heap.size, 2, none⟩) (Nat.le_refl _) (.slice xa13 (putA Lj (ord.idxOf a1, ord.idxOf a2, a3)).length ca13))
              have HI7 : Hid (ArcsIn (w7.setCell ⟨w6.heap.size, 2, none⟩ (.slice xa13 (putA Lj (ord.idxOf a1, ord.idxOf a2, a3)).length ca13)) xa13 (putTo ord.idxOf L (j + 1))) := Lib.hid (by rw [HSU.out]; exact arcs_far r13 HO7.out (set_other _ _ _ _))
              have HSF7 : Hid (SlF xa13 ca13) := Lib.hid (by
                have h := r13
                rw [← HSU.out] at h
                exact SlF.arcs h HNE.out)
              have HN13 := Lib.hid n13
              clear r13 n13 d1
              go_wp2_with fail
              go_roundw
              case rel => exact ⟨j + 1, xa13, ca13, by omega, by go_num, by rw [HSU.out]; exact HO8, by rw [HSU.out]; exact HN13.out, HSF7, HI7, HBW7⟩
              case measure => simp [intOf]; omega
            · obtain rfl : j = L.length := by omega
              obtain ⟨p0, p1, p2, _, _, _⟩ := fold_cells HBX.out
              have HZ9 := Lib.hid ((HBW.out.block w.heap.size HBO6.out).trans HZ6.out)
              obtain ⟨_, _, _, z0, z1, z2⟩ := fold_cells HZ9.out
              have HU := Lib.hid (fold_set3 HZ9.out (.int .i64 ((g : Nat) : Int)) (.int .i64 ((ord.length : Nat) : Int)) (.slice av2 (putTo ord.idxOf L L.length).length c2))
              have HF : Hid (RetFY g ws w (.returned (.tuple #[.agg #[.int .i64 ((g : Nat) : Int), .int .i64 ((ord.length : Nat) : Int), .slice av2 (putTo ord.idxOf L L.length).length c2], .bool true])) (((wr.setCell ⟨w.heap.size, 0, none⟩ (.int .i64 ((g : Nat) : Int))).setCell ⟨w.heap.size, 1, none⟩ (.int .i64 ((ord.length : Nat) : Int))).setCell ⟨w.heap.size, 2, none⟩ (.slice av2 (putTo ord.idxOf L L.length).length c2))) := Lib.hid ⟨ord.length, putTo ord.idxOf L L.length, av2, c2, rfl, arcs_far HAV2.out HZ9.out (set_other3 _ _ _ _ _), hlc2, HFR.out, (((Below.now HB6.out HBW.out).setCell (p := ⟨w.heap.size, 0, none⟩) (Nat.le_refl _) _).setCell (p := ⟨w.heap.size, 1, none⟩) (Nat.le_refl _) _).setCell (p := ⟨w.heap.size, 2, none⟩) (Nat.le_refl _) _⟩
              go_wp2_with fail
              obtain ⟨t0, t1, t2, _⟩ := fold_cells HU.out
              refine bodyPost_ret (v := .tuple #[.agg #[.int .i64 ((g : Nat) : Int), .int .i64 ((ord.length : Nat) : Int), .slice av2 (putTo ord.idxOf L L.length).length c2], .bool true]) ?_ rfl HF.out
              simp [results, Tryd.results23, go_sem, t0, t1, t2]
end Go.Proofs.YtklbehapbchnaaaDoor
