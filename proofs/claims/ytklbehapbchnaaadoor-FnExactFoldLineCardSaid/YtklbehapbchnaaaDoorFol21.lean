/-
  The folded graph of words, of the program.
-/
import Derived.Test.YtklbehapbchnaaaDoorFol19
import Derived.Test.YtklbehapbchnaaaDoorFol20
import Derived.Test.YtklbehapbchnaaaDoorFol07
namespace Go.Proofs.YtklbehapbchnaaaDoor
open Go.RowKit Go.Maps Go.WideShapes Go.WideMaps
set_option linter.unusedVariables false
theorem flF_take {g : Nat} {ws : List ByteArray} {j : Nat} (hj : j ≤ ws.length) : ∀ i, i ≤ j → flF g (ws.take j) i = flF g ws i
  | 0, _ => rfl
  | i + 1, hi => by
    have ih := flF_take (g := g) hj i (by omega)
    have e : nthS (ws.take j) i = nthS ws i := by
      unfold nthS
      rw [List.getD_eq_getElem?_getD, List.getD_eq_getElem?_getD, List.getElem?_take_of_lt (by omega)]
    show flW g (frB g (nthS (ws.take j) i) (nthS (ws.take j) i).size) (flF g (ws.take j) i) = flW g (frB g (nthS ws i) (nthS ws i).size) (flF g ws i)
    rw [ih, e]
theorem flF_okT {g : Nat} {ws : List ByteArray} {j : Nat} (hj : j ≤ ws.length) (hw : ∀ k, k < j → freeOkB (g : Nat) (nthS ws k) = true) : FlOk g (flF g ws j).1 (flF g ws j).2 0 ∧ (flF g ws j).1.length ≤ 16 * j ∧ (flF g ws j).2 ≤ 1 + 15 * j := by
  have h := flF_ok (g := g) (ws := ws.take j) (fun k hk => by
    have hk2 : k < j := by rw [List.length_take] at hk; omega
    have e : nthS (ws.take j) k = nthS ws k := by
      unfold nthS
      rw [List.getD_eq_getElem?_getD, List.getD_eq_getElem?_getD, List.getElem?_take_of_lt hk2]
    rw [e]; exact hw k hk2) j (by rw [List.length_take]; omega)
  rwa [flF_take hj j (Nat.le_refl _)] at h
section
variable {P : Program} {Q : Exit → Act → World → Prop} {ops l : List Oper} {Fr : (Nat → Value) → Act} {C C' : World → Prop} {R R' RS : World → World → Prop} {s k : Nat} {accA accB : List Vp} {o : Oper}
/-- s is a store -/
theorem two_sk (hk : k = s) (hg : o.guard = none) (hS : ∀ u w, C w → factsOf accA o.after.toList u w → ∃ w', (execOp (Fr u).eval o).run P w = .ok .skip w' ∧ C' w' ∧ RS w w')
    (hn : eachTwo P Q ops Fr C C' R R' RS s l (k + 1) (accA ++ [fun _ _ => True]) (accB ++ [fun _ _ => True])) : eachTwo P Q ops Fr C C' R R' RS s (o :: l) k accA accB :=
  ⟨fun _ _ => True, fun _ _ => True, fun _ _ _ _ _ h => h, fun _ _ _ _ _ h => h, .inl ⟨hk, hg, fun u w hc hf K hK => by
    obtain ⟨w', h1, h2, h3⟩ := hS u w hc hf
    unfold Oper.wp
    rw [h1]
    exact hK undef w' h2 h3 trivial⟩, hn⟩
end
/-- what FoldWords hands back -/
def RetFI (g : Nat) (ws : List ByteArray) (w : World) (e : Ending) (w' : World) : Prop := (OkFW g ws ∧ RetFY g ws w e w') ∨ (¬ OkFW g ws ∧ e = .returned noFold ∧ Below w.heap.size w w')
theorem fold_set1 {W : World} {g : Nat} {x y z : Value} {T : TypeId} (h : W.heap[g]? = some (.cells #[x, y, z] T (0, 0))) (v : Value) : (W.setCell ⟨g, 1, none⟩ v).heap[g]? = some (.cells #[x, v, z] T (0, 0)) := by
  unfold World.setCell
  simp [Array.getElem?_modify, h]
theorem look_num {W : World} {b x : Nat} {ord : List Nat} {D : DataW Unit} (h : OwnN W b ord.length D) (hD : NumD ord D) (hn : ord.Nodup) (hx : x ∈ ord) (hs : x ≤ 100000) (hl : ord.length ≤ 100000) : (Instr.lookup 76 (.map (some b)) (.int .i64 ((x : Nat) : Int)) false).run Tryd.prog W = .ok (.int .i64 ((ord.idxOf x : Nat) : Int)) W := by
  obtain ⟨c, hrun, hat, hwc⟩ := h.lookup_int keyedN Tryd.underlying76 Tryd.underlying3 (zeroIntN W) (keyOkN hs)
  rw [hD.at hn hx] at hat
  have e : ((ord.idxOf x : Nat) : Int) = c := by simpa using hat
  rw [e]; exact hrun
set_option maxRecDepth 20000 in
set_option maxHeartbeats 1000000 in
theorem implFoldWords_out (g : Int) (ws : List ByteArray) (a : Option Addr) (cap : Nat) (w : World) (hl : ws.length ≤ maxLen) (ho : inB g 1 2 = false ∨ 6 < ws.length) :
    Calls Tryd.prog 27 #[.int .i64 g, .slice a ws.length cap] w fun e w' => e = .returned noFold ∧ Below w.heap.size w w' := by
  have HB1 := Lib.hid (alloc_belT w (.cells #[.int .i64 0, .int .i64 0, .slice none 0 0] 48))
  unfold maxLen at hl
  cases hin : inB g 1 2
  · clear ho
    go_enter Tryd.func27, Tryd.ntmps27
    go_wp2_with (go_at_call 46; refine (within_any _ _ _ _).mono ?_; rintro e w' ⟨rfl, rfl⟩)
    refine bodyPost_ret (v := noFold) ?_ rfl ⟨rfl, HB1.out⟩
    simp [results, Tryd.results27, go_sem, noFold]
  · have h6 : (6 : Int) < (ws.length : Int) := by rcases ho with h | h; (rw [hin] at h; cases h); omega
    clear ho
    go_enter Tryd.func27, Tryd.ntmps27
    go_wp2_with (go_at_call 46; refine (within_any _ _ _ _).mono ?_; rintro e w' ⟨rfl, rfl⟩)
    refine bodyPost_ret (v := noFold) ?_ rfl ⟨rfl, HB1.out⟩
    simp [results, Tryd.results27, go_sem, noFold]
set_option maxRecDepth 20000 in
set_option maxHeartbeats 8000000 in
theorem implFoldWords_in (g : Nat) (ws : List ByteArray) (a : Option Addr) (cap : Nat) (w : World) (hL : StrsIn w a ws) (hz : ∀ j, j < ws.length → (nthS ws j).size ≤ maxLen) (hg1 : 1 ≤ g) (hg2 : g ≤ 2) (h6 : ws.length ≤ 6) :
    Calls Tryd.prog 27 #[.int .i64 (g : Nat), .slice a ws.length cap] w (RetFI g ws w) := by
  have HB1 := Lib.hid (alloc_belT w (.cells #[.int .i64 0, .int .i64 0, .slice none 0 0] 48))
  have HZB := Lib.hid (alloc_at w (.cells #[.int .i64 0, .int .i64 0, .slice none 0 0] 48))
  have HL1 := Lib.hid (hL.later HB1.out)
  have HZ := Lib.hid hz
  have hin : inB (g : Nat) 1 2 = true := by unfold inB; simp; omega
  have HBN : Hid (Bld 66 3 (w.alloc (.cells #[.int .i64 0, .int .i64 0, .slice none 0 0] 48)) (w.alloc (.cells #[.int .i64 0, .int .i64 0, .slice none 0 0] 48)) (.slice none 0 0) (flF g ws 0).1.length (arcC (flF g ws 0).1)) := Lib.hid (Bld.nil _ _ (Below.refl _ _))
  clear hL hz
  go_enter Tryd.func27, Tryd.ntmps27
  go_wp2_with (go_at_call 46; refine (within_any _ _ _ _).mono ?_; rintro e w' ⟨rfl, rfl⟩)
  generalize w.alloc (.cells #[.int .i64 0, .int .i64 0, .slice none 0 0] 48) = w1 at *
  go_loopw [6, 7, 32] (fun v6 v7 v32 wr => ∃ j : Nat, j ≤ ws.length ∧ v32 = .int .i64 (j : Nat) ∧ v6 = .int .i64 (((flF g ws j).2 : Nat) : Int) ∧ Hid (∀ k, k < j → freeOkB (g : Nat) (nthS ws k) = true) ∧ Hid (Bld 66 3 w1 wr v7 (flF g ws j).1.length (arcC (flF g ws j).1)) ∧ Hid ((flF g ws j).1 = [] → v7 = .slice none 0 0)) (fun _ _ v32 _ => ws.length - (intOf v32).toNat)
  case atStart => exact ⟨0, Nat.zero_le _, rfl, rfl, Lib.hid (fun k hk => by omega), HBN, Lib.hid (fun _ => rfl)⟩
  case round =>
    clear HBN
    obtain ⟨j, hj, rfl, rfl, HWF, HB, HNE⟩ := hrel
    by_cases hjl : j < ws.length
    · obtain ⟨bl, off, rfl, _, hc⟩ := (HL1.out.later HB.out.2).cell hjl
      have hcj := hc j hjl
      have hsz := HZ.out j hjl
      have HFF := Lib.hid (fun W => implFreeForm_any (g : Nat) (nthS ws j) W hsz)
      clear hc hsz
      cases hf : freeOkB (g : Nat) (nthS ws j)
      · rw [hf] at HFF
        have HNO : Hid (¬ OkFW g ws) := Lib.hid (fun h => by have h2 := h.ok j hjl; rw [hf] at h2; cases h2)
        have HZR := Lib.hid ((HB.out.2.block w.heap.size (Array.getElem?_eq_some_iff.1 HZB.out).1).trans HZB.out)
        have HBR := Lib.hid (Below.now HB1.out HB.out.2)
        simp only [Bool.false_eq_true, if_false] at HFF
        clear hf
        go_wp2_with fail
        refine (HFF.out _).mono ?_
        rintro e w2 ⟨rfl, hb2⟩
        have HZ2 := Lib.hid ((hb2.block w.heap.size (Array.getElem?_eq_some_iff.1 HZR.out).1).trans HZR.out)
        obtain ⟨z0, z1, z2, y0, y1, y2⟩ := fold_cells HZ2.out
        obtain ⟨t0, t1, t2, _⟩ := fold_cells (fold_set3 HZ2.out (.int .i64 0) (.int .i64 0) (.slice none 0 0))
        have HF : Hid (RetFI g ws w (.returned noFold) (((w2.setCell ⟨w.heap.size, 0, none⟩ (.int .i64 0)).setCell ⟨w.heap.size, 1, none⟩ (.int .i64 0)).setCell ⟨w.heap.size, 2, none⟩ (.slice none 0 0))) := Lib.hid (.inr ⟨HNO.out, rfl, (((Below.now HBR.out hb2).setCell (p := ⟨w.heap.size, 0, none⟩) (Nat.le_refl _) _).setCell (p := ⟨w.heap.size, 1, none⟩) (Nat.le_refl _) _).setCell (p := ⟨w.heap.size, 2, none⟩) (Nat.le_refl _) _⟩)
        clear hb2
        go_wp2_with fail
        refine bodyPost_ret (v := noFold) ?_ rfl HF.out
        simp [results, Tryd.results27, go_sem, noFold, t0, t1, t2]
      · rw [hf] at HFF
        simp only [if_true, Int.toNat_natCast] at HFF
        have HWF2 : Hid (∀ k, k < j + 1 → freeOkB (g : Nat) (nthS ws k) = true) := Lib.hid (fun k hk => by
          by_cases e : k = j
          · rw [e]; exact hf
          · exact HWF.out k (by omega))
        obtain ⟨_, hs16, hlet⟩ := freeOk_let hf
        obtain ⟨o1, o2, o3⟩ := flF_okT (g := g) hj HWF.out
        have hzf := frB_size g (nthS ws j) (nthS ws j).size
        have HNX : Hid (flF g ws (j + 1) = flW g (frB g (nthS ws j) (nthS ws j).size) (flF g ws j)) := Lib.hid rfl
        have hl2 : ∀ x ∈ (frB g (nthS ws j) (nthS ws j).size).data.toList, letG g x.toNat := fun x hx => by
          rw [frB_list] at hx
          exact hlet x (frL_mem hx)
        have hjb : 15 * j ≤ 75 := by omega
        obtain ⟨s, hs⟩ : ∃ s, frB g (nthS ws j) (nthS ws j).size = s := ⟨_, rfl⟩
        rw [hs] at HFF hzf HNX hl2
        obtain ⟨⟨F0, n0⟩, hst⟩ : ∃ st, flF g ws j = st := ⟨_, rfl⟩
        rw [hst] at HB HNX HNE o1 o2 o3
        rw [hst]
        have HLT := Lib.hid hl2
        have HO := Lib.hid o1
        have ho2 : F0.length ≤ 16 * j := o2
        have ho3 : n0 ≤ 1 + 15 * j := o3
        generalize nthS ws j = x0 at *
        clear hf hlet hl2 o1 o2 o3 hst hs
        go_wp2_with fail
        refine (HFF.out _).mono ?_
        rintro e w2 ⟨rfl, hb2⟩
        have HB2 : Hid (Bld 66 3 w1 w2 u7 (flS g s (F0, n0) 0).1.length (arcC (flS g s (F0, n0) 0).1)) := Lib.hid (HB.out.later hb2)
        clear hb2 HB HFF hcj
        go_wp2_with fail
        generalize hWR : wr = wr0 at *
        clear hWR
        go_loopw [6, 7, 12, 47] (fun v6 v7 v12 v47 wr => ∃ i : Nat, i ≤ s.size ∧ v47 = .int .i64 (i : Nat) ∧ v6 = .int .i64 (((flS g s (F0, n0) i).2.1 : Nat) : Int) ∧ v12 = .int .i64 (((flS g s (F0, n0) i).2.2 : Nat) : Int) ∧ Hid (Bld 66 3 w1 wr v7 (flS g s (F0, n0) i).1.length (arcC (flS g s (F0, n0) i).1)) ∧ Hid ((flS g s (F0, n0) i).1 = [] → v7 = .slice none 0 0)) (fun _ _ _ v47 _ => s.size - (intOf v47).toNat)
        case atStart => exact ⟨0, Nat.zero_le _, rfl, rfl, rfl, HB2, HNE⟩
        case round =>
          clear HB2 HNE
          obtain ⟨i, hi, rfl, rfl, rfl, HB, HNE⟩ := hrel
          obtain ⟨i1, i2, i3⟩ := flS_ok (F0 := F0) (n0 := n0) HO.out HLT.out i hi
          obtain ⟨⟨F, n, u⟩, hst⟩ : ∃ st, flS g s (F0, n0) i = st := ⟨_, rfl⟩
          rw [hst] at HB HNE i1 i2 i3
          rw [hst]
          have HS1 := Lib.hid (flS_succ hst)
          have HST := Lib.hid hst
          have hF : F.length ≤ F0.length + i := Nat.le_of_eq i2
          have hn : n ≤ n0 + i := i3
          have hu : u < n := i1.u1
          clear i1 i2 i3 hst
          by_cases hil : i < s.size
          · have hii : (i : Int) < (s.size : Int) := by omega
            obtain ⟨hc1, hc2⟩ := let_at HLT.out hil
            obtain ⟨c, hc⟩ : ∃ c, s[i].toNat - 97 = c := ⟨_, rfl⟩
            have HLC : Hid (ltN s i = c) := Lib.hid (by rw [ltN_at hil, hc])
            have hc97 : ((s[i].toNat : Nat) : Int) - 97 = (c : Int) := by omega
            have hcb : c < 2 * g := by omega
            have hw8 := u8_wrap (c := c) (by omega)
            have hwc : IntKind.i64.wrap (c : Int) = (c : Int) := IntWalk.i64_in _ ⟨by omega, by omega⟩
            have hwn : IntKind.i64.wrap ((n : Int) + 1) = (n : Int) + 1 := IntWalk.i64_in _ ⟨by omega, by omega⟩
            have HN2 : Hid (F.length + 1 ≤ maxLen) := Lib.hid (by unfold maxLen; omega)
            have HN3 : Hid ((F.length + 1) * 24 ≤ 140737488355328) := Lib.hid (by omega)
            clear hc hc1 hc2
            by_cases hlt : i + 1 < s.size
            · have hmi : (i : Int) + 1 < (s.size : Int) := by omega
              have HTO : Hid (toN s.size n i = n) := Lib.hid (by unfold toN; rw [if_pos hlt])
              have HUP : Hid (upN s.size n i = n + 1) := Lib.hid (by unfold upN; rw [if_pos hlt])
              by_cases hcg : c < g
              · have hci : (c : Int) < (g : Int) := by omega
                have HAR : Hid (arcV (arcOf g u (toN s.size n i) (ltN s i)) = [.int .i64 ((u : Nat) : Int), .int .i64 ((n : Nat) : Int), .int .i64 ((c : Nat) : Int)]) := Lib.hid (by rw [HTO.out, HLC.out]; unfold arcOf; rw [if_pos hcg]; rfl)
                have HN1 : Hid (∀ q ∈ arcV (arcOf g u (toN s.size n i) (ltN s i)), q.oneCell' = true) := Lib.hid (by rw [HAR.out]; simp [Value.oneCell'])
                rw [HAR.out] at HN1
                go_wp2_with (at_builtin; refine wpList_app1 rfl _ _ rfl Tryd.underlying46 Tryd.infoArc rfl (by decide) rfl HB.out rfl rfl HN1.out HN2.out HN3.out ?aqp)
                intro v5 w5 hb5
                have HB5 : Hid (Bld 66 3 w1 w5 v5 (flS g s (F0, n0) (i + 1)).1.length (arcC (flS g s (F0, n0) (i + 1)).1)) := Lib.hid (by
                  rw [HS1.out]; show Bld _ _ _ _ _ (F ++ [_]).length (arcC (F ++ [_]))
                  rw [arcC_app, List.length_append, HAR.out]; exact hb5)
                have HN5 : Hid ((flS g s (F0, n0) (i + 1)).2.1 = n + 1) := Lib.hid (by rw [HS1.out]; exact HUP.out)
                have HU5 : Hid ((flS g s (F0, n0) (i + 1)).2.2 = n) := Lib.hid (by rw [HS1.out]; exact HTO.out)
                have HNE5 : Hid ((flS g s (F0, n0) (i + 1)).1 = [] → v5 = .slice none 0 0) := Lib.hid (fun h => by rw [HS1.out] at h; simp at h)
                clear hb5
                go_wp2_with fail
                go_roundw
                case rel => exact ⟨i + 1, by omega, by go_num, by rw [HN5.out]; go_num, by rw [HU5.out], HB5, HNE5⟩
                case measure => simp [intOf]; omega
              · obtain ⟨d, hd⟩ : ∃ d, c - g = d := ⟨_, rfl⟩
                have hci : ¬ (c : Int) < (g : Int) := by omega
                have hdi : (c : Int) - (g : Int) = (d : Int) := by omega
                have hwd : IntKind.i64.wrap (d : Int) = (d : Int) := IntWalk.i64_in _ ⟨by omega, by omega⟩
                have HAR : Hid (arcV (arcOf g u (toN s.size n i) (ltN s i)) = [.int .i64 ((n : Nat) : Int), .int .i64 ((u : Nat) : Int), .int .i64 ((d : Nat) : Int)]) := Lib.hid (by rw [HTO.out, HLC.out]; unfold arcOf; rw [if_neg hcg, hd]; rfl)
                clear hd
                have HN1 : Hid (∀ q ∈ arcV (arcOf g u (toN s.size n i) (ltN s i)), q.oneCell' = true) := Lib.hid (by rw [HAR.out]; simp [Value.oneCell'])
                rw [HAR.out] at HN1
                go_wp2_with (at_builtin; refine wpList_app1 rfl _ _ rfl Tryd.underlying46 Tryd.infoArc rfl (by decide) rfl HB.out rfl rfl HN1.out HN2.out HN3.out ?aqn)
                intro v5 w5 hb5
                have HB5 : Hid (Bld 66 3 w1 w5 v5 (flS g s (F0, n0) (i + 1)).1.length (arcC (flS g s (F0, n0) (i + 1)).1)) := Lib.hid (by
                  rw [HS1.out]; show Bld _ _ _ _ _ (F ++ [_]).length (arcC (F ++ [_]))
                  rw [arcC_app, List.length_append, HAR.out]; exact hb5)
                have HN5 : Hid ((flS g s (F0, n0) (i + 1)).2.1 = n + 1) := Lib.hid (by rw [HS1.out]; exact HUP.out)
                have HU5 : Hid ((flS g s (F0, n0) (i + 1)).2.2 = n) := Lib.hid (by rw [HS1.out]; exact HTO.out)
                have HNE5 : Hid ((flS g s (F0, n0) (i + 1)).1 = [] → v5 = .slice none 0 0) := Lib.hid (fun h => by rw [HS1.out] at h; simp at h)
                clear hb5
                go_wp2_with fail
                go_roundw
                case rel => exact ⟨i + 1, by omega, by go_num, by rw [HN5.out]; go_num, by rw [HU5.out], HB5, HNE5⟩
                case measure => simp [intOf]; omega
            · have hmi : ¬ (i : Int) + 1 < (s.size : Int) := by omega
              have HTO : Hid (toN s.size n i = 0) := Lib.hid (by unfold toN; rw [if_neg hlt])
              have HUP : Hid (upN s.size n i = n) := Lib.hid (by unfold upN; rw [if_neg hlt])
              by_cases hcg : c < g
              · have hci : (c : Int) < (g : Int) := by omega
                have HAR : Hid (arcV (arcOf g u (toN s.size n i) (ltN s i)) = [.int .i64 ((u : Nat) : Int), .int .i64 0, .int .i64 ((c : Nat) : Int)]) := Lib.hid (by rw [HTO.out, HLC.out]; unfold arcOf; rw [if_pos hcg]; rfl)
                have HN1 : Hid (∀ q ∈ arcV (arcOf g u (toN s.size n i) (ltN s i)), q.oneCell' = true) := Lib.hid (by rw [HAR.out]; simp [Value.oneCell'])
                rw [HAR.out] at HN1
                go_wp2_with (at_builtin; refine wpList_app1 rfl _ _ rfl Tryd.underlying46 Tryd.infoArc rfl (by decide) rfl HB.out rfl rfl HN1.out HN2.out HN3.out ?app)
                intro v5 w5 hb5
                have HB5 : Hid (Bld 66 3 w1 w5 v5 (flS g s (F0, n0) (i + 1)).1.length (arcC (flS g s (F0, n0) (i + 1)).1)) := Lib.hid (by
                  rw [HS1.out]; show Bld _ _ _ _ _ (F ++ [_]).length (arcC (F ++ [_]))
                  rw [arcC_app, List.length_append, HAR.out]; exact hb5)
                have HN5 : Hid ((flS g s (F0, n0) (i + 1)).2.1 = n) := Lib.hid (by rw [HS1.out]; exact HUP.out)
                have HU5 : Hid ((flS g s (F0, n0) (i + 1)).2.2 = 0) := Lib.hid (by rw [HS1.out]; exact HTO.out)
                have HNE5 : Hid ((flS g s (F0, n0) (i + 1)).1 = [] → v5 = .slice none 0 0) := Lib.hid (fun h => by rw [HS1.out] at h; simp at h)
                clear hb5
                go_wp2_with fail
                go_roundw
                case rel => exact ⟨i + 1, by omega, by go_num, by rw [HN5.out], by rw [HU5.out]; rfl, HB5, HNE5⟩
                case measure => simp [intOf]; omega
              · obtain ⟨d, hd⟩ : ∃ d, c - g = d := ⟨_, rfl⟩
                have hci : ¬ (c : Int) < (g : Int) := by omega
                have hdi : (c : Int) - (g : Int) = (d : Int) := by omega
                have hwd : IntKind.i64.wrap (d : Int) = (d : Int) := IntWalk.i64_in _ ⟨by omega, by omega⟩
                have HAR : Hid (arcV (arcOf g u (toN s.size n i) (ltN s i)) = [.int .i64 0, .int .i64 ((u : Nat) : Int), .int .i64 ((d : Nat) : Int)]) := Lib.hid (by rw [HTO.out, HLC.out]; unfold arcOf; rw [if_neg hcg, hd]; rfl)
                clear hd
                have HN1 : Hid (∀ q ∈ arcV (arcOf g u (toN s.size n i) (ltN s i)), q.oneCell' = true) := Lib.hid (by rw [HAR.out]; simp [Value.oneCell'])
                rw [HAR.out] at HN1
                go_wp2_with (at_builtin; refine wpList_app1 rfl _ _ rfl Tryd.underlying46 Tryd.infoArc rfl (by decide) rfl HB.out rfl rfl HN1.out HN2.out HN3.out ?apn)
                intro v5 w5 hb5
                have HB5 : Hid (Bld 66 3 w1 w5 v5 (flS g s (F0, n0) (i + 1)).1.length (arcC (flS g s (F0, n0) (i + 1)).1)) := Lib.hid (by
                  rw [HS1.out]; show Bld _ _ _ _ _ (F ++ [_]).length (arcC (F ++ [_]))
                  rw [arcC_app, List.length_append, HAR.out]; exact hb5)
                have HN5 : Hid ((flS g s (F0, n0) (i + 1)).2.1 = n) := Lib.hid (by rw [HS1.out]; exact HUP.out)
                have HU5 : Hid ((flS g s (F0, n0) (i + 1)).2.2 = 0) := Lib.hid (by rw [HS1.out]; exact HTO.out)
                have HNE5 : Hid ((flS g s (F0, n0) (i + 1)).1 = [] → v5 = .slice none 0 0) := Lib.hid (fun h => by rw [HS1.out] at h; simp at h)
                clear hb5
                go_wp2_with fail
                go_roundw
                case rel => exact ⟨i + 1, by omega, by go_num, by rw [HN5.out], by rw [HU5.out]; rfl, HB5, HNE5⟩
                case measure => simp [intOf]; omega
          · have hie : i = s.size := by omega
            have HN6 : Hid ((flF g ws (j + 1)).2 = n) := Lib.hid (by rw [HNX.out]; unfold flW; rw [← hie, HST.out])
            have HF6 : Hid ((flF g ws (j + 1)).1 = F) := Lib.hid (by rw [HNX.out]; unfold flW; rw [← hie, HST.out])
            have HB6 : Hid (Bld 66 3 w1 wr u7 (flF g ws (j + 1)).1.length (arcC (flF g ws (j + 1)).1)) := Lib.hid (by rw [HF6.out]; exact HB.out)
            have HNE6 : Hid ((flF g ws (j + 1)).1 = [] → u7 = .slice none 0 0) := Lib.hid (by rw [HF6.out]; exact HNE.out)
            go_wp2_with fail
            go_roundw
            case rel => exact ⟨j + 1, by omega, by go_num, by rw [HN6.out], HWF2, HB6, HNE6⟩
            case measure => simp [intOf]; omega
    · obtain rfl : j = ws.length := by omega
      have HO : Hid (OkFW g ws) := Lib.hid ⟨hg1, hg2, h6, HWF.out⟩
      obtain ⟨f1, f2, f3, f4⟩ := HO.out.flow
      change FlOk g (flF g ws ws.length).1 _ 0 at f1
      change (flF g ws ws.length).1.length ≤ 96 at f2
      obtain ⟨F, hF⟩ : ∃ F, (flF g ws ws.length).1 = F := ⟨_, rfl⟩
      obtain ⟨n, hn⟩ : ∃ n, (flF g ws ws.length).2 = n := ⟨_, rfl⟩
      rw [hF] at f1 f2 HB HNE
      rw [hn] at f1 f3 f4 ⊢
      have HFE : Hid (flo g ws = F) := Lib.hid hF
      have HFO := Lib.hid f1
      obtain ⟨aF, cF, rfl⟩ := owns_form HB.out.1
      have HFA : Hid (Calls Tryd.prog 48 #[.slice aF F.length cF] wr (RetFA F wr)) := Lib.hid (by
        rcases Nat.eq_zero_or_pos F.length with h0 | h0
        · have he := List.length_eq_zero_iff.1 h0
          have hv := HNE.out he
          simp only [Value.slice.injEq] at hv
          obtain ⟨rfl, _, rfl⟩ := hv
          rw [he]
          exact foldArcsNil_any wr
        · exact foldArcs_any F aF cF wr (owns_cells HB.out.1) h0 (by omega))
      have HBR := Lib.hid (Below.now HB1.out HB.out.2)
      have HZR := Lib.hid ((HB.out.2.block w.heap.size (Array.getElem?_eq_some_iff.1 HZB.out).1).trans HZB.out)
      clear hF hn f1 HB HNE HB1 HZB HL1 HZ HWF hin
      go_wp2_with fail
      refine HFA.out.mono ?_
      rintro e w2 ⟨aM, cM, M, rfl, hMb, hMs, hMn, r, hr1, hr2, hr3⟩
      have HR1 := Lib.hid hr1
      have HR2 := Lib.hid hr2
      have HR3 := Lib.hid hr3
      have HMS := Lib.hid hMs
      have HMN := Lib.hid hMn
      have HMB := Lib.hid hMb
      have HDT : Hid (Det M) := Lib.hid (fun x hx y hy => shut_meet hr2 x ((hr3 x).1 hx) y ((hr3 y).1 hy))
      have HBD : Hid (∀ x ∈ M, x.1 < n ∧ x.2.1 < n) := Lib.hid (fun x hx => by
        obtain ⟨y, hy, rfl⟩ := List.mem_map.1 ((hr3 x).1 hx)
        obtain ⟨q1, q2, _⟩ := HFO.out.rng y hy
        exact ⟨Nat.lt_of_le_of_lt (hr1.le _) q1, Nat.lt_of_le_of_lt (hr1.le _) q2⟩)
      have hM96 : M.length ≤ 96 := by
        have h1 := List.Nodup.length_le_of_subset hMs.nodup (l₂ := F.map (renA r)) (fun x hx => (hr3 x).1 hx)
        rw [List.length_map] at h1
        omega
      have HB2 := Lib.hid (Below.now HBR.out hMb.2)
      have HZ2 := Lib.hid ((hMb.2.block w.heap.size (Array.getElem?_eq_some_iff.1 HZR.out).1).trans HZR.out)
      have HA2 : Hid (ArcsIn w2 aM M) := Lib.hid (owns_cells hMb.1)
      have HAL := Lib.hid (alloc_belT w2 (.cells #[.int .i64 ((g : Nat) : Int), .int .i64 ((n : Nat) : Int), .slice aM M.length cM] 48))
      have HFX := Lib.hid (alloc_at w2 (.cells #[.int .i64 ((g : Nat) : Int), .int .i64 ((n : Nat) : Int), .slice aM M.length cM] 48))
      clear hMb hMs hMn hr1 hr2 hr3 HFA
      have HNU : Hid (∀ W, Below w2.heap.size w2 W → Calls Tryd.prog 49 #[.agg #[.int .i64 (g : Nat), .int .i64 (n : Nat), .slice aM M.length cM]] W (RetNu g M W)) := Lib.hid (fun W hW => numbering_any g n M aM cM n W (RowsIn.later HA2.out hW) (by omega) hg1 hg2 f3 (by omega) HBD.out HDT.out)
      go_wp2_with fail
      refine (HNU.out _ HAL.out).mono ?_
      rintro e w4 ⟨b, vt, ord, k, D, rfl, hown, hnum, hbge, hbf, hke, hb4⟩
      obtain ⟨q1, q2⟩ := ord_len hbf f3 HBD.out
      have HOK := Lib.hid hbf.ok
      have HOWN := Lib.hid hown
      have HNUM := Lib.hid hnum
      have HSZ := Lib.hid hnum.size
      have HIN : Hid (∀ x ∈ M, x.1 ∈ ord ∧ x.2.1 ∈ ord) := Lib.hid (fold_fok hg1 hg2 f3 (by omega) HFO.out.rng HFO.out.conn HR1.out HR2.out HR3.out HMS.out hbf hke).1
      have HFR : Hid (FoldR g ws ord.length ((M.map (renA ord.idxOf)).foldl putA [])) := Lib.hid ⟨r, M, ord, k, by rw [HFE.out]; exact HR1.out, by rw [HFE.out]; exact HR2.out, by rw [HFE.out]; exact HR3.out, HMS.out, hbf, hke, rfl, rfl⟩
      have HND : Hid ((M.map (renA ord.idxOf)).Nodup) := Lib.hid (ren_nodup HMS.out.nodup HIN.out)
      have HFX4 := Lib.hid ((hb4.block w2.heap.size (Array.getElem?_eq_some_iff.1 HFX.out).1).trans HFX.out)
      have HW4 := Lib.hid (Below.now HAL.out hb4)
      have HBGE : Hid (w2.heap.size < b) := Lib.hid (by have := hbge; simp at this; omega)
      have hlenr : ∀ ty, (Builtin.len_ #[76] ty #[.map (some b)]).run Tryd.prog w4 = .ok (.int .i64 ((ord.length : Nat) : Int)) w4 := fun ty => by
        have h := hown.len Tryd.underlying76 ty
        rwa [hnum.size] at h
      obtain ⟨_, f1c, _, _, f1f, _⟩ := fold_cells HFX4.out
      have HFX5 := Lib.hid (fold_set1 HFX4.out (.int .i64 ((ord.length : Nat) : Int)))
      have HOW5 : Hid (OwnN (w4.setCell ⟨w2.heap.size, 1, none⟩ (.int .i64 ((ord.length : Nat) : Int))) b ord.length D) := Lib.hid (hown.kept (setGrownB w4 w2.heap.size 1 _) (fun e => by have h1 := HBGE.out; have h2 := Option.some.inj e; omega))
      have HB5 : Hid (Below w2.heap.size w2 (w4.setCell ⟨w2.heap.size, 1, none⟩ (.int .i64 ((ord.length : Nat) : Int)))) := Lib.hid (HW4.out.setCell (p := ⟨w2.heap.size, 1, none⟩) (Nat.le_refl _) _)
      clear hown hnum hbge hbf hke hb4 HNU
      go_upto_region 29 with fail
      clear hlenr f1c f1f
      generalize w4.setCell ⟨w2.heap.size, 1, none⟩ (.int .i64 ((ord.length : Nat) : Int)) = w5 at *
      obtain ⟨p0, p1, p2, _⟩ := fold_cells HFX5.out
      rcases Nat.eq_zero_or_pos M.length with h0 | h0
      · obtain rfl := List.length_eq_zero_iff.1 h0
        obtain ⟨rfl, rfl⟩ := HMN.out rfl
        simp only [List.length_nil] at HFX5 p2 ⊢
        have HZ5 := Lib.hid ((HB5.out.block w.heap.size (Array.getElem?_eq_some_iff.1 HZ2.out).1).trans HZ2.out)
        have HSN := Lib.hid (fun fv W => sortNil_any fv W)
        obtain ⟨z0, z1, z2, y0, y1, y2⟩ := fold_cells HZ5.out
        obtain ⟨t0, t1, t2, _⟩ := fold_cells (fold_set3 HZ5.out (.int .i64 ((g : Nat) : Int)) (.int .i64 ((ord.length : Nat) : Int)) (.slice none 0 0))
        have HF : Hid (RetFI g ws w (.returned (.tuple #[.agg #[.int .i64 ((g : Nat) : Int), .int .i64 ((ord.length : Nat) : Int), .slice none 0 0], .bool true])) (((w5.setCell ⟨w.heap.size, 0, none⟩ (.int .i64 ((g : Nat) : Int))).setCell ⟨w.heap.size, 1, none⟩ (.int .i64 ((ord.length : Nat) : Int))).setCell ⟨w.heap.size, 2, none⟩ (.slice none 0 0))) := Lib.hid (.inl ⟨HO.out, ord.length, [], none, 0, rfl, .inl rfl, Nat.le_refl _, HFR.out, (((Below.now HB2.out HB5.out).setCell (p := ⟨w.heap.size, 0, none⟩) (Nat.le_refl _) _).setCell (p := ⟨w.heap.size, 1, none⟩) (Nat.le_refl _) _).setCell (p := ⟨w.heap.size, 2, none⟩) (Nat.le_refl _) _⟩)
        go_wp2_with fail
        go_loopw [101] (fun v101 wr2 => v101 = .int .i64 0 ∧ wr2 = w5) (fun _ _ => 0)
        case atStart => exact ⟨rfl, rfl⟩
        case round =>
          obtain ⟨rfl, hw⟩ := hrel
          replace hw := hw.symm
          subst hw
          go_wp2_with (go_at_call 50; refine (HSN.out _ _).mono ?_; rintro e w' ⟨rfl, rfl⟩)
          refine bodyPost_ret (v := .tuple #[.agg #[.int .i64 ((g : Nat) : Int), .int .i64 ((ord.length : Nat) : Int), .slice none 0 0], .bool true]) ?_ rfl HF.out
          simp [results, Tryd.results27, go_sem, t0, t1, t2]
      · have hsl : ∃ gM, aM = some ⟨gM, 0, none⟩ ∧ gM < w2.heap.size ∧ wr.heap.size ≤ gM := by
          rcases HMB.out.1.2 with ⟨_, h1⟩ | ⟨gM, cap', cur, hv, hbs, hgb, _⟩
          · omega
          · simp only [Value.slice.injEq] at hv
            exact ⟨gM, hv.1, (Array.getElem?_eq_some_iff.1 hgb).1, hbs⟩
        obtain ⟨gM, rfl, hgM, hgM2⟩ := hsl
        have HGM : Hid (gM < w2.heap.size ∧ wr.heap.size ≤ gM) := Lib.hid ⟨hgM, hgM2⟩
        have HRW : Hid (RowG wr w5 gM M.length cM (GI M ord.idxOf 0)) := Lib.hid (by rw [GI_zero]; exact ⟨rfl, HMB.out.later HB5.out⟩)
        have HOL : Hid (ord.length ≤ 91) := Lib.hid (by omega)
        have HODN := Lib.hid HOK.out.nodup
        clear hgM hgM2 h0
        go_wp2_with fail
        generalize hWq : wr = wq at *
        clear hWq
        go_loopw [101] (fun v101 wr2 => ∃ i : Nat, i ≤ M.length ∧ v101 = .int .i64 (i : Nat) ∧ Hid (RowG wq wr2 gM M.length cM (GI M ord.idxOf i)) ∧ Hid (OwnN wr2 b ord.length D) ∧ Hid (wr2.heap[w2.heap.size]? = some (.cells #[.int .i64 ((g : Nat) : Int), .int .i64 ((ord.length : Nat) : Int), .slice (some ⟨gM, 0, none⟩) M.length cM] 48 (0, 0)))) (fun v101 _ => M.length - (intOf v101).toNat)
        case atStart => exact ⟨0, Nat.zero_le _, rfl, HRW, HOW5, HFX5⟩
        case round =>
          clear HRW HOW5 HFX5 HB5 p0 p1 p2
          obtain ⟨i, hi, rfl, HRW, HOW, HFB⟩ := hrel
          by_cases hil : i < M.length
          · have hii : (i : Int) < (M.length : Int) := by omega
            have HAT := Lib.hid (GI_at (m := ord.idxOf) hil)
            have HSU := Lib.hid (GI_succ (m := ord.idxOf) hil)
            have HMO := Lib.hid (HIN.out M[i] (List.getElem_mem hil))
            have HRG := Lib.hid (HBD.out M[i] (List.getElem_mem hil))
            obtain ⟨⟨a1, a2, a3⟩, hfi⟩ : ∃ x, M[i] = x := ⟨_, rfl⟩
            rw [hfi] at HAT HSU HMO HRG
            obtain ⟨c0, c1, c2⟩ := HRW.out.cells HAT.out
            have HSV : Hid (GI M ord.idxOf (i + 1) = (GI M ord.idxOf i).set i (ord.idxOf a1, ord.idxOf a2, a3)) := HSU
            have HBX := Lib.hid (BoxA.new wr (a1, a2, a3))
            have hal := alloc_belT wr (.cells #[.int .i64 ((a1 : Nat) : Int), .int .i64 ((a2 : Nat) : Int), .int .i64 ((a3 : Nat) : Int)] 66)
            have HR2 := Lib.hid (HRW.out.later hal)
            have HO2 : Hid (OwnN (wr.alloc (.cells #[.int .i64 ((a1 : Nat) : Int), .int .i64 ((a2 : Nat) : Int), .int .i64 ((a3 : Nat) : Int)] 66)) b ord.length D) := Lib.hid (HOW.out.kept (belowGrownN hal) (by simp))
            have HF2 := Lib.hid ((hal.block w2.heap.size (Array.getElem?_eq_some_iff.1 HFB.out).1).trans HFB.out)
            obtain ⟨p0, p1, p2, _⟩ := fold_cells HFB.out
            clear hfi hal HSU HRW HOW HFB
            go_upto_region 32 with fail
            generalize wr.heap.size = Ba at *
            generalize wr.alloc (.cells #[.int .i64 ((a1 : Nat) : Int), .int .i64 ((a2 : Nat) : Int), .int .i64 ((a3 : Nat) : Int)] 66) = wb at *
            clear c0 c1 c2 p0 p1 p2
            obtain ⟨Y, hY⟩ : ∃ Y, GI M ord.idxOf i = Y := ⟨_, rfl⟩
            rw [hY] at HAT HSV HR2
            clear hY
            have HBXL : Hid (∀ W, Below wb.heap.size wb W → W.cell? ⟨Ba, 0, none⟩ = some (.int .i64 ((a1 : Nat) : Int)) ∧ W.cell? ⟨Ba, 1, none⟩ = some (.int .i64 ((a2 : Nat) : Int)) ∧ W.cell? ⟨Ba, 2, none⟩ = some (.int .i64 ((a3 : Nat) : Int))) := Lib.hid (fun W hW => (HBX.out.later hW).2)
            have HFXL : Hid (∀ W, Below wb.heap.size wb W → W.cell? ⟨w2.heap.size, 2, none⟩ = some (.slice (some ⟨gM, 0, none⟩) M.length cM)) := Lib.hid (fun W hW => (fold_cells ((hW.block w2.heap.size (Array.getElem?_eq_some_iff.1 HF2.out).1).trans HF2.out)).2.2.1)
            have HLK : Hid (∀ x W, x ∈ ord → x < n → Below wb.heap.size wb W → (Instr.lookup 76 (.map (some b)) (.int .i64 ((x : Nat) : Int)) false).run Tryd.prog W = .ok (.int .i64 ((ord.idxOf x : Nat) : Int)) W) := Lib.hid (fun x W hx hxn hW => look_num (World.ownsMap.kept HO2.out (belowGrownN hW) (by simp)) HNUM.out HODN.out hx (by omega) (by have := HOL.out; omega))
            have HFXB : Hid (∀ W, (∃ W0, Below wb.heap.size wb W0 ∧ W = W0.setCell ⟨gM, i * 3, none⟩ (.int .i64 ((ord.idxOf a1 : Nat) : Int))) → W.cell? ⟨w2.heap.size, 2, none⟩ = some (.slice (some ⟨gM, 0, none⟩) M.length cM)) := Lib.hid (fun W h => by
              obtain ⟨W0, hW, rfl⟩ := h
              have hb := (hW.block w2.heap.size (Array.getElem?_eq_some_iff.1 HF2.out).1).trans HF2.out
              exact (fold_cells ((set_other W0 gM (i * 3) (.int .i64 ((ord.idxOf a1 : Nat) : Int)) _ (Array.getElem?_eq_some_iff.1 hb).1 (by have := HGM.out.1; omega)).trans hb)).2.2.1)
            have HLK1 := Lib.hid (fun W hW => HLK.out a1 W HMO.out.1 HRG.out.1 hW)
            have HLK2 := Lib.hid (fun W hW => HLK.out a2 W HMO.out.2 HRG.out.2 hW)
            refine region_twoT 17 16 (fun W => Below wb.heap.size wb W) (fun W => ∃ W0, Below wb.heap.size wb W0 ∧ W = W0.setCell ⟨gM, i * 3, none⟩ (.int .i64 ((ord.idxOf a1 : Nat) : Int))) (fun W W2 => Below W.heap.size W W2) (fun W W2 => W = W2) (fun W W2 => True) (fun u => by simp only [List.take_succ_cons, List.take_zero, fPut, Act.put, List.setIfInBounds_toArray, List.set_cons_succ, List.set_cons_zero, Nat.zero_add, Nat.reduceAdd]; rfl) (by kernel_rfl) (by kernel_rfl) (by kernel_rfl) (by kernel_rfl) (by kernel_rfl) (by kernel_rfl) (by kernel_rfl) (by kernel_rfl) (Below.drew (Below.refl _ _)) ?_
            conv => arg 11; simp only [List.take_succ_cons, List.take_zero]
            apply two_preR (fun _ => Below.refl _ _) (by decide) rfl (by kernel_rfl)
            · intro u wv hC hf
              have z0 := (HBXL.out _ hC).1
              have z1 := (HBXL.out _ hC).2.1
              have y2 := HFXL.out _ hC
              have k1 := HLK1.out _ hC
              have k2 := HLK2.out _ hC
              clear hf
              go_simp
              try rfl
            conv => arg 13; simp only [List.cons_append, List.nil_append]
            conv => arg 14; simp only [List.cons_append, List.nil_append]
            apply two_preR (fun _ => Below.refl _ _) (by decide) rfl (by kernel_rfl)
            · intro u wv hC hf
              have z0 := (HBXL.out _ hC).1
              have z1 := (HBXL.out _ hC).2.1
              have y2 := HFXL.out _ hC
              have k1 := HLK1.out _ hC
              have k2 := HLK2.out _ hC
              obtain ⟨d0_0, -⟩ := hf
              have e0 : u 0 = _ := d0_0 rfl
              clear d0_0
              go_simp
              try rfl
            conv => arg 13; simp only [List.cons_append, List.nil_append]
            conv => arg 14; simp only [List.cons_append, List.nil_append]
            apply two_preR (fun _ => Below.refl _ _) (by decide) rfl (by kernel_rfl)
            · intro u wv hC hf
              have z0 := (HBXL.out _ hC).1
              have z1 := (HBXL.out _ hC).2.1
              have y2 := HFXL.out _ hC
              have k1 := HLK1.out _ hC
              have k2 := HLK2.out _ hC
              clear hf
              go_simp
              try rfl
            conv => arg 13; simp only [List.cons_append, List.nil_append]
            conv => arg 14; simp only [List.cons_append, List.nil_append]
            apply two_bothR (fun _ => Below.refl _ _) (fun _ => rfl) (by decide) rfl
            · intro u wv hC hf
              have z0 := (HBXL.out _ hC).1
              have z1 := (HBXL.out _ hC).2.1
              have y2 := HFXL.out _ hC
              have k1 := HLK1.out _ hC
              have k2 := HLK2.out _ hC
              obtain ⟨d16_0, -⟩ := hf
              clear d16_0
              go_simp
              try rfl
            · intro u wv hC hf
              have y2 := HFXB.out _ hC
              obtain ⟨d16_0, -⟩ := hf
              clear d16_0
              go_simp
              try rfl
            conv => arg 13; simp only [List.cons_append, List.nil_append]
            conv => arg 14; simp only [List.cons_append, List.nil_append]
            apply two_bothR (fun _ => Below.refl _ _) (fun _ => rfl) (by decide) rfl
            · intro u wv hC hf
              have z0 := (HBXL.out _ hC).1
              have z1 := (HBXL.out _ hC).2.1
              have y2 := HFXL.out _ hC
              have k1 := HLK1.out _ hC
              have k2 := HLK2.out _ hC
              obtain ⟨d3_0, d16_1, -⟩ := hf
              have e3 : u 3 = _ := d3_0 rfl
              clear d3_0
              clear d16_1
              go_simp
              try rfl
            · intro u wv hC hf
              have y2 := HFXB.out _ hC
              obtain ⟨d3_0, d16_1, -⟩ := hf
              have e3 : u 3 = _ := d3_0 rfl
              clear d3_0
              clear d16_1
              go_simp
              try rfl
            conv => arg 13; simp only [List.cons_append, List.nil_append]
            conv => arg 14; simp only [List.cons_append, List.nil_append]
            apply two_bothR (fun _ => Below.refl _ _) (fun _ => rfl) (by decide) rfl
            · intro u wv hC hf
              have z0 := (HBXL.out _ hC).1
              have z1 := (HBXL.out _ hC).2.1
              have y2 := HFXL.out _ hC
              have k1 := HLK1.out _ hC
              have k2 := HLK2.out _ hC
              obtain ⟨d16_0, -⟩ := hf
              clear d16_0
              go_simp
              try rfl
            · intro u wv hC hf
              have y2 := HFXB.out _ hC
              obtain ⟨d16_0, -⟩ := hf
              clear d16_0
              go_simp
              try rfl
            conv => arg 13; simp only [List.cons_append, List.nil_append]
            conv => arg 14; simp only [List.cons_append, List.nil_append]
            apply two_preR (fun _ => Below.refl _ _) (by decide) rfl (by kernel_rfl)
            · intro u wv hC hf
              have z0 := (HBXL.out _ hC).1
              have z1 := (HBXL.out _ hC).2.1
              have y2 := HFXL.out _ hC
              have k1 := HLK1.out _ hC
              have k2 := HLK2.out _ hC
              clear hf
              go_simp
              try rfl
            conv => arg 13; simp only [List.cons_append, List.nil_append]
            conv => arg 14; simp only [List.cons_append, List.nil_append]
            apply two_preR (fun _ => Below.refl _ _) (by decide) rfl (by kernel_rfl)
            · intro u wv hC hf
              have z0 := (HBXL.out _ hC).1
              have z1 := (HBXL.out _ hC).2.1
              have y2 := HFXL.out _ hC
              have k1 := HLK1.out _ hC
              have k2 := HLK2.out _ hC
              clear hf
              go_simp
              try rfl
            conv => arg 13; simp only [List.cons_append, List.nil_append]
            conv => arg 14; simp only [List.cons_append, List.nil_append]
            apply two_preR (fun _ => Below.refl _ _) (by decide) rfl (by kernel_rfl)
            · intro u wv hC hf
              have z0 := (HBXL.out _ hC).1
              have z1 := (HBXL.out _ hC).2.1
              have y2 := HFXL.out _ hC
              have k1 := HLK1.out _ hC
              have k2 := HLK2.out _ hC
              obtain ⟨d7_0, -⟩ := hf
              have e7 : u 7 = _ := d7_0 rfl
              clear d7_0
              go_simp
              try rfl
            conv => arg 13; simp only [List.cons_append, List.nil_append]
            conv => arg 14; simp only [List.cons_append, List.nil_append]
            apply two_preR (fun _ => Below.refl _ _) (by decide) rfl (by kernel_rfl)
            · intro u wv hC hf
              have z0 := (HBXL.out _ hC).1
              have z1 := (HBXL.out _ hC).2.1
              have y2 := HFXL.out _ hC
              have k1 := HLK1.out _ hC
              have k2 := HLK2.out _ hC
              obtain ⟨d6_0, d8_1, -⟩ := hf
              have e6 : u 6 = _ := d6_0 rfl
              clear d6_0
              have e8 : u 8 = _ := d8_1 rfl
              clear d8_1
              go_simp
              try rfl
            conv => arg 13; simp only [List.cons_append, List.nil_append]
            conv => arg 14; simp only [List.cons_append, List.nil_append]
            apply two_preR (fun _ => Below.refl _ _) (by decide) rfl (by kernel_rfl)
            · intro u wv hC hf
              have z0 := (HBXL.out _ hC).1
              have z1 := (HBXL.out _ hC).2.1
              have y2 := HFXL.out _ hC
              have k1 := HLK1.out _ hC
              have k2 := HLK2.out _ hC
              clear hf
              go_simp
              try rfl
            conv => arg 13; simp only [List.cons_append, List.nil_append]
            conv => arg 14; simp only [List.cons_append, List.nil_append]
            apply two_preR (fun _ => Below.refl _ _) (by decide) rfl (by kernel_rfl)
            · intro u wv hC hf
              have z0 := (HBXL.out _ hC).1
              have z1 := (HBXL.out _ hC).2.1
              have y2 := HFXL.out _ hC
              have k1 := HLK1.out _ hC
              have k2 := HLK2.out _ hC
              clear hf
              go_simp
              try rfl
            conv => arg 13; simp only [List.cons_append, List.nil_append]
            conv => arg 14; simp only [List.cons_append, List.nil_append]
            apply two_preR (fun _ => Below.refl _ _) (by decide) rfl (by kernel_rfl)
            · intro u wv hC hf
              have z0 := (HBXL.out _ hC).1
              have z1 := (HBXL.out _ hC).2.1
              have y2 := HFXL.out _ hC
              have k1 := HLK1.out _ hC
              have k2 := HLK2.out _ hC
              obtain ⟨d11_0, -⟩ := hf
              have e11 : u 11 = _ := d11_0 rfl
              clear d11_0
              go_simp
              try rfl
            conv => arg 13; simp only [List.cons_append, List.nil_append]
            conv => arg 14; simp only [List.cons_append, List.nil_append]
            apply two_preR (fun _ => Below.refl _ _) (by decide) rfl (by kernel_rfl)
            · intro u wv hC hf
              have z0 := (HBXL.out _ hC).1
              have z1 := (HBXL.out _ hC).2.1
              have y2 := HFXL.out _ hC
              have k1 := HLK1.out _ hC
              have k2 := HLK2.out _ hC
              obtain ⟨d10_0, d12_1, -⟩ := hf
              have e10 : u 10 = _ := d10_0 rfl
              clear d10_0
              have e12 : u 12 = _ := d12_1 rfl
              clear d12_1
              go_simp
              try rfl
            conv => arg 13; simp only [List.cons_append, List.nil_append]
            conv => arg 14; simp only [List.cons_append, List.nil_append]
            apply two_preR (fun _ => Below.refl _ _) (by decide) rfl (by kernel_rfl)
            · intro u wv hC hf
              have z0 := (HBXL.out _ hC).1
              have z1 := (HBXL.out _ hC).2.1
              have y2 := HFXL.out _ hC
              have k1 := HLK1.out _ hC
              have k2 := HLK2.out _ hC
              obtain ⟨d1_0, d2_1, d0_2, d1_3, d2_4, d3_5, d4_6, d5_7, d6_8, d7_9, d8_10, d9_11, d10_12, d11_13, d12_14, d13_15, -⟩ := hf
              have e1 : u 1 = _ := d1_0 rfl
              clear d1_0
              have e2 : u 2 = _ := d2_1 rfl
              clear d2_1
              have e0 : u 0 = _ := d0_2 rfl
              clear d0_2
              clear d1_3
              clear d2_4
              clear d3_5
              clear d4_6
              clear d5_7
              have e6 : u 6 = _ := d6_8 rfl
              clear d6_8
              have e7 : u 7 = _ := d7_9 rfl
              clear d7_9
              have e8 : u 8 = _ := d8_10 rfl
              clear d8_10
              have e9 : u 9 = _ := d9_11 rfl
              clear d9_11
              clear d10_12
              clear d11_13
              clear d12_14
              have e13 : u 13 = _ := d13_15 rfl
              clear d13_15
              go_simp
              try rfl
            conv => arg 13; simp only [List.cons_append, List.nil_append]
            conv => arg 14; simp only [List.cons_append, List.nil_append]
            apply two_preR (fun _ => Below.refl _ _) (by decide) rfl (by kernel_rfl)
            · intro u wv hC hf
              have z0 := (HBXL.out _ hC).1
              have z1 := (HBXL.out _ hC).2.1
              have y2 := HFXL.out _ hC
              have k1 := HLK1.out _ hC
              have k2 := HLK2.out _ hC
              obtain ⟨d14_0, d0_1, d1_2, d2_3, d3_4, d4_5, d5_6, d6_7, d7_8, d8_9, d9_10, d10_11, d11_12, d12_13, d13_14, -⟩ := hf
              have e14 : u 14 = _ := d14_0 rfl
              clear d14_0
              have e0 : u 0 = _ := d0_1 rfl
              clear d0_1
              have e1 : u 1 = _ := d1_2 rfl
              clear d1_2
              have e2 : u 2 = _ := d2_3 rfl
              clear d2_3
              clear d3_4
              clear d4_5
              clear d5_6
              have e6 : u 6 = _ := d6_7 rfl
              clear d6_7
              have e7 : u 7 = _ := d7_8 rfl
              clear d7_8
              have e8 : u 8 = _ := d8_9 rfl
              clear d8_9
              have e9 : u 9 = _ := d9_10 rfl
              clear d9_10
              clear d10_11
              clear d11_12
              clear d12_13
              have e13 : u 13 = _ := d13_14 rfl
              clear d13_14
              go_simp
              try rfl
            conv => arg 13; simp only [List.cons_append, List.nil_append]
            conv => arg 14; simp only [List.cons_append, List.nil_append]
            refine two_sk rfl rfl ?_ ?_
            · intro u wv hC hf
              have z0 := (HBXL.out _ hC).1
              have z1 := (HBXL.out _ hC).2.1
              have y2 := HFXL.out _ hC
              have k1 := HLK1.out _ hC
              have k2 := HLK2.out _ hC
              obtain ⟨d15_0, d9_1, d0_2, d1_3, d2_4, d3_5, d4_6, d5_7, d6_8, d7_9, d8_10, d9_11, d10_12, d11_13, d12_14, d13_15, -⟩ := hf
              have e15 : u 15 = _ := d15_0 rfl
              clear d15_0
              have e9 : u 9 = _ := d9_1 rfl
              clear d9_1
              have e0 : u 0 = _ := d0_2 rfl
              clear d0_2
              have e1 : u 1 = _ := d1_3 rfl
              clear d1_3
              have e2 : u 2 = _ := d2_4 rfl
              clear d2_4
              clear d3_5
              clear d4_6
              clear d5_7
              have e6 : u 6 = _ := d6_8 rfl
              clear d6_8
              have e7 : u 7 = _ := d7_9 rfl
              clear d7_9
              have e8 : u 8 = _ := d8_10 rfl
              clear d8_10
              clear d9_11
              clear d10_12
              clear d11_13
              clear d12_14
              have e13 : u 13 = _ := d13_15 rfl
              clear d13_15
              obtain ⟨m0, m1, m2⟩ := (HR2.out.later hC).cells HAT.out
              have n0f := (HR2.out.later hC).frozen (i * 3)
              refine ⟨_, ?_, ⟨wv, hC, rfl⟩, trivial⟩
              go_simp
              try rfl
            intro u w7x dx hall
            obtain ⟨a0, a1, a2, a3, a4, a5, a6, a7, a8, a9, a10, a11, a12, a13, a14, a15, a16, -⟩ := hall
            have e0 : u 0 = _ := a0
            clear a0
            have e1 : u 1 = _ := a1
            clear a1
            have e2 : u 2 = _ := a2
            clear a2
            have e3 : u 3 = _ := a3
            clear a3
            have e4 : u 4 = _ := a4
            clear a4
            have e5 : u 5 = _ := a5
            clear a5
            have e6 : u 6 = _ := a6
            clear a6
            have e7 : u 7 = _ := a7
            clear a7
            have e8 : u 8 = _ := a8
            clear a8
            have e9 : u 9 = _ := a9
            clear a9
            have e10 : u 10 = _ := a10
            clear a10
            have e11 : u 11 = _ := a11
            clear a11
            have e12 : u 12 = _ := a12
            clear a12
            have e13 : u 13 = _ := a13
            clear a13
            have e14 : u 14 = _ := a14
            clear a14
            have e15 : u 15 = _ := a15
            clear a15
            clear a16
            change wpList _ _ _ (List.drop 17 _) _ _
            simp only [List.drop_succ_cons, List.drop_zero]
            simp only [e0, e1, e2, e3, e4, e5, e6, e7, e8, e9, e10, e11, e12, e13, e14, e15]
            clear e0 e1 e2 e3 e4 e5 e6 e7 e8 e9 e10 e11 e12 e13 e14 e15
            obtain ⟨w7, d1, rfl⟩ := dx
            have HR7 := Lib.hid (HR2.out.later d1)
            have HO7 : Hid (OwnN w7 b ord.length D) := Lib.hid (World.ownsMap.kept HO2.out (belowGrownN d1) (by simp))
            have HF7 := Lib.hid ((d1.block w2.heap.size (Array.getElem?_eq_some_iff.1 HF2.out).1).trans HF2.out)
            have HYL : Hid (i < Y.length) := Lib.hid (List.getElem?_eq_some_iff.1 HAT.out).1
            have HAT5 : Hid ((Y.set i (ord.idxOf a1, a2, a3))[i]? = some (ord.idxOf a1, a2, a3)) := Lib.hid (by rw [List.getElem?_set_self HYL.out])
            have HNB : Hid (some b ≠ some gM) := Lib.hid (fun e => row_ne_map HR7.out.2.1 HO7.out e.symm)
            have HR8 := Lib.hid (HR7.out.set1 HAT.out (ord.idxOf a1))
            have HR9 : Hid (RowG wq ((w7.setCell ⟨gM, i * 3, none⟩ (.int .i64 ((ord.idxOf a1 : Nat) : Int))).setCell ⟨gM, i * 3 + 1, none⟩ (.int .i64 ((ord.idxOf a2 : Nat) : Int))) gM M.length cM (GI M ord.idxOf (i + 1))) := Lib.hid (by
              have h := HR8.out.set2 HAT5.out (ord.idxOf a2)
              rw [List.set_set] at h
              rw [HSV.out]; exact h)
            have HO9 : Hid (OwnN ((w7.setCell ⟨gM, i * 3, none⟩ (.int .i64 ((ord.idxOf a1 : Nat) : Int))).setCell ⟨gM, i * 3 + 1, none⟩ (.int .i64 ((ord.idxOf a2 : Nat) : Int))) b ord.length D) := Lib.hid (World.ownsMap.kept (World.ownsMap.kept HO7.out (setGrownB w7 gM (i * 3) _) HNB.out) (setGrownB _ gM (i * 3 + 1) _) HNB.out)
            have HF9 : Hid (((w7.setCell ⟨gM, i * 3, none⟩ (.int .i64 ((ord.idxOf a1 : Nat) : Int))).setCell ⟨gM, i * 3 + 1, none⟩ (.int .i64 ((ord.idxOf a2 : Nat) : Int))).heap[w2.heap.size]? = some (.cells #[.int .i64 ((g : Nat) : Int), .int .i64 ((ord.length : Nat) : Int), .slice (some ⟨gM, 0, none⟩) M.length cM] 48 (0, 0))) := Lib.hid (by
              have hlt := (Array.getElem?_eq_some_iff.1 HF7.out).1
              have hne : w2.heap.size ≠ gM := by have := HGM.out.1; omega
              rw [set_other _ gM _ _ _ (by simpa using hlt) hne, set_other _ gM _ _ _ hlt hne]; exact HF7.out)
            obtain ⟨m0, m1, m2⟩ := HR7.out.cells HAT.out
            have n0f := HR7.out.frozen (i * 3)
            obtain ⟨l0, l1, l2⟩ := HR8.out.cells HAT5.out
            have l1f := HR8.out.frozen (i * 3 + 1)
            clear d1
            go_wp2_with fail
            go_roundw
            case rel => exact ⟨i + 1, by omega, by go_num, HR9, HO9, HF9⟩
            case measure => simp [intOf]; omega
          · have HRE : Hid (RowG wq wr gM M.length cM (M.map (renA ord.idxOf))) := Lib.hid (by
              have h := HRW.out
              rw [show i = M.length by omega, GI_all] at h
              exact h)
            obtain ⟨p0, p1, p2, _⟩ := fold_cells HFB.out
            have hGc := Lib.hid (sortArcs_any (M.map (renA ord.idxOf)) wq.heap.size gM cM wr (by rw [List.length_map]; exact HRE.out.2.1) (by rw [List.length_map]; omega))
            unfold RetSA at hGc
            simp only [List.length_map] at hGc
            have HBW := Lib.hid HRE.out.2.2
            clear HRW HOW
            go_wp2_with fail
            refine hGc.out.mono ?_
            rintro e w8 ⟨rfl, hgb, Q, hQl, hQp, hQw, hQo⟩
            have HB8 : Hid (Below wq.heap.size wq w8) := Lib.hid (HBW.out.grown hgb HBW.out.size (fun k hk => by cases hk; exact HGM.out.2))
            have hne : w2.heap.size ≠ gM := by have := HGM.out.1; omega
            have HF8 := Lib.hid ((hgb.block w2.heap.size (Array.getElem?_eq_some_iff.1 HFB.out).1 (fun e => hne (Option.some.inj e))).trans HFB.out)
            have HZ8 := Lib.hid ((HB8.out.block w.heap.size (Array.getElem?_eq_some_iff.1 HZR.out).1).trans HZR.out)
            have HQE : Hid (Q = (M.map (renA ord.idxOf)).foldl putA []) := Lib.hid (sorted_put HND.out hQp hQw)
            have HQO : Hid (ArcsIn w8 (some ⟨gM, 0, none⟩) Q) := Lib.hid (owns_cells hQo)
            have HQC := Lib.hid (own_caps2 hQo).1
            have HQL := Lib.hid hQl
            obtain ⟨v0, v1, v2, _⟩ := fold_cells HF8.out
            obtain ⟨z0, z1, z2, y0, y1, y2⟩ := fold_cells HZ8.out
            obtain ⟨t0, t1, t2, _⟩ := fold_cells (fold_set3 HZ8.out (.int .i64 ((g : Nat) : Int)) (.int .i64 ((ord.length : Nat) : Int)) (.slice (some ⟨gM, 0, none⟩) M.length cM))
            have HF : Hid (RetFI g ws w (.returned (.tuple #[.agg #[.int .i64 ((g : Nat) : Int), .int .i64 ((ord.length : Nat) : Int), .slice (some ⟨gM, 0, none⟩) M.length cM], .bool true])) (((w8.setCell ⟨w.heap.size, 0, none⟩ (.int .i64 ((g : Nat) : Int))).setCell ⟨w.heap.size, 1, none⟩ (.int .i64 ((ord.length : Nat) : Int))).setCell ⟨w.heap.size, 2, none⟩ (.slice (some ⟨gM, 0, none⟩) M.length cM))) := Lib.hid (.inl ⟨HO.out, ord.length, Q, some ⟨gM, 0, none⟩, cM, by
              rw [HQL.out], arcs_far HQO.out HZ8.out (set_other3 _ _ _ _ _), by rw [HQL.out]; exact HQC.out, by rw [HQE.out]; exact HFR.out, (((Below.now HBR.out HB8.out).setCell (p := ⟨w.heap.size, 0, none⟩) (Nat.le_refl _) _).setCell (p := ⟨w.heap.size, 1, none⟩) (Nat.le_refl _) _).setCell (p := ⟨w.heap.size, 2, none⟩) (Nat.le_refl _) _⟩)
            clear hgb hQl hQp hQw hQo hGc p0 p1 p2 hne
            go_wp2_with fail
            refine bodyPost_ret (v := .tuple #[.agg #[.int .i64 ((g : Nat) : Int), .int .i64 ((ord.length : Nat) : Int), .slice (some ⟨gM, 0, none⟩) M.length cM], .bool true]) ?_ rfl HF.out
            simp [results, Tryd.results27, go_sem, t0, t1, t2]
end Go.Proofs.YtklbehapbchnaaaDoor
