/-
  A region that draws its order, with one operation that turns memory which others have made: what is known before it, and what is known behind it.
-/
import Derived.Test.YtklbehapbchnaaaDoorFol18
import Derived.Test.YtklbehapbchnaaaDoorFol15
import Derived.Shelf.SlSortCmp.NoneTotal
import Derived.Test.YtklbehapbchnaaaDoorFol11
namespace Go.Proofs.YtklbehapbchnaaaDoor
open Go.RowKit
set_option linter.unusedVariables false
theorem arcC_cons (a : Arc3) (X : List Arc3) : arcC (a :: X) = arcV a ++ arcC X := by unfold arcC cellsL; rw [List.flatMap_cons]
theorem arcC_set1 : ∀ {X : List Arc3} {i a1 a2 a3 : Nat} (b : Nat), X[i]? = some (a1, a2, a3) → arcC (X.set i (b, a2, a3)) = (arcC X).set (i * 3) (.int .i64 ((b : Nat) : Int))
  | [], i, _, _, _, _, h => by simp at h
  | a :: X, 0, a1, a2, a3, b, h => by
    simp only [List.getElem?_cons_zero, Option.some.injEq] at h
    subst h
    rw [List.set_cons_zero, arcC_cons, arcC_cons]
    simp [arcV]
  | a :: X, i + 1, a1, a2, a3, b, h => by
    have ih := arcC_set1 (X := X) (i := i) b (by simpa using h)
    rw [List.set_cons_succ, arcC_cons, arcC_cons, ih, List.set_append_right _ _ (by rw [arcV_len]; omega), arcV_len, show (i + 1) * 3 - 3 = i * 3 by omega]
theorem arcC_set2 : ∀ {X : List Arc3} {i a1 a2 a3 : Nat} (b : Nat), X[i]? = some (a1, a2, a3) → arcC (X.set i (a1, b, a3)) = (arcC X).set (i * 3 + 1) (.int .i64 ((b : Nat) : Int))
  | [], i, _, _, _, _, h => by simp at h
  | a :: X, 0, a1, a2, a3, b, h => by
    simp only [List.getElem?_cons_zero, Option.some.injEq] at h
    subst h
    rw [List.set_cons_zero, arcC_cons, arcC_cons]
    simp [arcV]
  | a :: X, i + 1, a1, a2, a3, b, h => by
    have ih := arcC_set2 (X := X) (i := i) b (by simpa using h)
    rw [List.set_cons_succ, arcC_cons, arcC_cons, ih, List.set_append_right _ _ (by rw [arcV_len]; omega), arcV_len, show (i + 1) * 3 + 1 - 3 = i * 3 + 1 by omega]
/-- a row of arcs of one's own -/
def RowG (w wr : World) (g n c : Nat) (X : List Arc3) : Prop := X.length = n ∧ Bld 66 3 w wr (.slice (some ⟨g, 0, none⟩) n c) n (arcC X)
theorem RowG.later {w wr wr' : World} {g n c : Nat} {X : List Arc3} (h : RowG w wr g n c X) (hb : Below wr.heap.size wr wr') : RowG w wr' g n c X := ⟨h.1, h.2.later hb⟩
theorem RowG.arcs {w wr : World} {g n c : Nat} {X : List Arc3} (h : RowG w wr g n c X) : ArcsIn wr (some ⟨g, 0, none⟩) X := owns_cells h.2.1
theorem RowG.frozen {w wr : World} {g n c : Nat} {X : List Arc3} (h : RowG w wr g n c X) (j : Nat) : wr.frozen? ⟨g, j, none⟩ = false := h.2.1.frozenAt j
theorem RowG.cells {w wr : World} {g n c : Nat} {X : List Arc3} (h : RowG w wr g n c X) {i : Nat} {a1 a2 a3 : Nat} (ha : X[i]? = some (a1, a2, a3)) : wr.cell? ⟨g, i * 3, none⟩ = some (.int .i64 ((a1 : Nat) : Int)) ∧ wr.cell? ⟨g, i * 3 + 1, none⟩ = some (.int .i64 ((a2 : Nat) : Int)) ∧ wr.cell? ⟨g, i * 3 + 2, none⟩ = some (.int .i64 ((a3 : Nat) : Int)) := by
  obtain ⟨hi, he⟩ := List.getElem?_eq_some_iff.1 ha
  obtain ⟨b, off, e, _, hc⟩ := arc_cells h.arcs hi
  simp only [Option.some.injEq, Addr.mk.injEq, and_true] at e
  obtain ⟨rfl, rfl⟩ := e
  have := hc i hi
  rw [he, Nat.zero_add] at this
  exact this
theorem RowG.set1 {w wr : World} {g n c : Nat} {X : List Arc3} (h : RowG w wr g n c X) {i : Nat} {a1 a2 a3 : Nat} (ha : X[i]? = some (a1, a2, a3)) (b : Nat) : RowG w (wr.setCell ⟨g, i * 3, none⟩ (.int .i64 ((b : Nat) : Int))) g n c (X.set i (b, a2, a3)) := by
  refine ⟨by rw [List.length_set]; exact h.1, ?_⟩
  rw [arcC_set1 b ha]
  exact ⟨(h.2.1.stored _ _).1, h.2.2.setCell (h.2.1.lt g rfl).1 _⟩
theorem RowG.set2 {w wr : World} {g n c : Nat} {X : List Arc3} (h : RowG w wr g n c X) {i : Nat} {a1 a2 a3 : Nat} (ha : X[i]? = some (a1, a2, a3)) (b : Nat) : RowG w (wr.setCell ⟨g, i * 3 + 1, none⟩ (.int .i64 ((b : Nat) : Int))) g n c (X.set i (a1, b, a3)) := by
  refine ⟨by rw [List.length_set]; exact h.1, ?_⟩
  rw [arcC_set2 b ha]
  exact ⟨(h.2.1.stored _ _).1, h.2.2.setCell (h.2.1.lt g rfl).1 _⟩
theorem RowG.ge {w wr : World} {g n c : Nat} {X : List Arc3} (h : RowG w wr g n c X) : w.heap.size ≤ g ∧ g < wr.heap.size := h.2.1.lt g rfl
/-- the first i arcs renamed -/
def GI (G : List Arc3) (m : Nat → Nat) (i : Nat) : List Arc3 := (G.take i).map (renA m) ++ G.drop i
theorem GI_zero (G : List Arc3) (m : Nat → Nat) : GI G m 0 = G := by simp [GI]
theorem GI_all (G : List Arc3) (m : Nat → Nat) : GI G m G.length = G.map (renA m) := by simp [GI]
theorem GI_at {G : List Arc3} {m : Nat → Nat} {i : Nat} (hi : i < G.length) : (GI G m i)[i]? = some G[i] := by
  unfold GI
  rw [List.getElem?_append_right (by simp; omega)]
  simp [List.getElem?_drop, Nat.min_eq_left (Nat.le_of_lt hi), hi]
theorem GI_succ {G : List Arc3} {m : Nat → Nat} {i : Nat} (hi : i < G.length) : GI G m (i + 1) = (GI G m i).set i (renA m G[i]) := by
  unfold GI
  have hl : ((G.take i).map (renA m)).length = i := by simp; omega
  rw [List.set_append_right _ _ (by omega), hl, Nat.sub_self, List.drop_eq_getElem_cons hi, List.set_cons_zero, List.take_succ_eq_append_getElem hi, List.map_append, List.append_assoc]
  rfl
/-- the sum of the ends of arcs, in memory -/
def natAt (wr : World) (g i : Nat) : Nat := match wr.cell? ⟨g, i, none⟩ with | some (.int _ z) => z.toNat | _ => 0
def arcSum (wr : World) (g n : Nat) : Nat := ((List.range n).map fun i => natAt wr g (i * 3) + natAt wr g (i * 3 + 1)).sum
theorem RowG.sum {w wr : World} {g n c : Nat} {X : List Arc3} (h : RowG w wr g n c X) : arcSum wr g n = endS X := by
  unfold arcSum endS
  congr 1
  apply List.ext_getElem (by simp [h.1])
  intro i h1 h2
  have hi : i < X.length := by simpa using h2
  obtain ⟨c0, c1, _⟩ := h.cells (i := i) (a1 := X[i].1) (a2 := X[i].2.1) (a3 := X[i].2.2) (List.getElem?_eq_getElem hi)
  simp [natAt, c0, c1]
set_option maxHeartbeats 400000 in
theorem cloneNil_any (w : World) : Calls Tryd.prog 67 #[.slice none 0 0] w fun e w' => e = .returned (.slice none 0 0) ∧ w = w' := by
  have q24 : ∀ (w : World) (a : Option Addr) (n c n' c' : Nat), (binOp .eql 46 (.slice a n c) (.slice none n' c')).run Tryd.prog w = .ok (.bool a.isNone) w := fun w a n c n' c' => Lib.run_eql_slice_nil w _ _ a n c n' c' Tryd.underlying46
  go_enter Tryd.func67, Tryd.ntmps67
  go_wp2_with fail
  go_ret
  exact ⟨rfl, rfl⟩
set_option maxHeartbeats 400000 in
theorem compactNil_any (w : World) : Calls Tryd.prog 69 #[.slice none 0 0] w fun e w' => e = .returned (.slice none 0 0) ∧ w = w' := by
  go_enter Tryd.func69, Tryd.ntmps69
  go_wp2_with fail
  go_ret
  exact ⟨rfl, rfl⟩
def RetCA (F : List Arc3) (w : World) (e : Ending) (w' : World) : Prop := ∃ g c, e = .returned (.slice (some ⟨g, 0, none⟩) F.length c) ∧ RowG w w' g F.length c F
set_option maxHeartbeats 1000000 in
theorem cloneArcs_any (F : List Arc3) (av : Option Addr) (cap : Nat) (w : World) (hL : ArcsIn w av F) (h0 : 0 < F.length) (hl : F.length ≤ 1000) :
    Calls Tryd.prog 67 #[.slice av F.length cap] w (RetCA F w) := by
  have q24 : ∀ (w : World) (a : Option Addr) (n c n' c' : Nat), (binOp .eql 46 (.slice a n c) (.slice none n' c')).run Tryd.prog w = .ok (.bool a.isNone) w := fun w a n c n' c' => Lib.run_eql_slice_nil w _ _ a n c n' c' Tryd.underlying46
  obtain ⟨b, off, rfl, _, _⟩ := arc_cells hL h0
  have HE := Lib.hid (Bld.empty 66 3 w)
  have HS : Hid (Src (w.alloc (.cells #[] 66)) (.slice (some ⟨b, off, none⟩) F.length cap) F.length (arcC F)) := Lib.hid (Src.of_cells (m := F.length) (c := cap) (CellsIn.later hL HE.out.2))
  have HN1 : Hid ((arcC F).length = F.length * 3) := Lib.hid (arcC_len F)
  have HN2 : Hid (∀ u ∈ arcC F, u.oneCell' = true) := Lib.hid (arcC_one F)
  have HN3 : Hid (0 + F.length ≤ maxLen) := Lib.hid (by unfold maxLen; omega)
  have HN4 : Hid ((0 + F.length) * 24 ≤ 140737488355328) := Lib.hid (by omega)
  clear hL
  go_enter Tryd.func67, Tryd.ntmps67
  go_wp2_with (at_builtin; refine wpList_appM rfl (.tmp 5) (.tmp 6) rfl Tryd.underlying46 Tryd.infoArc rfl (by decide) rfl HE.out rfl HS.out HN1.out HN2.out HN3.out HN4.out ?_)
  intro v5 w5 hb5 _ _
  have hb6 : Bld 66 3 w w5 v5 F.length (arcC F) := by simpa using hb5
  clear hb5
  have hsl : ∃ g c, v5 = .slice (some ⟨g, 0, none⟩) F.length c := by
    rcases hb6.1.2 with ⟨_, h1⟩ | ⟨g, cap', cur, hv, _⟩
    · omega
    · exact ⟨g, cap', hv⟩
  obtain ⟨g, c, rfl⟩ := hsl
  have HR : Hid (RetCA F w (.returned (.slice (some ⟨g, 0, none⟩) F.length c)) w5) := Lib.hid ⟨g, c, rfl, rfl, hb6⟩
  clear hb6
  go_wp2_with fail
  go_ret
  exact HR.out
end Go.Proofs.YtklbehapbchnaaaDoor
namespace Go.Proofs.YtklbehapbchnaaaDoor
open Go.RowKit
set_option linter.unusedVariables false
/-- what foldArcs hands back -/
def RetFA (F : List Arc3) (w : World) (e : Ending) (w' : World) : Prop := ∃ a c M, e = .returned (.slice a M.length c) ∧ Bld 66 3 w w' (.slice a M.length c) M.length (arcC M) ∧ SortA M ∧ (M = [] → a = none ∧ c = 0) ∧ ∃ r, FoldS F r ∧ Shut F r ∧ ∀ x, x ∈ M ↔ x ∈ F.map (renA r)
theorem sortNil_any (fv : Value) (w : World) : Calls Tryd.prog 50 #[.slice none 0 0, fv] w fun e w' => e = .returned (.tuple #[]) ∧ w = w' :=
  (AnyF.slices_SortFunc_none Tryd.sortA none 0 fv w).mono fun e w' ⟨h1, h2⟩ => ⟨h1, h2.symm⟩
set_option maxRecDepth 20000 in
set_option maxHeartbeats 1000000 in
theorem foldArcsNil_any (w : World) : Calls Tryd.prog 48 #[.slice none 0 0] w (RetFA [] w) := by
  have HM := Lib.hid (fun W => meetingArcs_any [] none 0 W (.inl rfl) (Nat.le_refl _) (by simp))
  have HB0 : Hid (Below w.heap.size w w) := Lib.hid (Below.refl _ _)
  have HF : Hid (∀ W, Below w.heap.size w W → RetFA [] w (.returned (.slice none 0 0)) W) := Lib.hid (fun W hW => ⟨none, 0, [], rfl, Bld.nil _ _ hW, List.Pairwise.nil, fun _ => ⟨rfl, rfl⟩, id, FoldS.start _, fun a ha => (by cases ha), fun x => by simp⟩)
  go_enter Tryd.func48, Tryd.ntmps48
  go_wp2_with (go_at_call 67; refine (cloneNil_any _).mono ?_; rintro e w' ⟨rfl, rfl⟩)
  go_loopw [4] (fun _ wr => Hid (Below w.heap.size w wr)) (fun _ _ => 0)
  case atStart => exact HB0
  case round =>
    clear HB0
    have HBW := hrel
    clear hrel
    go_wp2_with fail
    refine (HM.out _).mono ?_
    rintro e w2 ⟨hb2, ⟨v, u, rfl, ⟨a, ha, _⟩⟩ | ⟨rfl, _⟩⟩
    · cases ha
    · have HB2 := Lib.hid (Below.now HBW.out hb2)
      clear hb2
      go_wp2_with (first
        | (go_at_call 50; refine (sortNil_any _ _).mono ?_; rintro e w' ⟨rfl, rfl⟩)
        | (go_at_call 69; refine (compactNil_any _).mono ?_; rintro e w' ⟨rfl, rfl⟩))
      go_ret
      exact HF.out _ HB2.out
set_option maxRecDepth 20000 in
set_option maxHeartbeats 4000000 in
theorem foldArcs_any (F : List Arc3) (av : Option Addr) (cap : Nat) (w : World) (hL : ArcsIn w av F) (h0 : 0 < F.length) (hl : F.length ≤ 1000) :
    Calls Tryd.prog 48 #[.slice av F.length cap] w (RetFA F w) := by
  have HCL := Lib.hid (cloneArcs_any F av cap w hL h0 hl)
  have HFS : Hid (FarS F F) := Lib.hid (FarS.start F)
  clear hL
  obtain ⟨n, hn⟩ : ∃ n, F.length = n := ⟨_, rfl⟩
  unfold RetCA at HCL
  rw [hn] at HCL h0 hl
  have HN := Lib.hid hn
  rw [hn]
  clear hn
  go_enter Tryd.func48, Tryd.ntmps48
  go_wp2_with fail
  refine HCL.out.mono ?_
  rintro e w1 ⟨g, c, rfl, hr⟩
  have HR := Lib.hid hr
  clear hr HCL
  go_wp2_with fail
  go_loopw [4] (fun _ wr => ∃ G, Hid (FarS F G) ∧ Hid (RowG w wr g n c G)) (fun _ wr => arcSum wr g n)
  case atStart => exact ⟨F, HFS, HR⟩
  case round =>
    clear HFS HR
    obtain ⟨G, HFS, HR⟩ := hrel
    have hGl : Hid (G.length = n) := Lib.hid HR.out.1
    generalize hW : wr = wr0 at *
    have HW := Lib.hid hW
    clear hW
    have HM0 := Lib.hid HR.out.sum
    have HMT : Hid (Calls Tryd.prog 68 #[.slice (some ⟨g, 0, none⟩) n c] wr0 (RetMt G wr0)) := Lib.hid (by
      have h := meetingArcs_any G (some ⟨g, 0, none⟩) c wr0 HR.out.arcs (by rw [hGl.out]; exact (own_caps2 HR.out.2.1).1) (by rw [hGl.out]; exact hl)
      rwa [hGl.out] at h)
    go_wp2_with fail
    refine HMT.out.mono ?_
    rintro e w2 ⟨hb2, ⟨v, u, rfl, hm⟩ | ⟨rfl, hno⟩⟩
    · obtain ⟨mx, hmx⟩ : ∃ mx, max v u = mx := ⟨_, rfl⟩
      obtain ⟨mn, hmn⟩ : ∃ mn, min v u = mn := ⟨_, rfl⟩
      have hmxi : max ((v : Nat) : Int) ((u : Nat) : Int) = ((mx : Nat) : Int) := by omega
      have hmni : min ((v : Nat) : Int) ((u : Nat) : Int) = ((mn : Nat) : Int) := by omega
      have HMG : Hid (∀ x, mgV v u x = if x = mx then mn else x) := Lib.hid (fun x => by unfold mgV; rw [hmx, hmn])
      have HFM := Lib.hid (HFS.out.merge hm)
      have HR2 := Lib.hid (HR.out.later hb2)
      have HR3 : Hid (RowG w w2 g n c (GI G (mgV v u) 0)) := Lib.hid (by rw [GI_zero]; exact HR2.out)
      clear hb2 hm hmx hmn HMT HR HR2
      go_wp2_with fail
      go_loopw [25] (fun v25 wr => ∃ i : Nat, i ≤ n ∧ v25 = .int .i64 (i : Nat) ∧ Hid (RowG w wr g n c (GI G (mgV v u) i))) (fun v25 _ => n - (intOf v25).toNat)
      case atStart => exact ⟨0, Nat.zero_le _, rfl, HR3⟩
      case round =>
        clear HR3
        obtain ⟨i, hi, rfl, HR⟩ := hrel
        by_cases hil : i < n
        · have hii : (i : Int) < (n : Int) := by omega
          have hiG : i < G.length := by rw [hGl.out]; exact hil
          have HAT := Lib.hid (GI_at (m := mgV v u) hiG)
          have HSU := Lib.hid (GI_succ (m := mgV v u) hiG)
          obtain ⟨⟨a1, a2, a3⟩, hfi⟩ : ∃ x, G[i] = x := ⟨_, rfl⟩
          rw [hfi] at HAT HSU
          obtain ⟨c0, c1, c2⟩ := HR.out.cells HAT.out
          have HSV : Hid (GI G (mgV v u) (i + 1) = (GI G (mgV v u) i).set i (mgV v u a1, mgV v u a2, a3)) := HSU
          have HBX := Lib.hid (BoxA.new wr (a1, a2, a3))
          have hal := alloc_belS wr (.cells #[.int .i64 ((a1 : Nat) : Int), .int .i64 ((a2 : Nat) : Int), .int .i64 ((a3 : Nat) : Int)] 66)
          have HR2 := Lib.hid (HR.out.later hal)
          have HGE := Lib.hid HR.out.ge
          have hgne : ¬ wr.heap.size = g := fun e => by have := HGE.out.2; omega
          have HGN := Lib.hid hgne
          clear hfi hal hgne HSU HR
          go_upto_region 9 with fail
          generalize wr.heap.size = Ba at *
          generalize wr.alloc (.cells #[.int .i64 ((a1 : Nat) : Int), .int .i64 ((a2 : Nat) : Int), .int .i64 ((a3 : Nat) : Int)] 66) = wb at *
          clear c0 c1 c2
          obtain ⟨Y, hY⟩ : ∃ Y, GI G (mgV v u) i = Y := ⟨_, rfl⟩
          rw [hY] at HAT HSV HR2
          clear hY
          obtain ⟨d0, d1, d2⟩ := HR2.out.cells HAT.out
          have f0 := HR2.out.frozen (i * 3)
          have f1 := HR2.out.frozen (i * 3 + 1)
          obtain ⟨e0, e1, e2⟩ := HBX.out.2
          simp only [] at e0 e1 e2
          by_cases h1 : a1 = mx
          · have k1 : (((a1 : Nat) : Int) == ((mx : Nat) : Int)) = true := by rw [beq_iff_eq]; omega
            have HB2 := Lib.hid (HBX.out.set (g := g) (j := i * 3) HGN.out (.int .i64 ((mn : Nat) : Int)))
            have HR5 := Lib.hid (HR2.out.set1 HAT.out mn)
            have HYL : Hid (i < Y.length) := Lib.hid (List.getElem?_eq_some_iff.1 HAT.out).1
            have HAT5 : Hid ((Y.set i (mn, a2, a3))[i]? = some (mn, a2, a3)) := Lib.hid (by rw [List.getElem?_set_self HYL.out])
            obtain ⟨e3, e4, e5⟩ := HB2.out.2
            simp only [] at e3 e4 e5
            obtain ⟨d3, d4, d5⟩ := HR5.out.cells HAT5.out
            have f3 := HR5.out.frozen (i * 3 + 1)
            by_cases h2 : a2 = mx
            · have k2 : (((a2 : Nat) : Int) == ((mx : Nat) : Int)) = true := by rw [beq_iff_eq]; omega
              have HR6 : Hid (RowG w ((wb.setCell ⟨g, i * 3, none⟩ (.int .i64 ((mn : Nat) : Int))).setCell ⟨g, i * 3 + 1, none⟩ (.int .i64 ((mn : Nat) : Int))) g n c (GI G (mgV v u) (i + 1))) := Lib.hid (by
                have h := HR5.out.set2 HAT5.out mn
                rw [List.set_set] at h
                rw [HSV.out, HMG.out, HMG.out, if_pos h1, if_pos h2]; exact h)
              clear h1 h2
              go_wp2_with fail
              go_roundw
              case rel => exact ⟨i + 1, by omega, by go_num, HR6⟩
              case measure => simp [intOf]; omega
            · have k2 : (((a2 : Nat) : Int) == ((mx : Nat) : Int)) = false := by rw [beq_eq_false_iff_ne]; omega
              have HR6 : Hid (RowG w (wb.setCell ⟨g, i * 3, none⟩ (.int .i64 ((mn : Nat) : Int))) g n c (GI G (mgV v u) (i + 1))) := Lib.hid (by
                rw [HSV.out, HMG.out, HMG.out, if_pos h1, if_neg h2]; exact HR5.out)
              clear h1 h2
              go_wp2_with fail
              go_roundw
              case rel => exact ⟨i + 1, by omega, by go_num, HR6⟩
              case measure => simp [intOf]; omega
          · have k1 : (((a1 : Nat) : Int) == ((mx : Nat) : Int)) = false := by rw [beq_eq_false_iff_ne]; omega
            by_cases h2 : a2 = mx
            · have k2 : (((a2 : Nat) : Int) == ((mx : Nat) : Int)) = true := by rw [beq_iff_eq]; omega
              have HR6 : Hid (RowG w (wb.setCell ⟨g, i * 3 + 1, none⟩ (.int .i64 ((mn : Nat) : Int))) g n c (GI G (mgV v u) (i + 1))) := Lib.hid (by
                rw [HSV.out, HMG.out, HMG.out, if_neg h1, if_pos h2]; exact HR2.out.set2 HAT.out mn)
              clear h1 h2
              go_wp2_with fail
              go_roundw
              case rel => exact ⟨i + 1, by omega, by go_num, HR6⟩
              case measure => simp [intOf]; omega
            · have k2 : (((a2 : Nat) : Int) == ((mx : Nat) : Int)) = false := by rw [beq_eq_false_iff_ne]; omega
              have HR6 : Hid (RowG w wb g n c (GI G (mgV v u) (i + 1))) := Lib.hid (by
                have e : Y.set i (a1, a2, a3) = Y := by
                  obtain ⟨hy, he⟩ := List.getElem?_eq_some_iff.1 HAT.out
                  rw [← he, List.set_getElem_self]
                rw [HSV.out, HMG.out, HMG.out, if_neg h1, if_neg h2, e]; exact HR2.out)
              clear h1 h2
              go_wp2_with fail
              go_roundw
              case rel => exact ⟨i + 1, by omega, by go_num, HR6⟩
              case measure => simp [intOf]; omega
        · have HRE : Hid (RowG w wr g n c (G.map (renA (mgV v u)))) := Lib.hid (by
            obtain rfl : i = n := by omega
            have h := HR.out
            rw [← hGl.out, GI_all] at h
            rw [← hGl.out]; exact h)
          have HFM1 : Hid (FarS F (G.map (renA (mgV v u)))) := Lib.hid HFM.out.1
          have HML : Hid (arcSum wr g n < arcSum wr0 g n) := Lib.hid (by rw [HRE.out.sum, HM0.out]; exact HFM.out.2)
          go_wp2_with fail
          go_roundw
          case rel => exact ⟨_, HFM1, HRE⟩
          case measure => exact HML.out
    · have HR2 := Lib.hid (HR.out.later hb2)
      obtain ⟨r, r1, r2, r3⟩ := HFS.out.done hno
      have hGc := Lib.hid (sortArcs_any G w.heap.size g c w2 (by rw [hGl.out]; exact HR2.out.2.1) (by rw [hGl.out]; exact hl))
      unfold RetSA at hGc
      rw [hGl.out] at hGc
      have HGR := Lib.hid r3
      have HR1 := Lib.hid r1
      have HR2s := Lib.hid r2
      have HBW := Lib.hid HR2.out.2.2
      have HG0 := Lib.hid HR2.out.ge.1
      clear hb2 hno r1 r2 r3 HMT HR HR2
      go_wp2_with fail
      refine hGc.out.mono ?_
      rintro e w3 ⟨rfl, hgb, M, hMl, hMp, hMw, hMo⟩
      have HB3 : Hid (Below w.heap.size w w3) := Lib.hid (HBW.out.grown hgb HBW.out.size (fun k hk => by cases hk; exact HG0.out))
      have HCO := Lib.hid (compactArcs_any M w.heap.size g c w3 (by rw [hMl]; exact hMo) HB3.out.size (by rw [hMl]; exact hl))
      unfold RetCo at HCO
      have HML := Lib.hid hMl
      have HMP := Lib.hid hMp
      have HMW := Lib.hid hMw
      rw [hMl] at HCO
      clear hgb hMl hMp hMw hMo hGc
      go_wp2_with fail
      refine HCO.out.mono ?_
      rintro e w4 ⟨rfl, ho4, hb4⟩
      have HF : Hid (RetFA F w (.returned (.slice (some ⟨g, 0, none⟩) (ddN M n).length c)) w4) := Lib.hid (by
        have hdd := ddN_all HMW.out
        rw [HML.out] at hdd
        have hb5 : Below w.heap.size w w4 := HB3.out.trans hb4
        refine ⟨_, c, ddN M n, rfl, ⟨ho4, hb5⟩, hdd.1, fun h => ?_, r, HR1.out, HR2s.out, fun x => ?_⟩
        · exfalso
          have hp : 0 < M.length := by rw [HML.out]; exact h0
          have hm := (hdd.2 M[0]).2 (List.getElem_mem hp)
          rw [h] at hm; cases hm
        · rw [hdd.2, HMP.out.mem_iff, HGR.out])
      clear ho4 hb4
      go_wp2_with fail
      go_ret
      exact HF.out
end Go.Proofs.YtklbehapbchnaaaDoor
namespace Go.Proofs.YtklbehapbchnaaaDoor
open Go.RowKit
set_option linter.unusedVariables false
/-- the operations on which number m waits -/
def depsN (l : List Oper) (m : Nat) : List Nat := match l[m]? with
  | some o => (o.after.toList.filter (Region.binds .any)).map (·.on)
  | none => []
/-- i must have come up where m has -/
def ancB (l : List Oper) : Nat → Nat → Nat → Bool
  | 0, _, _ => false
  | f + 1, i, m => (depsN l m).any fun d => d == i || ancB l f i d
def ClosedN (l : List Oper) (listed : Array Bool) : Prop := ∀ m, listed.getD m false = true → ∀ d ∈ depsN l m, listed.getD d false = true
theorem anc_listed {l : List Oper} {listed : Array Bool} (hc : ClosedN l listed) : ∀ (f i m : Nat), ancB l f i m = true → listed.getD m false = true → listed.getD i false = true
  | 0, _, _, h, _ => by cases h
  | f + 1, i, m, h, hm => by
    unfold ancB at h
    obtain ⟨d, hd, h2⟩ := List.any_eq_true.1 h
    have h3 := hc m hm d hd
    rcases Bool.or_eq_true_iff.1 h2 with h4 | h4
    · rw [← beq_iff_eq.1 h4]; exact h3
    · exact anc_listed hc f i d h4 h3
section
variable {P : Program} {Q : Exit → Act → World → Prop}
/-- one operation of such a region -/
def opTwo (P : Program) (Q : Exit → Act → World → Prop) (ops : List Oper) (F : (Nat → Value) → Act) (C C' : World → Prop) (R R' RS : World → World → Prop) (s k : Nat) (o : Oper) (V V' : Vp) (accA accB : List Vp) : Prop :=
  (k = s ∧ o.guard = none ∧ ∀ u w, C w → factsOf accA o.after.toList u w → ∀ K : Act → World → Prop, (∀ v w', C' w' → RS w w' → V' v w' → K ((F u).put o.dst v) w') → o.wp P (F u) w K Q) ∨
  (k ≠ s ∧ (∀ v w w', C w → C' w' → RS w w' → V v w → V' v w') ∧ (ancB ops ops.length s k = true ∨ stepOf P Q ops F C R accA o V) ∧ (ancB ops ops.length k s = true ∨ stepOf P Q ops F C' R' accB o V'))
def eachTwo (P : Program) (Q : Exit → Act → World → Prop) (ops : List Oper) (F : (Nat → Value) → Act) (C C' : World → Prop) (R R' RS : World → World → Prop) (s : Nat) : List Oper → Nat → List Vp → List Vp → Prop
  | [], _, _, accB => ∀ u w, C' w → allOf accB 0 u w → Q .normal (F u) w
  | o :: l, k, accA, accB => ∃ V V' : Vp, (∀ v w w', C w' → R w w' → V v w → V v w') ∧ (∀ v w w', C' w' → R' w w' → V' v w → V' v w') ∧ opTwo P Q ops F C C' R R' RS s k o V V' accA accB ∧ eachTwo P Q ops F C C' R R' RS s l (k + 1) (accA ++ [V]) (accB ++ [V'])
theorem getD_app_left {acc : List Vp} {V : Vp} {F : List Vp} (h : ∀ j, j < (acc ++ [V]).length → F.getD j (fun _ _ => True) = (acc ++ [V]).getD j (fun _ _ => True)) : (∀ j, j < acc.length → F.getD j (fun _ _ => True) = acc.getD j (fun _ _ => True)) ∧ F.getD acc.length (fun _ _ => True) = V := by
  constructor
  · intro j hj
    rw [h j (by rw [List.length_append]; omega), List.getD_eq_getElem?_getD, List.getD_eq_getElem?_getD, List.getElem?_append_left hj]
  · rw [h _ (by rw [List.length_append]; simp)]
    simp
theorem stepOf_facts {ops : List Oper} {F : (Nat → Value) → Act} {C : World → Prop} {R : World → World → Prop} {acc acc' : List Vp} {o : Oper} {V : Vp} {n : Nat} (hp : ∀ j, j < n → acc'.getD j (fun _ _ => True) = acc.getD j (fun _ _ => True)) (he : ∀ e ∈ o.after.toList, Region.binds .any e = true → e.on < n) (h : stepOf P Q ops F C R acc o V) : stepOf P Q ops F C R acc' o V :=
  fun u w hc hf => h u w hc (facts_mono hp he hf)
theorem eachTwo_out {ops : List Oper} {Fr : (Nat → Value) → Act} {C C' : World → Prop} {R R' RS : World → World → Prop} {s : Nat} : ∀ (l : List Oper) (accA accB : List Vp), accA.length = accB.length → backB l accA.length = true →
    (∀ V ∈ accA, ∀ v w w', C w' → R w w' → V v w → V v w') → (∀ V ∈ accB, ∀ v w w', C' w' → R' w w' → V v w → V v w') → eachTwo P Q ops Fr C C' R R' RS s l accA.length accA accB →
    ∃ FA FB : List Vp, (∀ j, j < accA.length → FA.getD j (fun _ _ => True) = accA.getD j (fun _ _ => True)) ∧ (∀ j, j < accA.length → FB.getD j (fun _ _ => True) = accB.getD j (fun _ _ => True)) ∧ FA.length = accA.length + l.length ∧ FB.length = accA.length + l.length ∧
      (∀ V ∈ FA, ∀ v w w', C w' → R w w' → V v w → V v w') ∧ (∀ V ∈ FB, ∀ v w w', C' w' → R' w w' → V v w → V v w') ∧
      (∀ i o, l[i]? = some o → opTwo P Q ops Fr C C' R R' RS s (accA.length + i) o (FA.getD (accA.length + i) (fun _ _ => True)) (FB.getD (accA.length + i) (fun _ _ => True)) FA FB) ∧ ∀ u w, C' w → allOf FB 0 u w → Q .normal (Fr u) w
  | [], accA, accB, hl, _, hA, hB, h => ⟨accA, accB, fun _ _ => rfl, fun _ _ => rfl, by simp, by simp [hl], hA, hB, fun i o h => by simp at h, h⟩
  | o :: l, accA, accB, hl, hb, hA, hB, h => by
    obtain ⟨V, V', hV, hV', hop, hr⟩ := h
    have hb' := hb
    simp only [backB, Bool.and_eq_true] at hb'
    obtain ⟨FA, FB, p1, p2, l1, l2, m1, m2, hs, hend⟩ := eachTwo_out l (accA ++ [V]) (accB ++ [V']) (by simp [hl]) (by rw [List.length_append]; exact hb'.2) (fun W hW => by
      rcases List.mem_append.1 hW with h' | h'
      · exact hA W h'
      · rw [List.mem_singleton.1 h']; exact hV) (fun W hW => by
      rcases List.mem_append.1 hW with h' | h'
      · exact hB W h'
      · rw [List.mem_singleton.1 h']; exact hV') (by rw [List.length_append]; exact hr)
    obtain ⟨q1, e1⟩ := getD_app_left p1
    have p2' : ∀ j, j < (accB ++ [V']).length → FB.getD j (fun _ _ => True) = (accB ++ [V']).getD j (fun _ _ => True) := fun j hj => p2 j (by simp [hl] at hj ⊢; omega)
    obtain ⟨q2, e2⟩ := getD_app_left p2'
    rw [← hl] at q2 e2
    refine ⟨FA, FB, q1, q2, by rw [l1]; simp; omega, by rw [l2]; simp; omega, m1, m2, fun i o' hi => ?_, hend⟩
    cases i with
    | zero =>
      simp only [List.getElem?_cons_zero, Option.some.injEq] at hi
      subst hi
      rw [Nat.add_zero, e1, e2]
      have he : ∀ e ∈ o.after.toList, Region.binds .any e = true → e.on < accA.length := fun e he hbi => by
        have := backB_at (o :: l) accA.length 0 o hb rfl e (by simpa using he) hbi
        omega
      rcases hop with ⟨h1, h2, h3⟩ | ⟨h1, h2, h3, h4⟩
      · exact .inl ⟨h1, h2, fun u w hc hf => h3 u w hc (facts_mono q1 he hf)⟩
      · exact .inr ⟨h1, h2, h3.imp id (stepOf_facts q1 he), h4.imp id (stepOf_facts q2 he)⟩
    | succ i =>
      simp only [List.getElem?_cons_succ] at hi
      have := hs i o' hi
      rw [List.length_append] at this
      rw [show accA.length + (i + 1) = accA.length + [V].length + i by simp; omega]
      exact this
/-- the like, with a forced tail of operations from number n on -/
theorem region_twoT {id : Nat} {a : Act} {w : World} {l : List Oper} {Fr : (Nat → Value) → Act} (n s : Nat) (C C' : World → Prop) (R R' RS : World → World → Prop) (hF : ∀ u, fPut (l.take n) 0 a u = Fr u) (hm : P.follows .mixedOrders = true) (hd : dstsB (l.take n) = true) (hb : backB (l.take n) 0 = true)
    (hn : decide (n < l.length) = true) (hsk : Region.sinkB .any l.toArray n = true) (hch : Region.chainB .any l.toArray n = true) (hq : Region.seqB .any l.toArray (l.length - n) n (List.replicate n true ++ List.replicate (l.length - n) false).toArray = true) (hs : decide (s < n) = true)
    (hC : C { w with drawn := w.drawn + 1 }) (h : eachTwo P (endQ Q (wpList P l.toArray Q (l.drop n))) l Fr C C' R R' RS s (l.take n) 0 [] []) : (Code.region id l.toArray true).wp P Q a w := by
  have hFr : Fr = fPut (l.take n) 0 a := funext fun u => (hF u).symm
  have hn' : n < l.length := of_decide_eq_true hn
  have hs' : s < n := of_decide_eq_true hs
  subst hFr
  obtain ⟨FA, FB, _, _, lenA, lenB, mA, mB, hstep, hend⟩ := eachTwo_out (l.take n) [] [] rfl hb (fun V hV => by cases hV) (fun V hV => by cases hV) h
  simp only [List.length_nil, Nat.zero_add] at lenA lenB hstep
  have htl : (l.take n).length = n := by rw [List.length_take]; omega
  rw [htl] at lenA lenB
  have getM : ∀ {F : List Vp} {i : Nat} {v : Value} {w w' : World} {D : World → Prop} {T : World → World → Prop}, (∀ V ∈ F, ∀ v w w', D w' → T w w' → V v w → V v w') → D w' → T w w' → F.getD i (fun _ _ => True) v w → F.getD i (fun _ _ => True) v w' := fun {F i v w w' D T} hmo hD hT hv => by
    by_cases hi : i < F.length
    · rw [List.getD_eq_getElem?_getD, List.getElem?_eq_getElem hi] at hv ⊢
      exact hmo _ (List.getElem_mem hi) _ _ _ hD hT hv
    · rw [List.getD_eq_getElem?_getD, List.getElem?_eq_none (by omega)]
      trivial
  refine wp_region_any hm ?_
  have inv0 : HeadInv .any l.toArray n (Array.replicate l.toArray.size false) :=
    ⟨by simp, fun j oj _ hl => (by rw [getD_replicate_false] at hl; cases hl), fun t _ ht => getD_in (by simpa using ht) (getD_replicate_false _ _)⟩
  have H := wpAny_headTail (P := P) (Q := Q) hn' hsk hch hb hq (fun listed a' w' => listed.size = l.length ∧ ClosedN l listed ∧ ∃ u, a' = fPut (l.take n) 0 a u ∧ ((listed.getD s false = false ∧ C w' ∧ ∀ i, i < n → listed.getD i false = true → FA.getD i (fun _ _ => True) (u i) w') ∨ (listed.getD s false = true ∧ C' w' ∧ ∀ i, i < n → listed.getD i false = true → FB.getD i (fun _ _ => True) (u i) w'))) ?_ ?_ n (Array.replicate l.toArray.size false) a { w with drawn := w.drawn + 1 } inv0 ?_ ?_
  · rw [show n + (l.length - n) = l.length by omega] at H
    simpa using H
  · rintro listed a' w' i ⟨hsz, hcl, u, rfl, hph⟩ hin hi
    obtain ⟨hun, o, ho, hall⟩ := mem_ready.1 hi
    have ho' : l[i]? = some o := by simpa using ho
    have hot : (l.take n)[i]? = some o := by rw [List.getElem?_take, if_pos hin]; exact ho'
    have hlt : i < listed.size := by rw [hsz]; exact (List.getElem?_eq_some_iff.1 ho').1
    have hnl : listed.getD i false = false := by simpa [hlt] using hun
    have hdn : ∀ e ∈ o.after.toList, Region.binds .any e = true → e.on < n := fun e he hbi => by
      have := backB_at (l.take n) 0 i o hb hot e (by simpa using he) hbi
      omega
    have hcl2 : ClosedN l (listed.setIfInBounds i true) := fun m hm d hdm => by
      by_cases hmi : m = i
      · subst hmi
        unfold depsN at hdm
        rw [ho'] at hdm
        obtain ⟨e, he, rfl⟩ := List.mem_map.1 hdm
        obtain ⟨he1, he2⟩ := List.mem_filter.1 he
        exact getD_set_true (hall e (by simpa using he1) he2)
      · rw [getD_set_ne false (fun e => hmi e.symm)] at hm
        exact getD_set_true (hcl m hm d hdm)
    have hput : ∀ v, (fPut (l.take n) 0 a u).put o.dst v = fPut (l.take n) 0 a (updV u i v) := fun v => by
      have := fPut_upd (l.take n) 0 a u i o v hd hot
      rwa [Nat.zero_add] at this
    have hnew : ∀ {F : List Vp} {v : Value} {wx : World} (hv : F.getD i (fun _ _ => True) v wx) (hk : ∀ j, j < n → listed.getD j false = true → F.getD j (fun _ _ => True) (u j) wx), ∀ j, j < n → (listed.setIfInBounds i true).getD j false = true → F.getD j (fun _ _ => True) (updV u i v j) wx := fun {F v wx} hv hk j hjn hj => by
      by_cases hji : j = i
      · subst hji; unfold updV; rw [if_pos rfl]; exact hv
      · rw [getD_set_ne false (fun e => hji e.symm)] at hj
        unfold updV; rw [if_neg hji]
        exact hk j hjn hj
    have hop := hstep i o hot
    have plain : ∀ (D : World → Prop) (T : World → World → Prop) (F : List Vp) (W : Vp), W = F.getD i (fun _ _ => True) → D w' → (∀ V ∈ F, ∀ v w w', D w' → T w w' → V v w → V v w') → (∀ j, j < n → listed.getD j false = true → F.getD j (fun _ _ => True) (u j) w') → stepOf P (endQ Q (wpList P l.toArray Q (l.drop n))) l (fPut (l.take n) 0 a) D T F o W →
        wpOp P l.toArray Q i (fun a'' w'' => ∃ u', a'' = fPut (l.take n) 0 a u' ∧ D w'' ∧ ∀ j, j < n → (listed.setIfInBounds i true).getD j false = true → F.getD j (fun _ _ => True) (u' j) w'') (fPut (l.take n) 0 a u) w' := fun D T F W hW hD hmo hk hst => by
      subst hW
      have hst := hst u w' hD (factsOf_mk F _ u w' fun e he hbi => hk _ (hdn e he hbi) (hall e (by simpa using he) hbi))
      unfold wpOp
      rw [ho]
      simp only
      split at hst
      · rename_i hw
        rw [if_pos hw]
        refine .inl (wp_endQ (hst _ fun v w2 hc2 hr hv => ⟨updV u i v, hput v, hc2, hnew hv fun j hjn hj => getM hmo hc2 hr (hk j hjn hj)⟩))
      · rename_i hw
        rw [if_neg hw]
        have hup := hput undef
        exact ⟨updV u i undef, hup, hD, hnew hst hk⟩
    rcases hph with ⟨hs0, hc, hk⟩ | ⟨hs1, hc, hk⟩
    · rcases hop with ⟨rfl, hg, hS⟩ | ⟨hne, htr, hA, _⟩
      · have hS := hS u w' hc (factsOf_mk FA _ u w' fun e he hbi => hk _ (hdn e he hbi) (hall e (by simpa using he) hbi))
        unfold wpOp
        rw [ho]
        simp only
        have hw : Region.wanted o (yielded l.toArray (fPut (l.take n) 0 a u).tmps) = true := by simp [Region.wanted, hg]
        rw [if_pos hw]
        refine .inl (wp_endQ (hS _ fun v w2 hc2 hrs hv => ⟨by simpa using hsz, hcl2, updV u i v, hput v, .inr ⟨by simp [hlt], hc2, hnew hv fun j hjn hj => ?_⟩⟩))
        have hji : j ≠ i := fun e => by subst e; rw [hnl] at hj; cases hj
        rcases hstep j (l.take n)[j] (List.getElem?_eq_getElem (by omega)) with ⟨e, _⟩ | ⟨_, htr, _⟩
        · exact absurd e hji
        · exact htr _ _ _ hc hc2 hrs (hk j hjn hj)
      · rcases hA with hA | hA
        · exfalso
          cases hll : l.length with
          | zero => omega
          | succ f =>
            rw [hll] at hA
            replace hA : ((depsN l i).any fun d => d == s || ancB l f s d) = true := hA
            obtain ⟨d, hdm, h2⟩ := List.any_eq_true.1 hA
            have hdl : listed.getD d false = true := by
              unfold depsN at hdm
              rw [ho'] at hdm
              obtain ⟨e, he, rfl⟩ := List.mem_map.1 hdm
              obtain ⟨he1, he2⟩ := List.mem_filter.1 he
              exact hall e (by simpa using he1) he2
            rcases Bool.or_eq_true_iff.1 h2 with h4 | h4
            · rw [beq_iff_eq.1 h4, hs0] at hdl; cases hdl
            · rw [anc_listed hcl f s d h4 hdl] at hs0; cases hs0
        · refine wpOp_mono (fun a'' w'' => ?_) (plain C R FA _ rfl hc mA hk hA)
          rintro ⟨u', e, hD, hk'⟩
          exact ⟨by simpa using hsz, hcl2, u', e, .inl ⟨by rw [getD_set_ne false hne]; exact hs0, hD, hk'⟩⟩
    · rcases hop with ⟨rfl, _⟩ | ⟨hne, _, _, hB⟩
      · rw [hnl] at hs1; cases hs1
      · rcases hB with hB | hB
        · exfalso
          rw [anc_listed hcl _ i s hB hs1] at hnl
          cases hnl
        · refine wpOp_mono (fun a'' w'' => ?_) (plain C' R' FB _ rfl hc mB hk hB)
          rintro ⟨u', e, hD, hk'⟩
          exact ⟨by simpa using hsz, hcl2, u', e, .inr ⟨by rw [getD_set_ne false hne]; exact hs1, hD, hk'⟩⟩
  · rintro a' w' ⟨_, _, u, rfl, hph⟩
    have hin : ∀ i, i < n → (List.replicate n true ++ List.replicate (l.length - n) false).toArray.getD i false = true := fun i hi => by
      simp [Array.getD_eq_getD_getElem?, List.getElem?_append, hi]
    rcases hph with ⟨hs0, _⟩ | ⟨_, hc, hk⟩
    · rw [hin s hs'] at hs0; cases hs0
    · exact hend u w' hc (allOf_mk FB 0 u w' fun i hi => by rw [Nat.zero_add]; exact hk i (by omega) (hin i (by omega)))
  · refine ⟨by simp, (fun m hm => by rw [getD_replicate_false] at hm; cases hm), (fun i => match (l.take n)[i]? with | some o => (match o.dst with | some d => a.tmps.getD d undef | none => undef) | none => undef), ?_, .inl ⟨getD_replicate_false _ _, hC, fun i _ hi => ?_⟩⟩
    · refine (fPut_self (l.take n) 0 a _ fun i o d hi hd' => ?_).symm
      simp only [Nat.zero_add, hi, hd']
    · rw [getD_replicate_false] at hi; cases hi
  · simp [List.count_replicate]
section
variable {ops l : List Oper} {Fr : (Nat → Value) → Act} {C C' : World → Prop} {R R' RS : World → World → Prop} {s k : Nat} {accA accB : List Vp} {o : Oper}
theorem do_step {C : World → Prop} {R : World → World → Prop} {acc : List Vp} (V : Vp) (hg : o.guard = none) (h : ∀ u w, C w → factsOf acc o.after.toList u w → ∃ v w', (execOp (Fr u).eval o).run P w = .ok (.value v) w' ∧ C w' ∧ R w w' ∧ V v w') : stepOf P Q ops Fr C R acc o V := fun u w hc hf => by
  have hw : Region.wanted o (yielded ops.toArray (Fr u).tmps) = true := by simp [Region.wanted, hg]
  rw [if_pos hw]
  intro K hK
  obtain ⟨v, w', h1, h2, h3, h4⟩ := h u w hc hf
  unfold Oper.wp
  rw [h1]
  exact hK v w' h2 h3 h4
/-- a value that is read ahead of s -/
theorem two_preR {c : Value} (hR : ∀ w, R w w) (hk : k ≠ s) (hg : o.guard = none) (ha : ancB ops ops.length k s = true) (hA : ∀ u w, C w → factsOf accA o.after.toList u w → (execOp (Fr u).eval o).run P w = .ok (.value c) w)
    (hn : eachTwo P Q ops Fr C C' R R' RS s l (k + 1) (accA ++ [fun v _ => v = c]) (accB ++ [fun v _ => v = c])) : eachTwo P Q ops Fr C C' R R' RS s (o :: l) k accA accB :=
  ⟨fun v _ => v = c, fun v _ => v = c, fun _ _ _ _ _ h => h, fun _ _ _ _ _ h => h, .inr ⟨hk, fun _ _ _ _ _ _ h => h, .inr (do_step _ hg fun u w hc hf => ⟨c, w, hA u w hc hf, hc, hR w, rfl⟩), .inl ha⟩, hn⟩
/-- a value that may be read on either side of s -/
theorem two_bothR {c : Value} (hR : ∀ w, R w w) (hR' : ∀ w, R' w w) (hk : k ≠ s) (hg : o.guard = none) (hA : ∀ u w, C w → factsOf accA o.after.toList u w → (execOp (Fr u).eval o).run P w = .ok (.value c) w) (hB : ∀ u w, C' w → factsOf accB o.after.toList u w → (execOp (Fr u).eval o).run P w = .ok (.value c) w)
    (hn : eachTwo P Q ops Fr C C' R R' RS s l (k + 1) (accA ++ [fun v _ => v = c]) (accB ++ [fun v _ => v = c])) : eachTwo P Q ops Fr C C' R R' RS s (o :: l) k accA accB :=
  ⟨fun v _ => v = c, fun v _ => v = c, fun _ _ _ _ _ h => h, fun _ _ _ _ _ h => h, .inr ⟨hk, fun _ _ _ _ _ _ h => h, .inr (do_step _ hg fun u w hc hf => ⟨c, w, hA u w hc hf, hc, hR w, rfl⟩), .inr (do_step _ hg fun u w hc hf => ⟨c, w, hB u w hc hf, hc, hR' w, rfl⟩)⟩, hn⟩
end
end
end Go.Proofs.YtklbehapbchnaaaDoor
