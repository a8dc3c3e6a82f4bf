/-
  The vertex to which a letter leads, and the order of the vertices, of the reference.
-/
import Derived.Test.YtklbehapbchnaaaDoorFol06
import Derived.Test.YtklbehapbchnaaaDoorFol05
import Derived.Test.YtklbehapbchnaaaDoorFol02
import Derived.Test.YtklbehapbchnaaaDoorFol01
import Derived.ProofKit
import Derived.OpenShut
import Derived.Lib.SmallJoins
import Derived.SliceStrings
import Derived.Deep.RegionHeld3
namespace Go.Proofs.YtklbehapbchnaaaDoor
open Go.RowKit
set_option linter.unusedVariables false
/-- a variable that holds an arc -/
def BoxA (wr : World) (B : Nat) (a : Arc3) : Prop := B < wr.heap.size ∧ wr.cell? ⟨B, 0, none⟩ = some (.int .i64 ((a.1 : Nat) : Int)) ∧ wr.cell? ⟨B, 1, none⟩ = some (.int .i64 ((a.2.1 : Nat) : Int)) ∧ wr.cell? ⟨B, 2, none⟩ = some (.int .i64 ((a.2.2 : Nat) : Int))
theorem BoxA.new (w : World) (a : Arc3) : BoxA (w.alloc (.cells #[.int .i64 ((a.1 : Nat) : Int), .int .i64 ((a.2.1 : Nat) : Int), .int .i64 ((a.2.2 : Nat) : Int)] 66)) w.heap.size a :=
  ⟨by simp, by simp, by simp, by simp⟩
theorem BoxA.later {wr wr' : World} {B : Nat} {a : Arc3} (h : BoxA wr B a) (hb : Below wr.heap.size wr wr') : BoxA wr' B a :=
  ⟨Nat.lt_of_lt_of_le h.1 hb.size, (hb.cell (p := ⟨B, 0, none⟩) h.1).trans h.2.1, (hb.cell (p := ⟨B, 1, none⟩) h.1).trans h.2.2.1, (hb.cell (p := ⟨B, 2, none⟩) h.1).trans h.2.2.2⟩
theorem BoxA.set {wr : World} {B g j : Nat} {a : Arc3} (h : BoxA wr B a) (hne : B ≠ g) (v : Value) : BoxA (wr.setCell ⟨g, j, none⟩ v) B a := by
  have hc : ∀ c, (wr.setCell ⟨g, j, none⟩ v).cell? ⟨B, c, none⟩ = wr.cell? ⟨B, c, none⟩ := fun c => by
    unfold World.cell?
    rw [(setGrownB wr g j v).block B h.1 (fun e => hne (Option.some.inj e))]
  exact ⟨by simpa using h.1, (hc 0).trans h.2.1, (hc 1).trans h.2.2.1, (hc 2).trans h.2.2.2⟩
/-- the sum of a row in memory -/
def parSum (wr : World) (g n : Nat) : Nat := ((List.range n).map fun i => match wr.cell? ⟨g, i, none⟩ with | some (.int _ z) => z.toNat | _ => 0).sum
theorem map_range_getD : ∀ (l : List Nat), (List.range l.length).map (fun i => l.getD i 0) = l
  | [] => rfl
  | a :: l => by
    rw [List.length_cons, List.range_succ_eq_map, List.map_cons, List.map_map]
    congr 1
    exact map_range_getD l
theorem PaR.sum {w wr : World} {g cap : Nat} {par : List Nat} (h : PaR w wr g cap par) : parSum wr g par.length = par.sum := by
  unfold parSum
  have e : (List.range par.length).map (fun i => match wr.cell? ⟨g, i, none⟩ with | some (.int _ z) => z.toNat | _ => 0) = (List.range par.length).map (fun i => par.getD i 0) := by
    apply List.map_congr_left
    intro i hi
    rw [h.cell (List.mem_range.1 hi)]
    simp
  rw [e, map_range_getD]
theorem PaR.below {w wr : World} {g cap : Nat} {par : List Nat} (h : PaR w wr g cap par) : Below w.heap.size w wr := h.2
theorem PaR.ge {w wr : World} {g cap : Nat} {par : List Nat} (h : PaR w wr g cap par) : w.heap.size ≤ g ∧ g < wr.heap.size := h.1.lt g rfl
theorem BoxA.far {w wr : World} {g cap B : Nat} {par : List Nat} {a : Arc3} (hb : BoxA wr B a) (h : PaR w wr g cap par) (T : Value) : True := trivial
theorem ParS.root_lt {F : List Arc3} {n : Nat} {par : List Nat} (h : ParS F n par) {v : Nat} (hv : v < n) : rootP par v < n ∧ par.getD (rootP par v) 0 = rootP par v :=
  ⟨Nat.lt_of_le_of_lt (root_le h.ok v) hv, root_fix h.ok v (by rw [h.len]; exact hv)⟩
theorem range_one (n : Nat) : ((List.range (n + 1)).map Int.ofNat).map (Value.int .i64) = ((List.range n).map Int.ofNat).map (Value.int .i64) ++ [.int .i64 (n : Nat)] := by
  rw [List.range_succ, List.map_append, List.map_append]; rfl
/-- the numbers below v, in memory -/
def rngV (v : Nat) : List Value := ((List.range v).map Int.ofNat).map (Value.int .i64)
theorem rngV_succ (v : Nat) : rngV (v + 1) = rngV v ++ [.int .i64 (v : Nat)] := range_one v
set_option maxRecDepth 20000 in
set_option maxHeartbeats 4000000 in
theorem l25Fold_any (F : List Arc3) (av : Option Addr) (cap n : Nat) (w : World) (hL : ArcsIn w av F) (hcap : F.length ≤ cap) (hl : F.length ≤ 200) (hcm : cap ≤ maxLen) (hn1 : 1 ≤ n) (hn : n ≤ 1000) (hF : ∀ a ∈ F, a.1 < n ∧ a.2.1 < n) :
    Calls Tryd.prog 40 #[.slice av F.length cap, .int .i64 (n : Nat)] w (RetPar F n w) := by
  unfold maxLen at hcm
  have HL := Lib.hid hL
  have HFR := Lib.hid hF
  have HB0 : Hid (Bld 3 1 w (w.alloc (.cells #[] 3)) (.slice (some ⟨w.heap.size, 0, none⟩) 0 0) 0 (rngV 0)) := Lib.hid (Bld.empty _ _ w)
  clear hL hF
  go_enter Tryd.func40, Tryd.ntmps40
  go_wp2_with fail
  go_loopw [5, 6] (fun v5 v6 wr => ∃ v : Nat, v ≤ n ∧ v6 = .int .i64 (v : Nat) ∧ Hid (Bld 3 1 w wr v5 v (rngV v))) (fun _ v6 _ => n - (intOf v6).toNat)
  case atStart => exact ⟨0, Nat.zero_le _, rfl, HB0⟩
  case round =>
    clear HB0
    obtain ⟨v, hv, rfl, HB⟩ := hrel
    by_cases hvn : v < n
    · have HN1 : Hid (∀ q ∈ [Value.int .i64 ((v : Nat) : Int)], q.oneCell' = true) := Lib.hid (by simp [Value.oneCell'])
      have HN2 : Hid (v + 1 ≤ maxLen) := Lib.hid (by unfold maxLen; omega)
      have HN3 : Hid ((v + 1) * 8 ≤ 140737488355328) := Lib.hid (by omega)
      go_wp2_with (at_builtin; refine wpList_app1 rfl _ _ rfl Tryd.underlying63 Tryd.infoInt rfl (by decide) rfl HB.out rfl rfl HN1.out HN2.out HN3.out ?a1)
      intro v5 w5 hb5
      have HB5 : Hid (Bld 3 1 w w5 v5 (v + 1) (rngV (v + 1))) := Lib.hid (by rw [rngV_succ]; exact hb5)
      clear hb5
      go_wp2_with fail
      go_roundw
      case rel => exact ⟨v + 1, by omega, by go_num, HB5⟩
      case measure => simp [intOf]; omega
    · obtain rfl : v = n := by omega
      obtain ⟨g, pc, rfl⟩ := owns_slot HB.out.1 (by omega)
      have HP0 : Hid (PaR w wr g pc (List.range v)) := Lib.hid (by
        unfold PaR
        rw [List.length_range]
        exact HB.out)
      have HS0 := Lib.hid (ParS.start F v)
      clear HB
      go_wp2_with fail
      go_loopw [7] (fun _ wr => ∃ par : List Nat, Hid (ParS F v par) ∧ Hid (PaR w wr g pc par)) (fun _ wr => parSum wr g v)
      case atStart => exact ⟨_, HS0, HP0⟩
      case round =>
        clear HP0 HS0
        obtain ⟨par0, HS0, HP0⟩ := hrel
        generalize hW : wr = wr0 at *
        have HW := Lib.hid hW
        clear hW
        have HPS0 : Hid (PassP F par0 par0 false 0 0) := Lib.hid (PassP.start F par0)
        have HM0 : Hid (parSum wr0 g v = par0.sum) := Lib.hid (by have h := HP0.out.sum; rwa [HS0.out.len] at h)
        go_wp2_with fail
        go_loopw [7, 28] (fun v7 v28 wr => ∃ (i : Nat) (ch : Bool) (par : List Nat), i ≤ F.length ∧ v28 = .int .i64 (i : Nat) ∧ v7 = .bool ch ∧ Hid (PassP F par0 par ch i 0) ∧ Hid (ParS F v par) ∧ Hid (PaR w wr g pc par)) (fun _ v28 _ => F.length - (intOf v28).toNat)
        case atStart => exact ⟨0, false, par0, Nat.zero_le _, rfl, rfl, HPS0, HS0, HP0⟩
        case round =>
          clear HPS0
          obtain ⟨i, ch, par, hi, rfl, rfl, HPS, HS, HP⟩ := hrel
          by_cases hil : i < F.length
          · obtain ⟨b0, off, rfl, hb0, hc⟩ := arc_cells (RowsIn.later HL.out HP.out.below) hil
            obtain ⟨c0, c1, c2⟩ := hc i hil
            have hii : (i : Int) < (F.length : Int) := by omega
            have hicap : (i : Int) ≤ (cap : Int) := by omega
            have HGE := Lib.hid HP.out.ge
            have hgne : ¬ wr.heap.size = g := fun e => by have := HGE.out.2; omega
            have HAB : Hid (∀ o, Below wr.heap.size wr (wr.alloc o)) := Lib.hid (fun o => (Below.refl _ wr).alloc (Nat.le_refl _) o)
            have HBX := Lib.hid (BoxA.new wr F[i])
            have HP1 := Lib.hid (HP.out.later (HAB.out (.cells #[.int .i64 ((F[i].1 : Nat) : Int), .int .i64 ((F[i].2.1 : Nat) : Int), .int .i64 ((F[i].2.2 : Nat) : Int)] 66)))
            have HA1 := Lib.hid (HFR.out F[i] (List.getElem_mem hil))
            obtain ⟨⟨a1, a2, a3⟩, hfi⟩ : ∃ a, F[i] = a := ⟨_, rfl⟩
            rw [hfi] at c0 c1 c2 HBX HP1 HA1
            have HFI := Lib.hid hfi
            clear hc hfi
            go_wp2_with fail
            have HCA : Hid (∀ W, Below w.heap.size w W → ∀ j (hj : j < F.length), W.cell? ⟨b0, off + j * 3, none⟩ = some (.int .i64 ((F[j].1 : Nat) : Int)) ∧ W.cell? ⟨b0, off + j * 3 + 1, none⟩ = some (.int .i64 ((F[j].2.1 : Nat) : Int)) ∧ W.cell? ⟨b0, off + j * 3 + 2, none⟩ = some (.int .i64 ((F[j].2.2 : Nat) : Int))) := Lib.hid (fun W hW j hj => by
              obtain ⟨b1, o1, e, _, hc1⟩ := arc_cells (RowsIn.later HL.out hW) hj
              simp only [Option.some.injEq, Addr.mk.injEq, and_true] at e
              obtain ⟨rfl, rfl⟩ := e
              exact hc1 j hj)
            have HGB := Lib.hid hgne
            clear c0 c1 c2 hb0 hgne
            generalize hB : wr.heap.size = Ba at *
            generalize wr.alloc (.cells #[.int .i64 ((a1 : Nat) : Int), .int .i64 ((a2 : Nat) : Int), .int .i64 ((a3 : Nat) : Int)] 66) = wa at *
            clear hB HP
            go_loopw [7, 37] (fun v7 v37 wr => ∃ (j : Nat) (ch : Bool) (par : List Nat), j ≤ i ∧ v37 = .int .i64 (j : Nat) ∧ v7 = .bool ch ∧ Hid (PassP F par0 par ch i j) ∧ Hid (ParS F v par) ∧ Hid (PaR w wr g pc par) ∧ Hid (BoxA wr Ba (a1, a2, a3))) (fun _ v37 _ => i - (intOf v37).toNat)
            case atStart => exact ⟨0, ch, par, Nat.zero_le _, rfl, rfl, HPS, HS, HP1, HBX⟩
            case round =>
              clear HPS HS HP1 HBX
              obtain ⟨j, ch, par, hj, rfl, rfl, HPS, HS, HP, HBX⟩ := hrel
              by_cases hji : j < i
              · have hjl : j < F.length := by omega
                have hjj : (j : Int) < (i : Int) := by omega
                obtain ⟨d0, d1, d2⟩ := HCA.out wr HP.out.below j hjl
                have HA2 := Lib.hid (HFR.out F[j] (List.getElem_mem hjl))
                obtain ⟨⟨b1, b2, b3⟩, hfj⟩ : ∃ b, F[j] = b := ⟨_, rfl⟩
                rw [hfj] at d0 d1 d2 HA2
                have HFJ := Lib.hid hfj
                have HBY := Lib.hid (BoxA.new wr (b1, b2, b3))
                have hal : Below wr.heap.size wr (wr.alloc (.cells #[.int .i64 ((b1 : Nat) : Int), .int .i64 ((b2 : Nat) : Int), .int .i64 ((b3 : Nat) : Int)] 66)) := (Below.refl _ wr).alloc (Nat.le_refl _) _
                have HBX2 := Lib.hid (HBX.out.later hal)
                have HP2 := Lib.hid (HP.out.later hal)
                clear hfj hal
                go_upto_region 13 with fail
                generalize wr.heap.size = Bb at *
                generalize wr.alloc (.cells #[.int .i64 ((b1 : Nat) : Int), .int .i64 ((b2 : Nat) : Int), .int .i64 ((b3 : Nat) : Int)] 66) = wb at *
                clear d0 d1 d2 HBX HP
                obtain ⟨e0, e1, e2⟩ := HBX2.out.2
                obtain ⟨f0, f1, f2⟩ := HBY.out.2
                simp only [] at e0 e1 e2 f0 f1 f2
                by_cases h3 : a3 = b3
                · subst h3
                  have HFD : Hid (∀ V, V < v → Calls Tryd.prog 42 #[.slice (some ⟨g, 0, none⟩) v pc, .int .i64 (V : Nat)] wb fun e w' => e = .returned (.int .i64 ((rootP par V : Nat) : Int)) ∧ wb = w') := Lib.hid (fun V hV => by
                    have h := l25Find_any par (some ⟨g, 0, none⟩) pc V wb HP2.out.ints HS.out.ok (by rw [HS.out.len]; exact hV) (by rw [HS.out.len]; omega)
                    rw [HS.out.len] at h
                    exact h)
                  have ha1 : a1 < v := HA1.out.1
                  have ha2 : a2 < v := HA1.out.2
                  have hb1 : b1 < v := HA2.out.1
                  have hb2 : b2 < v := HA2.out.2
                  have HRa1 := Lib.hid (HS.out.root_lt ha1)
                  have HRa2 := Lib.hid (HS.out.root_lt ha2)
                  have HRb1 := Lib.hid (HS.out.root_lt hb1)
                  have HRb2 := Lib.hid (HS.out.root_lt hb2)
                  have HAF : Hid ((a1, a2, a3) ∈ F ∧ (b1, b2, a3) ∈ F) := Lib.hid ⟨by rw [← HFI.out]; exact List.getElem_mem hil, by rw [← HFJ.out]; exact List.getElem_mem hjl⟩
                  by_cases hp : rootP par a1 = rootP par b1
                  · have hpb : (((rootP par a1 : Nat) : Int) == ((rootP par b1 : Nat) : Int)) = true := by rw [beq_iff_eq]; omega
                    have hpn : (((rootP par a1 : Nat) : Int) != ((rootP par b1 : Nat) : Int)) = false := by rw [bne_eq_false_iff_eq]; omega
                    by_cases hx : rootP par a2 = rootP par b2
                    · have hxb : (((rootP par a2 : Nat) : Int) == ((rootP par b2 : Nat) : Int)) = true := by rw [beq_iff_eq]; omega
                      have hxn : (((rootP par a2 : Nat) : Int) != ((rootP par b2 : Nat) : Int)) = false := by rw [bne_eq_false_iff_eq]; omega
                      have HPS2 : Hid (PassP F par0 par ch i (j + 1)) := Lib.hid (HPS.out.skip hil hjl (fun e => by rw [HFI.out, HFJ.out]; exact ⟨fun _ => hx, fun _ => hp⟩))
                      clear hp hx
                      go_wp2_with (go_at_call 42; refine (HFD.out _ (by assumption)).mono ?_; rintro e w' ⟨rfl, rfl⟩)
                      go_roundw
                      case rel => exact ⟨j + 1, ch, par, by omega, by go_num, rfl, HPS2, HS, HP2, HBX2⟩
                      case measure => simp [intOf]; omega
                    · have hxb : (((rootP par a2 : Nat) : Int) == ((rootP par b2 : Nat) : Int)) = false := by rw [beq_eq_false_iff_ne]; omega
                      have hxn : (((rootP par a2 : Nat) : Int) != ((rootP par b2 : Nat) : Int)) = true := by rw [bne_iff_ne]; omega
                      have hcon : FoldC F (rootP par a2) (rootP par b2) := HS.out.fs.fwd HAF.out.1 HAF.out.2 rfl hp
                      have hne := hx
                      clear hp hx
                      obtain ⟨m, hm⟩ : ∃ m, max (rootP par a2) (rootP par b2) = m := ⟨_, rfl⟩
                      obtain ⟨k, hk⟩ : ∃ k, min (rootP par a2) (rootP par b2) = k := ⟨_, rfl⟩
                      have hLK := HS.out.link (HRa2.out).1 (HRb2.out).1 (HRa2.out).2 (HRb2.out).2 hne hcon
                      rw [hm, hk] at hLK
                      have hmx : max ((rootP par a2 : Nat) : Int) ((rootP par b2 : Nat) : Int) = ((m : Nat) : Int) := by omega
                      have hmn : min ((rootP par a2 : Nat) : Int) ((rootP par b2 : Nat) : Int) = ((k : Nat) : Int) := by omega
                      have hmv : (m : Int) < (v : Int) := by have h1 := (HRa2.out).1; have h2 := (HRb2.out).1; omega
                      have hcm2 := HP2.out.cell (j := m) (by rw [HS.out.len]; omega)
                      have hfm := HP2.out.frozen m
                      have HS3 := Lib.hid hLK.1
                      have HPS3 : Hid (PassP F par0 (par.set m k) true i (j + 1)) := Lib.hid (HPS.out.drop hLK.2 _)
                      have HP3 := Lib.hid (HP2.out.set m k)
                      have HBX3 := Lib.hid (HBX2.out.set (g := g) (j := m) HGB.out (.int .i64 ((k : Nat) : Int)))
                      clear hm hk hLK hne hcon
                      go_wp2_with (go_at_call 42; refine (HFD.out _ (by assumption)).mono ?_; rintro e w' ⟨rfl, rfl⟩)
                      go_roundw
                      case rel => exact ⟨j + 1, true, par.set m k, by omega, by go_num, rfl, HPS3, HS3, HP3, HBX3⟩
                      case measure => simp [intOf]; omega
                  · have hpb : (((rootP par a1 : Nat) : Int) == ((rootP par b1 : Nat) : Int)) = false := by rw [beq_eq_false_iff_ne]; omega
                    have hpn : (((rootP par a1 : Nat) : Int) != ((rootP par b1 : Nat) : Int)) = true := by rw [bne_iff_ne]; omega
                    by_cases hx : rootP par a2 = rootP par b2
                    · have hxb : (((rootP par a2 : Nat) : Int) == ((rootP par b2 : Nat) : Int)) = true := by rw [beq_iff_eq]; omega
                      have hxn : (((rootP par a2 : Nat) : Int) != ((rootP par b2 : Nat) : Int)) = false := by rw [bne_eq_false_iff_eq]; omega
                      have hcon : FoldC F (rootP par a1) (rootP par b1) := HS.out.fs.bwd HAF.out.1 HAF.out.2 rfl hx
                      have hne := hp
                      clear hp hx
                      obtain ⟨m, hm⟩ : ∃ m, max (rootP par a1) (rootP par b1) = m := ⟨_, rfl⟩
                      obtain ⟨k, hk⟩ : ∃ k, min (rootP par a1) (rootP par b1) = k := ⟨_, rfl⟩
                      have hLK := HS.out.link (HRa1.out).1 (HRb1.out).1 (HRa1.out).2 (HRb1.out).2 hne hcon
                      rw [hm, hk] at hLK
                      have hmx : max ((rootP par a1 : Nat) : Int) ((rootP par b1 : Nat) : Int) = ((m : Nat) : Int) := by omega
                      have hmn : min ((rootP par a1 : Nat) : Int) ((rootP par b1 : Nat) : Int) = ((k : Nat) : Int) := by omega
                      have hmv : (m : Int) < (v : Int) := by have h1 := (HRa1.out).1; have h2 := (HRb1.out).1; omega
                      have hcm2 := HP2.out.cell (j := m) (by rw [HS.out.len]; omega)
                      have hfm := HP2.out.frozen m
                      have HS3 := Lib.hid hLK.1
                      have HPS3 : Hid (PassP F par0 (par.set m k) true i (j + 1)) := Lib.hid (HPS.out.drop hLK.2 _)
                      have HP3 := Lib.hid (HP2.out.set m k)
                      have HBX3 := Lib.hid (HBX2.out.set (g := g) (j := m) HGB.out (.int .i64 ((k : Nat) : Int)))
                      clear hm hk hLK hne hcon
                      go_wp2_with (go_at_call 42; refine (HFD.out _ (by assumption)).mono ?_; rintro e w' ⟨rfl, rfl⟩)
                      go_roundw
                      case rel => exact ⟨j + 1, true, par.set m k, by omega, by go_num, rfl, HPS3, HS3, HP3, HBX3⟩
                      case measure => simp [intOf]; omega
                    · have hxb : (((rootP par a2 : Nat) : Int) == ((rootP par b2 : Nat) : Int)) = false := by rw [beq_eq_false_iff_ne]; omega
                      have hxn : (((rootP par a2 : Nat) : Int) != ((rootP par b2 : Nat) : Int)) = true := by rw [bne_iff_ne]; omega
                      have HPS2 : Hid (PassP F par0 par ch i (j + 1)) := Lib.hid (HPS.out.skip hil hjl (fun e => by rw [HFI.out, HFJ.out]; exact ⟨fun h => absurd h hp, fun h => absurd h hx⟩))
                      clear hp hx
                      go_wp2_with (go_at_call 42; refine (HFD.out _ (by assumption)).mono ?_; rintro e w' ⟨rfl, rfl⟩)
                      go_roundw
                      case rel => exact ⟨j + 1, ch, par, by omega, by go_num, rfl, HPS2, HS, HP2, HBX2⟩
                      case measure => simp [intOf]; omega
                · have hn3 : (((a3 : Nat) : Int) != ((b3 : Nat) : Int)) = true := by rw [bne_iff_ne]; omega
                  have HPS2 : Hid (PassP F par0 par ch i (j + 1)) := Lib.hid (HPS.out.skip hil hjl (fun e => by rw [HFI.out, HFJ.out] at e; exact absurd e h3))
                  clear h3
                  go_wp2_with fail
                  go_roundw
                  case rel => exact ⟨j + 1, ch, par, by omega, by go_num, rfl, HPS2, HS, HP2, HBX2⟩
                  case measure => simp [intOf]; omega
              · obtain rfl : j = i := by omega
                have HPS2 : Hid (PassP F par0 par ch (j + 1) 0) := Lib.hid HPS.out.row
                go_wp2_with fail
                go_roundw
                case rel => exact ⟨j + 1, ch, par, by omega, by go_num, rfl, HPS2, HS, HP⟩
                case measure => simp [intOf]; omega
          · obtain rfl : i = F.length := by omega
            cases ch
            · have HSH := Lib.hid HPS.out.shut
              have HR : Hid (RetPar F v w (.returned (.slice (some ⟨g, 0, none⟩) v pc)) wr) := Lib.hid ⟨g, pc, par, rfl, HP.out, HS.out, HSH.out.2⟩
              go_wp2_with fail
              go_ret
              exact HR.out
            · have HM1 : Hid (parSum wr g v < parSum wr0 g v) := Lib.hid (by
                have h := HP.out.sum
                rw [HS.out.len] at h
                rw [h, HM0.out]; exact HPS.out.1 rfl)
              go_wp2_with fail
              go_roundw
              case rel => exact ⟨par, HS, HP⟩
              case measure => exact HM1.out
end Go.Proofs.YtklbehapbchnaaaDoor
namespace Go.Proofs.YtklbehapbchnaaaDoor
open Go.RowKit
set_option linter.unusedVariables false
theorem Tryd.infoStr : (Tryd.prog.info? 9).map (fun i => (i.zero, i.size, i.bytes)) = some (some (.string ⟨#[]⟩), 1, 16) := by kernel_rfl
def strVals (l : List ByteArray) : List Value := l.map Value.string
theorem strVals_len (l : List ByteArray) : (strVals l).length = l.length := by simp [strVals]
theorem owns_strs {w : World} {base : Nat} {T : TypeId} {size : Nat} {a : Option Addr} {n m cap : Nat} {l : List ByteArray} (h : w.ownsRow base T size (.slice a m cap) n (strVals l)) : StrsIn w a l := owns_cells h
set_option maxHeartbeats 400000 in
theorem implJoin_any (l : List ByteArray) (sep : ByteArray) (a : Option Addr) (cap : Nat) (w : World) (hl : StrsIn w a l) (hs0 : 0 < sep.size) (hs1 : sep.size ≤ 1000) (hlen : l.length ≤ 2 ^ 40) (hcap : l.length ≤ cap ∧ cap ≤ maxLen)
    (hsz : (joinF l sep).size ≤ 2 ^ 46) :
    Calls Tryd.prog 28 #[.slice a l.length cap, .string sep] w fun e w' => e = .returned (.string (joinF l sep)) ∧ Below w.heap.size w w' := by
  have HJ := Lib.hid (join_any l sep a cap w hl hs0 hs1 hlen hcap hsz)
  clear hl hsz
  go_enter Tryd.func28, Tryd.ntmps28
  go_wp2_with fail
  refine HJ.out.mono ?_
  rintro e w2 ⟨rfl, hb2⟩
  go_wp2_with fail
  go_ret
  exact ⟨rfl, hb2⟩
end Go.Proofs.YtklbehapbchnaaaDoor
namespace Go.Proofs.YtklbehapbchnaaaDoor
open Go.RowKit
set_option linter.unusedVariables false
/-- the sizes of all -/
theorem sumTo_eq (l : List ByteArray) : ∀ j, j ≤ l.length → sumTo l j = ((l.take j).map ByteArray.size).sum
  | 0, _ => by simp [sumTo]
  | j + 1, h => by
    rw [sumTo, sumTo_eq l j (by omega), List.take_succ_eq_append_getElem (by omega), nthS_lt (by omega), List.map_append, List.sum_append]
    simp only [List.map_cons, List.map_nil, List.sum_cons, List.sum_nil, Nat.add_zero]
def strSum (l : List ByteArray) : Nat := (l.map ByteArray.size).sum
end Go.Proofs.YtklbehapbchnaaaDoor
namespace Go.Proofs.YtklbehapbchnaaaDoor
open Go.ChangeShapes Go.WideShapes Go.ChangeAt Go.RowKit Go.Joins Go.Deep
set_option linter.unusedVariables false
/-- all arguments read as they did, if below the old heap's size nothing has turned -/
theorem trodAll_below {H : Type} {enc : TypeId × Value → H} {P : Program} (hl : laidOutB P = true) {W W' : World} (hb : Below W.heap.size W W') :
    ∀ (ts : List TypeId) (vs : List Value) (ds : List (DataW H)) (ps : List MemPlace), (∀ t ∈ ts, P.readableRec t = true ∧ t < P.types.size) → (∀ x ∈ ps, x.block < W.heap.size) →
      DataW.TrodAll enc P W 0 (fun _ => true) true ts vs ds ps → DataW.TrodAll enc P W' 0 (fun b => decide (b < W.heap.size)) true ts vs ds ps
  | [], vs, ds, ps, _, _, h => by
    cases vs <;> cases ds <;> simp_all [DataW.TrodAll]
  | t :: ts, vs, ds, ps, hr, hp, h => by
    cases vs with
    | nil => cases ds <;> simp [DataW.TrodAll] at h
    | cons v vs =>
      cases ds with
      | nil => simp [DataW.TrodAll] at h
      | cons d ds =>
        obtain ⟨p, p', h1, h2, rfl⟩ := h
        exact ⟨p, p', Below.trod hl (hr t (by simp)).1 (hr t (by simp)).2 h1 hb (fun x hx => hp x (by simp [hx])),
          trodAll_below hl hb ts vs ds p' (fun t' ht' => hr t' (by simp [ht'])) (fun x hx => hp x (by simp [hx])) h2, rfl⟩
/-- what a law's row asks behind the walk -/
theorem law_post {H : Type} {enc : TypeId × Value → H} {P : Program} {f : Func} {s : ChangeSpec} {W W' : World} {args : Array Value} {ds : List (DataW H)} {before : List MemPlace} {tb : TypeId}
    (hl : laidOutB P = true) (hr : ∀ t ∈ f.params.toList, P.readableRec t = true ∧ t < P.types.size) (hv : s.vars = [])
    (hW : DataW.Whole enc P f.params.toList s.vars false W args.toList ds [] before) (hft : f.resultTypes = #[tb]) (htb : P.underlying tb = some .bool)
    (hfn : s.fn H (ds ++ []) = { results := [.lit (.bool true)], args := ds }) (hb : Below W.heap.size W W') :
    s.post enc P f false true false false W args (.bool true) W' := by
  have hW' := hW
  obtain ⟨p, q, hA0, hV, hpq, hfz, hnd⟩ := hW'
  rw [hv] at hV
  obtain ⟨_, rfl⟩ := trodVars_none hV
  simp only [List.append_nil] at hpq
  subst hpq
  have hlt : ∀ x ∈ before, x.block < W.heap.size := fun x hx => hW.lt x hx
  refine ⟨ds, [], before, [], before, [], hW, ?_, ?_, ?_, ?_, fun h => by cases h⟩
  · rw [hfn, hft]
    exact trodAll_cons_mk (shut_bool htb _) trodAll_mk0
  · rw [hfn]
    exact trodAll_below hl hb _ _ _ _ hr hlt hA0
  · rw [hfn, hv]
    rfl
  · exact hb.frame _
end Go.Proofs.YtklbehapbchnaaaDoor
namespace Go.Proofs.YtklbehapbchnaaaDoor
open Go.RowKit Go.ChangeShapes Go.WideShapes Go.ChangeAt
set_option linter.unusedVariables false
theorem strSum_take (l : List ByteArray) {j : Nat} (h : j ≤ l.length) : sumTo l j ≤ strSum l := by
  have := sumTo_mono l h
  rw [sumTo_eq l l.length (Nat.le_refl _), List.take_of_length_le (Nat.le_refl _)] at this
  exact this
theorem strSum_all (l : List ByteArray) : sumTo l l.length = strSum l := by
  rw [sumTo_eq l l.length (Nat.le_refl _), List.take_of_length_le (Nat.le_refl _)]; rfl
/-- what szStringS hands back -/
def szF (left : Int) (l : List ByteArray) : Int := if left < (l.length : Int) + strSum l then -1 else left - l.length - strSum l
theorem szF_big {left : Int} {l : List ByteArray} (h : left < (l.length : Int) + strSum l) : szF left l = -1 := by simp [szF, h]
theorem szF_ok {left : Int} {l : List ByteArray} (h : ¬ left < (l.length : Int) + strSum l) : szF left l = left - l.length - strSum l := by simp only [szF, if_neg h]
set_option maxHeartbeats 400000 in
theorem szStringS_any (l : List ByteArray) (a : Option Addr) (cap : Nat) (left : Int) (w : World) (hl : StrsIn w a l) (hn : l.length ≤ 9223372036854775807) (hm : ∀ j, j < l.length → (nthS l j).size ≤ maxLen) (h0 : 0 ≤ left) (h1 : left ≤ 1048576) :
    Calls Tryd.prog 10 #[.slice a l.length cap, .int .i64 left] w fun e w' => e = .returned (.int .i64 (szF left l)) ∧ w = w' := by
  by_cases hlt : left < (l.length : Int)
  · have F := Lib.hid (szF_big (l := l) (left := left) (by omega))
    go_enter Tryd.func10, Tryd.ntmps10
    go_wp2_with fail
    go_ret
    exact ⟨ret_int F.out.symm, rfl⟩
  · have HL := Lib.hid hl
    have HM := Lib.hid hm
    clear hl hm
    go_enter Tryd.func10, Tryd.ntmps10
    go_wp2_with fail
    go_loopw [1, 5] (fun s i wr => ∃ (j : Nat) (x : Int), j ≤ l.length ∧ i = .int .i64 j ∧ s = .int .i64 x ∧ x = left - l.length - sumTo l j ∧ 0 ≤ x ∧ wr = w) (fun _ i _ => l.length - (intOf i).toNat)
    case atStart => exact ⟨0, _, Nat.zero_le _, rfl, rfl, by simp [sumTo], by omega, rfl⟩
    case round =>
      obtain ⟨j, x, hj, rfl, rfl, hx, hx0, rfl⟩ := hrel
      by_cases hlj : j < l.length
      · obtain ⟨b, off, rfl, hb, hc⟩ := HL.out.cell hlj
        have c1 := hc j hlj
        have hsz := HM.out j hlj
        unfold maxLen at hsz
        have hs : sumTo l (j + 1) = sumTo l j + (nthS l j).size := rfl
        have hle := strSum_take l (show j + 1 ≤ l.length from hlj)
        clear hc
        have HX := Lib.hid hx
        have hx1 : x ≤ 1048576 := by omega
        clear hx
        by_cases hneg : x - (nthS l j).size < 0
        · have F := Lib.hid (szF_big (l := l) (left := left) (by have := HX.out; omega))
          clear hs hle
          go_wp2_with fail
          go_ret
          exact ⟨ret_int F.out.symm, rfl⟩
        · have HX2 : Hid (x - (nthS l j).size = left - l.length - sumTo l (j + 1)) := Lib.hid (by have := HX.out; omega)
          clear hs hle
          go_wp2_with fail
          go_roundw
          case rel => exact ⟨j + 1, _, by omega, by go_num, rfl, HX2.out, by omega, trivial⟩
          case measure => simp [intOf]; omega
      · obtain rfl : j = l.length := by omega
        have ha := strSum_all l
        have F := Lib.hid (szF_ok (l := l) (left := left) (by omega))
        have F2 : Hid (x = szF left l) := Lib.hid (by rw [F.out]; omega)
        clear ha hx
        go_wp2_with fail
        go_ret
        exact ⟨ret_int F2.out, rfl⟩
set_option maxHeartbeats 400000 in
theorem toStringS_any (l : List ByteArray) (a : Option Addr) (cap : Nat) (w : World) (hl : StrsIn w a l) (hlen : l.length ≤ 2097152) :
    Calls Tryd.prog 12 #[.slice a l.length cap] w (RetSl 9 1 l.length (strVals l) w) := by
  have hmk := run_make_row' (P := Tryd.prog) 28 9 (.string ⟨#[]⟩) 16 Tryd.underlying28 Tryd.infoStr rfl .i64 .i64 l.length (by omega) (by omega)
  go_enter Tryd.func12, Tryd.ntmps12
  go_wp2_with fail
  clear hmk
  have HF := Filling.start w 9 (madeCells #[.string ⟨#[]⟩] l.length) l.length (strVals l) (size_madeCells _ _) (by unfold maxLen; omega) (strVals_len l)
  have hl1 := hl.later ((Below.refl _ _).alloc (Nat.le_refl _) (.cells (madeCells #[.string ⟨#[]⟩] l.length) 9))
  generalize (w.alloc (.cells (madeCells #[.string ⟨#[]⟩] l.length) 9)) = w1 at *
  obtain ⟨g, hg⟩ : ∃ g, w.heap.size = g := ⟨_, rfl⟩
  rw [hg] at HF
  rw [hg]
  have HG := Lib.hid hg
  clear hg
  go_loopw [4] (fun i wr => ∃ j : Nat, j ≤ l.length ∧ i = .int .i64 j ∧ Filling w wr 9 g l.length (strVals l) j) (fun i _ => l.length - (intOf i).toNat)
  case atStart => exact ⟨0, Nat.zero_le _, rfl, HF⟩
  case round =>
    clear HF
    obtain ⟨j, hj, rfl, HF⟩ := hrel
    by_cases hlt : j < l.length
    · obtain ⟨v, hv⟩ := HF.cell hlt
      have hz := HF.frozen j
      obtain ⟨b, off, rfl, hb, hc⟩ := hl.cell hlt
      have h1 : wr.cell? ⟨b, off + j, none⟩ = some (.string (nthS l j)) := by
        obtain ⟨xs, ho, ht, hbel, hg, hl'⟩ := HF
        rw [hbel.cell hb]; exact hc j hlt
      have HF2 := Lib.hid (HF.store hlt (u := .string (nthS l j)) (by simp [strVals, hlt, nthS_lt hlt]))
      clear HF hc
      go_wp2_with fail
      go_roundw
      case rel => exact ⟨j + 1, by omega, by go_num, HF2.out⟩
      case measure => simp [intOf]; omega
    · have HF2 := Lib.hid (HF.done hlt)
      clear HF
      go_wp2_with fail
      go_ret
      exact HF2.out
set_option maxHeartbeats 400000 in
/-- eqStringS of two slices that hold the same strings -/
theorem eqStringS_same (l : List ByteArray) (a1 a2 : Option Addr) (c1 c2 : Nat) (w : World) (h1 : StrsIn w a1 l) (h2 : StrsIn w a2 l) (hlen : l.length ≤ 2 ^ 47) :
    Calls Tryd.prog 14 #[.slice a1 l.length c1, .slice a2 l.length c2] w fun e w' => e = .returned (.bool true) ∧ Below w.heap.size w w' := by
  go_enter Tryd.func14, Tryd.ntmps14
  go_wp2
  go_loopw [5] (fun i wr => ∃ j : Nat, j ≤ l.length ∧ i = .int .i64 j ∧ Below w.heap.size w wr) (fun i _ => l.length - (intOf i).toNat)
  case atStart => exact ⟨0, Nat.zero_le _, rfl, Below.refl _ _⟩
  case round =>
    obtain ⟨j, hj, rfl, hbel⟩ := hrel
    by_cases hlt : j < l.length
    · obtain ⟨b1, o1, rfl, hb1, hc1⟩ := (h1.later hbel).cell hlt
      obtain ⟨b2, o2, rfl, hb2, hc2⟩ := (h2.later hbel).cell hlt
      have g1 := hc1 j hlt
      have g2 := hc2 j hlt
      clear hc1 hc2
      go_wp2
      go_quiet (fail)
      have hbel2 : Below w.heap.size w (wr.drewN nq) := below_drewN hbel _
      clear hbel g1 g2
      go_wp2
      go_roundw
      case rel => exact ⟨j + 1, by omega, by go_num, hbel2⟩
      case measure => simp [intOf]; omega
    · go_wp2
      go_ret
      exact ⟨rfl, hbel⟩
/-- a slice of strings that came in -/
theorem open_strsIn {H : Type} {enc : TypeId × Value → H} {P : Program} {w : World} {r : Reach} {b0 : Nat} {t e : TypeId} {v : Value} {d : DataW H} {p : List MemPlace} (ht : P.underlying t = some (.slice e)) (he : P.underlying e = some .string) (hc : P.cellsOf e = 1)
    (hv : Value.okWide P w r b0 t v) (h : DataW.Trod enc P w 0 (fun _ => true) true t v d p) : ∃ a l cap, v = .slice a l.length cap ∧ StrsIn w a l ∧ l.length ≤ 9223372036854775807 ∧ ∀ j, j < l.length → (nthS l j).size ≤ maxLen := by
  obtain ⟨a0, len0, cap0, rfl⟩ := okWide_slice ht hv
  obtain ⟨fuel, hf⟩ := h
  rcases open_strings ht he hc hf with ⟨hcs, _⟩ | ⟨a, len, cap, ss, hcs, _, hl, hm, hz, _, hcell, hsz⟩
  · have e : (Value.slice a0 len0 cap0) = .slice none 0 0 := by simpa [Value.cells] using hcs
    rw [e]
    exact ⟨none, [], 0, rfl, .inl rfl, by simp, fun j hj => absurd hj (by simp)⟩
  · have e : (Value.slice a0 len0 cap0) = .slice (some a) len cap := by simpa [Value.cells] using hcs
    rw [e]
    simp only [if_true] at hz
    have hlen : (ss.take len).length = len := by rw [List.length_take]; omega
    have hat : ∀ j, j < len → nthS (ss.take len) j = ss.getD j ByteArray.empty := fun j hj => by
      rw [nthS_lt (by omega), List.getD_eq_getElem?_getD, List.getElem?_eq_getElem (by omega)]
      simp
    refine ⟨some a, ss.take len, cap, by rw [hlen], ?_, by rw [hlen]; unfold maxLen at hm; omega, fun j hj => ?_⟩
    · by_cases h0 : len = 0
      · left; subst h0; simp
      · obtain ⟨b, off, spot⟩ := a
        have hspot : spot = none := by simpa [Addr.add] using World.cell?_spot (hcell 0 (by omega))
        subst hspot
        right
        refine ⟨b, off, rfl, fun i hi => ?_⟩
        rw [List.length_map, hlen] at hi
        have := hcell i (by omega)
        rw [add_plain] at this
        rw [this, List.getElem_map, ← nthS_lt (by omega), hat i hi]
    · rw [hlen] at hj
      rw [hat j hj, List.getD_eq_getElem?_getD, List.getElem?_eq_getElem (by omega)]
      exact hsz _ (List.getElem_mem _)
end Go.Proofs.YtklbehapbchnaaaDoor
namespace Go.Proofs.YtklbehapbchnaaaDoor
open Go.RowKit
set_option linter.unusedVariables false
def nxtM (v l : Nat) (bk : Bool) (a : Arc3) : Bool := a.2.2 == l && (if bk then a.2.1 == v else a.1 == v)
def nxtE (bk : Bool) (a : Arc3) : Nat := if bk then a.1 else a.2.1
def nxtV (L : List Arc3) (v l : Nat) (bk : Bool) : Option Nat := (L.find? (nxtM v l bk)).map (nxtE bk)
def optZ : Option Nat → Int
  | none => -1
  | some u => ((u : Nat) : Int)
theorem nxtV_at {L : List Arc3} {v l : Nat} {bk : Bool} {i : Nat} (hi : i < L.length) (h : nxtM v l bk L[i] = true) (hn : ∀ k (hk : k < L.length), k < i → nxtM v l bk L[k] = false) : nxtV L v l bk = some (nxtE bk L[i]) := by
  unfold nxtV
  have : L.find? (nxtM v l bk) = some L[i] := List.find?_eq_some_iff_getElem.2 ⟨h, i, hi, rfl, fun j hj => by rw [hn j (by omega) hj]; rfl⟩
  rw [this]; rfl
theorem nxtV_none {L : List Arc3} {v l : Nat} {bk : Bool} (hn : ∀ k (hk : k < L.length), nxtM v l bk L[k] = false) : nxtV L v l bk = none := by
  unfold nxtV
  have : L.find? (nxtM v l bk) = none := List.find?_eq_none.2 fun a ha => by
    obtain ⟨k, hk, rfl⟩ := List.mem_iff_getElem.1 ha
    rw [hn k hk]; exact Bool.false_ne_true
  rw [this]; rfl
theorem nxtV_eq (g : Nat) (L : List Arc3) (v x : Nat) : nxtV L v (x % g) (decide (g ≤ x)) = nxA g L v x := by
  unfold nxtV nxA
  have e1 : nxtM v (x % g) (decide (g ≤ x)) = nxP g v x := by
    funext a
    unfold nxtM nxP
    by_cases h : g ≤ x
    · have h2 : ¬ x < g := by omega
      simp [h, h2]
    · have h2 : x < g := by omega
      simp [h, h2]
  have e2 : nxtE (decide (g ≤ x)) = nxE g x := by
    funext a
    unfold nxtE nxE
    by_cases h : g ≤ x
    · have h2 : ¬ x < g := by omega
      simp [h, h2]
    · have h2 : x < g := by omega
      simp [h, h2]
  rw [e1, e2]
theorem nxtM_f {v l : Nat} {a : Arc3} (h3 : a.2.2 = l) : nxtM v l false a = decide (a.1 = v) := by
  unfold nxtM; rw [beq_iff_eq.2 h3]; simp [Bool.beq_eq_decide_eq]
theorem nxtM_b {v l : Nat} {a : Arc3} (h3 : a.2.2 = l) : nxtM v l true a = decide (a.2.1 = v) := by
  unfold nxtM; rw [beq_iff_eq.2 h3]; simp [Bool.beq_eq_decide_eq]
theorem nxtM_no {v l : Nat} {bk : Bool} {a : Arc3} (h3 : a.2.2 ≠ l) : nxtM v l bk a = false := by
  unfold nxtM; rw [beq_eq_false_iff_ne.2 h3]; rfl
set_option maxRecDepth 20000 in
set_option maxHeartbeats 2000000 in
theorem l25Next_any (L : List Arc3) (av : Option Addr) (cap v l : Nat) (bk : Bool) (w : World) (hL : ArcsIn w av L) (hl : L.length ≤ 200) :
    Calls Tryd.prog 64 #[.slice av L.length cap, .int .i64 (v : Nat), .int .i64 (l : Nat), .bool bk] w fun e w' => e = .returned (.int .i64 (optZ (nxtV L v l bk))) ∧ Below w.heap.size w w' := by
  have HL := Lib.hid hL
  have HB0 : Hid (Below w.heap.size w w) := Lib.hid (Below.refl _ _)
  clear hL
  go_enter Tryd.func64, Tryd.ntmps64
  go_wp2_with fail
  go_loopw [13] (fun v13 wr => ∃ i : Nat, i ≤ L.length ∧ v13 = .int .i64 (i : Nat) ∧ Hid (∀ k (hk : k < L.length), k < i → nxtM v l bk L[k] = false) ∧ Hid (Below w.heap.size w wr)) (fun v13 _ => L.length - (intOf v13).toNat)
  case atStart => exact ⟨0, Nat.zero_le _, rfl, Lib.hid (fun k hk h => by omega), HB0⟩
  case round =>
    clear HB0
    obtain ⟨i, hi, rfl, HN, HB⟩ := hrel
    by_cases hil : i < L.length
    · obtain ⟨b, off, rfl, hb, hc⟩ := arc_cells (RowsIn.later HL.out HB.out) hil
      obtain ⟨c0, c1, c2⟩ := hc i hil
      have hii : (i : Int) < (L.length : Int) := by omega
      have HAT := Lib.hid (fun h => nxtV_at (v := v) (l := l) (bk := bk) hil h HN.out)
      have HNX : Hid (nxtM v l bk L[i] = false → ∀ k (hk : k < L.length), k < i + 1 → nxtM v l bk L[k] = false) := Lib.hid (fun h k hk hk2 => by
        by_cases e : k = i
        · subst e; exact h
        · exact HN.out k hk (by omega))
      have HB2 : Hid (∀ o, Below w.heap.size w (wr.alloc o)) := Lib.hid (fun o => HB.out.alloc HB.out.size o)
      have HM : Hid (nxtM v l bk L[i] = nxtM v l bk L[i]) := Lib.hid rfl
      clear hc hb
      generalize L[i] = a at *
      obtain ⟨a1, a2, a3⟩ := a
      simp only [] at c0 c1 c2
      by_cases h3 : a3 = l
      · subst h3
        cases bk
        · by_cases h1 : a1 = v
          · subst h1
            have F : Hid (nxtV L a1 a3 false = some a2) := Lib.hid (HAT.out ((nxtM_f (a := (a1, a2, a3)) rfl).trans (by simp)))
            go_wp2_with fail
            go_ret
            exact ⟨by rw [F.out]; rfl, HB2.out _⟩
          · have h1b : (((a1 : Nat) : Int) == ((v : Nat) : Int)) = false := by rw [beq_eq_false_iff_ne]; omega
            have F := Lib.hid (HNX.out ((nxtM_f (a := (a1, a2, a3)) rfl).trans (by simpa using h1)))
            clear h1
            go_wp2_with fail
            go_roundw
            case rel => exact ⟨i + 1, by omega, by go_num, F, Lib.hid (HB2.out _)⟩
            case measure => simp [intOf]; omega
        · by_cases h1 : a2 = v
          · subst h1
            have F : Hid (nxtV L a2 a3 true = some a1) := Lib.hid (HAT.out ((nxtM_b (a := (a1, a2, a3)) rfl).trans (by simp)))
            go_wp2_with fail
            go_ret
            exact ⟨by rw [F.out]; rfl, HB2.out _⟩
          · have h1b : (((a2 : Nat) : Int) == ((v : Nat) : Int)) = false := by rw [beq_eq_false_iff_ne]; omega
            have F := Lib.hid (HNX.out ((nxtM_b (a := (a1, a2, a3)) rfl).trans (by simpa using h1)))
            clear h1
            go_wp2_with fail
            go_roundw
            case rel => exact ⟨i + 1, by omega, by go_num, F, Lib.hid (HB2.out _)⟩
            case measure => simp [intOf]; omega
      · have h3b : (((a3 : Nat) : Int) == ((l : Nat) : Int)) = false := by rw [beq_eq_false_iff_ne]; omega
        have F := Lib.hid (HNX.out (nxtM_no h3))
        clear h3
        go_wp2_with fail
        go_roundw
        case rel => exact ⟨i + 1, by omega, by go_num, F, Lib.hid (HB2.out _)⟩
        case measure => simp [intOf]; omega
    · obtain rfl : i = L.length := by omega
      have F : Hid (nxtV L v l bk = none) := Lib.hid (nxtV_none fun k hk => HN.out k hk hk)
      go_wp2_with fail
      go_ret
      exact ⟨by rw [F.out]; rfl, HB.out⟩
end Go.Proofs.YtklbehapbchnaaaDoor
