/-
  Two arcs that meet, of the program.
-/
import Derived.Test.YtklbehapbchnaaaDoorFol07
import Derived.Test.YtklbehapbchnaaaDoorFol08
namespace Go.Proofs.YtklbehapbchnaaaDoor
open Go.RowKit
set_option linter.unusedVariables false
def RetMt (G : List Arc3) (w : World) (e : Ending) (w' : World) : Prop := Below w.heap.size w w' ∧ ((∃ v u : Nat, e = .returned (.tuple #[.int .i64 ((v : Nat) : Int), .int .i64 ((u : Nat) : Int), .bool true]) ∧ MetA G v u) ∨ (e = .returned (.tuple #[.int .i64 0, .int .i64 0, .bool false]) ∧ ∀ a ∈ G, ∀ b ∈ G, meetA a b = false))
set_option maxRecDepth 20000 in
set_option maxHeartbeats 4000000 in
theorem meetingArcs_any (G : List Arc3) (av : Option Addr) (cap : Nat) (w : World) (hL : ArcsIn w av G) (hcap : G.length ≤ cap) (hl : G.length ≤ 1000) :
    Calls Tryd.prog 68 #[.slice av G.length cap] w (RetMt G w) := by
  have HL := Lib.hid hL
  have HB0 : Hid (Below w.heap.size w w) := Lib.hid (Below.refl _ _)
  have HN0 : Hid (NoMeet G 0 0) := Lib.hid (NoMeet.start G)
  clear hL
  go_enter Tryd.func68, Tryd.ntmps68
  go_wp2_with fail
  go_loopw [11] (fun v11 wr => ∃ i : Nat, i ≤ G.length ∧ v11 = .int .i64 (i : Nat) ∧ Hid (NoMeet G i 0) ∧ Hid (Below w.heap.size w wr)) (fun v11 _ => G.length - (intOf v11).toNat)
  case atStart => exact ⟨0, Nat.zero_le _, rfl, HN0, HB0⟩
  case round =>
    clear HB0 HN0
    obtain ⟨i, hi, rfl, HN, HB⟩ := hrel
    by_cases hil : i < G.length
    · obtain ⟨b0, off, rfl, hb0, hc⟩ := arc_cells (RowsIn.later HL.out HB.out) hil
      obtain ⟨c0, c1, c2⟩ := hc i hil
      have hii : (i : Int) < (G.length : Int) := by omega
      have hicap : (i : Int) ≤ (cap : Int) := by omega
      have HBX := Lib.hid (BoxA.new wr G[i])
      have HB1 : Hid (∀ o, Below w.heap.size w (wr.alloc o)) := Lib.hid (fun o => HB.out.alloc HB.out.size o)
      have HCA : Hid (∀ W, Below w.heap.size w W → ∀ j (hj : j < G.length), W.cell? ⟨b0, off + j * 3, none⟩ = some (.int .i64 ((G[j].1 : Nat) : Int)) ∧ W.cell? ⟨b0, off + j * 3 + 1, none⟩ = some (.int .i64 ((G[j].2.1 : Nat) : Int)) ∧ W.cell? ⟨b0, off + j * 3 + 2, none⟩ = some (.int .i64 ((G[j].2.2 : Nat) : Int))) := Lib.hid (fun W hW j hj => by
        obtain ⟨b1, o1, e, _, hc1⟩ := arc_cells (RowsIn.later HL.out hW) hj
        simp only [Option.some.injEq, Addr.mk.injEq, and_true] at e
        obtain ⟨rfl, rfl⟩ := e
        exact hc1 j hj)
      obtain ⟨⟨a1, a2, a3⟩, hfi⟩ : ∃ a, G[i] = a := ⟨_, rfl⟩
      rw [hfi] at c0 c1 c2 HBX
      have HFI := Lib.hid hfi
      have HB2 := Lib.hid (HB1.out (.cells #[.int .i64 ((a1 : Nat) : Int), .int .i64 ((a2 : Nat) : Int), .int .i64 ((a3 : Nat) : Int)] 66))
      clear hc hfi hb0 HB1
      go_wp2_with fail
      generalize wr.heap.size = Ba at *
      generalize wr.alloc (.cells #[.int .i64 ((a1 : Nat) : Int), .int .i64 ((a2 : Nat) : Int), .int .i64 ((a3 : Nat) : Int)] 66) = wa at *
      clear c0 c1 c2 HB
      go_loopw [20] (fun v20 wr => ∃ j : Nat, j ≤ i ∧ v20 = .int .i64 (j : Nat) ∧ Hid (NoMeet G i j) ∧ Hid (Below wa.heap.size wa wr)) (fun v20 _ => i - (intOf v20).toNat)
      case atStart => exact ⟨0, Nat.zero_le _, rfl, HN, Lib.hid (Below.refl _ _)⟩
      case round =>
        clear HN
        obtain ⟨j, hj, rfl, HN, HBJ⟩ := hrel
        by_cases hji : j < i
        · have hjl : j < G.length := by omega
          have hjj : (j : Int) < (i : Int) := by omega
          obtain ⟨d0, d1, d2⟩ := HCA.out wr (Below.now HB2.out HBJ.out) j hjl
          have HNS := Lib.hid (fun h => HN.out.step hil hjl h)
          have HMF := Lib.hid (fun h3 h1 h2 => MetA.fwd hil hjl h3 h1 h2)
          have HMB := Lib.hid (fun h3 h1 h2 => MetA.bwd hil hjl h3 h1 h2)
          obtain ⟨⟨b1, b2, b3⟩, hfj⟩ : ∃ b, G[j] = b := ⟨_, rfl⟩
          rw [hfj] at d0 d1 d2
          rw [HFI.out, hfj] at HNS HMF HMB
          have HBY := Lib.hid (BoxA.new wr (b1, b2, b3))
          have hal : Below wr.heap.size wr (wr.alloc (.cells #[.int .i64 ((b1 : Nat) : Int), .int .i64 ((b2 : Nat) : Int), .int .i64 ((b3 : Nat) : Int)] 66)) := (Below.refl _ wr).alloc (Nat.le_refl _) _
          have HBX2 := Lib.hid ((HBX.out.later HBJ.out).later hal)
          have HBJ2 := Lib.hid (Below.now HBJ.out hal)
          clear hfj hal
          go_upto_region 7 with fail
          generalize wr.heap.size = Bb at *
          generalize wr.alloc (.cells #[.int .i64 ((b1 : Nat) : Int), .int .i64 ((b2 : Nat) : Int), .int .i64 ((b3 : Nat) : Int)] 66) = wb at *
          clear d0 d1 d2
          obtain ⟨e0, e1, e2⟩ := HBX2.out.2
          obtain ⟨f0, f1, f2⟩ := HBY.out.2
          simp only [] at e0 e1 e2 f0 f1 f2
          by_cases h3 : a3 = b3
          · have hn3 : (((a3 : Nat) : Int) != ((b3 : Nat) : Int)) = false := by rw [bne_eq_false_iff_eq]; omega
            by_cases h1 : a1 = b1 ∧ a2 ≠ b2
            · have k1 : (((a1 : Nat) : Int) == ((b1 : Nat) : Int)) = true := by rw [beq_iff_eq]; omega
              have k2 : (((a2 : Nat) : Int) != ((b2 : Nat) : Int)) = true := by rw [bne_iff_ne]; omega
              have F : Hid (RetMt G w (.returned (.tuple #[.int .i64 ((a2 : Nat) : Int), .int .i64 ((b2 : Nat) : Int), .bool true])) wb.drew) := Lib.hid ⟨(Below.now HB2.out HBJ2.out).drew, .inl ⟨a2, b2, rfl, HMF.out h3 h1.1 h1.2⟩⟩
              clear h3 h1
              go_wp2_with fail
              go_region
              all_goals
                go_wp2_with fail
                refine bodyPost_ret (v := .tuple #[.int .i64 ((a2 : Nat) : Int), .int .i64 ((b2 : Nat) : Int), .bool true]) ?_ rfl F.out
                simp [results, Tryd.results68, go_sem]
            · by_cases h2 : a2 = b2 ∧ a1 ≠ b1
              · have k1 : (((a1 : Nat) : Int) == ((b1 : Nat) : Int)) = false := by rw [beq_eq_false_iff_ne]; omega
                have k2 : (((a2 : Nat) : Int) == ((b2 : Nat) : Int)) = true := by rw [beq_iff_eq]; omega
                have k3 : (((a1 : Nat) : Int) != ((b1 : Nat) : Int)) = true := by rw [bne_iff_ne]; omega
                have F : Hid (RetMt G w (.returned (.tuple #[.int .i64 ((a1 : Nat) : Int), .int .i64 ((b1 : Nat) : Int), .bool true])) wb.drew) := Lib.hid ⟨(Below.now HB2.out HBJ2.out).drew, .inl ⟨a1, b1, rfl, HMB.out h3 h2.1 h2.2⟩⟩
                clear h3 h1 h2
                go_wp2_with fail
                go_region
                all_goals
                  go_wp2_with fail
                  refine bodyPost_ret (v := .tuple #[.int .i64 ((a1 : Nat) : Int), .int .i64 ((b1 : Nat) : Int), .bool true]) ?_ rfl F.out
                  simp [results, Tryd.results68, go_sem]
              · have HN2 : Hid (NoMeet G i (j + 1)) := Lib.hid (HNS.out (meetA_no h1 h2))
                by_cases q1 : a1 = b1
                · have q2 : a2 = b2 := Classical.byContradiction fun h => h1 ⟨q1, h⟩
                  have k1 : (((a1 : Nat) : Int) == ((b1 : Nat) : Int)) = true := by rw [beq_iff_eq]; omega
                  have k2 : (((a2 : Nat) : Int) != ((b2 : Nat) : Int)) = false := by rw [bne_eq_false_iff_eq]; omega
                  have k3 : (((a2 : Nat) : Int) == ((b2 : Nat) : Int)) = true := by rw [beq_iff_eq]; omega
                  have k4 : (((a1 : Nat) : Int) != ((b1 : Nat) : Int)) = false := by rw [bne_eq_false_iff_eq]; omega
                  clear h3 h1 h2 q1 q2
                  go_wp2_with fail
                  go_roundw
                  case rel => exact ⟨j + 1, by omega, by go_num, HN2, HBJ2⟩
                  case measure => simp [intOf]; omega
                · have q2 : a2 ≠ b2 := fun h => h2 ⟨h, q1⟩
                  have k1 : (((a1 : Nat) : Int) == ((b1 : Nat) : Int)) = false := by rw [beq_eq_false_iff_ne]; omega
                  have k3 : (((a2 : Nat) : Int) == ((b2 : Nat) : Int)) = false := by rw [beq_eq_false_iff_ne]; omega
                  clear h3 h1 h2 q1 q2
                  go_wp2_with fail
                  go_roundw
                  case rel => exact ⟨j + 1, by omega, by go_num, HN2, HBJ2⟩
                  case measure => simp [intOf]; omega
          · have hn3 : (((a3 : Nat) : Int) != ((b3 : Nat) : Int)) = true := by rw [bne_iff_ne]; omega
            have HN2 : Hid (NoMeet G i (j + 1)) := Lib.hid (HNS.out (meetA_far h3))
            clear h3
            go_wp2_with fail
            go_roundw
            case rel => exact ⟨j + 1, by omega, by go_num, HN2, HBJ2⟩
            case measure => simp [intOf]; omega
        · have HN2 : Hid (NoMeet G (i + 1) 0) := Lib.hid (by
            obtain rfl : j = i := by omega
            exact HN.out.row)
          have HB3 := Lib.hid (Below.now HB2.out HBJ.out)
          go_wp2_with fail
          go_roundw
          case rel => exact ⟨i + 1, by omega, by go_num, HN2, HB3⟩
          case measure => simp [intOf]; omega
    · have F : Hid (RetMt G w (.returned (.tuple #[.int .i64 0, .int .i64 0, .bool false])) wr) := Lib.hid ⟨HB.out, .inr ⟨rfl, by
        obtain rfl : i = G.length := by omega
        exact HN.out.all⟩⟩
      go_wp2_with fail
      refine bodyPost_ret (v := .tuple #[.int .i64 0, .int .i64 0, .bool false]) ?_ rfl F.out
      simp [results, Tryd.results68, go_sem]
end Go.Proofs.YtklbehapbchnaaaDoor
