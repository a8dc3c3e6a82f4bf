/-
  The sorting system of two letters, on the specification's side.
-/
import Derived.Test.YtldkghfnlkbmpaaSortSys
namespace Go.Proofs.Ytldkghfnlkbmpaa
open Go.RowKit
set_option linter.unusedVariables false
set_option maxRecDepth 20000 in
set_option maxHeartbeats 4000000 in
theorem specSorting2 (w : World) : Calls Try.prog 38 #[.int .i64 2] w (RetSys w) := by
  have hin : inB 2 1 4 = true := by decide
  have HI := Lib.hid hin
  have HL0 : Hid (∀ W, Calls Try.prog 72 #[.int .i64 0] W fun e w' => e = .returned (.string (letterN 0)) ∧ Below W.heap.size W w') := Lib.hid (fun W => l13Letter_any 0 W (by omega))
  have HL1 : Hid (∀ W, Calls Try.prog 72 #[.int .i64 1] W fun e w' => e = .returned (.string (letterN 1)) ∧ Below W.heap.size W w') := Lib.hid (fun W => l13Letter_any 1 W (by omega))
  have HBA : Hid ([.string (letterN 1 ++ letterN 0), .string (letterN 0 ++ letterN 1)] = ruleCells) := Lib.hid rfl
  have hz1 : (letterN 1).size = 1 := rfl
  have hz0 : (letterN 0).size = 1 := rfl
  generalize letterN 1 = p1 at *
  generalize letterN 0 = p0 at *
  have hA : ¬ 9223372036854775807 < p1.size + p0.size := by omega
  have hB : ¬ 9223372036854775807 < p0.size + p1.size := by omega
  have M1 : Hid (∀ u ∈ [Value.string (p1 ++ p0), .string (p0 ++ p1)], u.oneCell' = true) := Lib.hid (fun u hu => by simp at hu; rcases hu with rfl | rfl <;> rfl)
  have N3 : Hid (0 + 1 ≤ maxLen) := Lib.hid (by unfold maxLen; omega)
  have N4 : Hid ((0 + 1) * 32 ≤ 140737488355328) := Lib.hid (by omega)
  clear hin
  go_enter Try.func38, Try.ntmps38
  go_wp2_with (go_at_call 70; refine (l01In_any _ _ _ _).mono ?_; rintro e w' ⟨h9, hw9⟩; rw [HI.out] at h9; subst h9; obtain rfl := hw9)
  have h1 := two_lo w (.cells #[.int .i64 0, .slice none 0 0] 24) (.cells #[.int .i64 2, .slice none 0 0] 24)
  have h2 := two_hi w (.cells #[.int .i64 0, .slice none 0 0] 24) (.cells #[.int .i64 2, .slice none 0 0] 24)
  have hb0 : Below w.heap.size w ((w.alloc (.cells #[.int .i64 0, .slice none 0 0] 24)).alloc (.cells #[.int .i64 2, .slice none 0 0] 24)) := ((Below.refl _ _).alloc (Nat.le_refl _) _).alloc (by simp) _
  have hsz : ((w.alloc (.cells #[.int .i64 0, .slice none 0 0] 24)).alloc (.cells #[.int .i64 2, .slice none 0 0] 24)).heap.size = w.heap.size + 2 := by simp
  generalize ((w.alloc (.cells #[.int .i64 0, .slice none 0 0] 24)).alloc (.cells #[.int .i64 2, .slice none 0 0] 24)) = W0 at *
  have XC : Hid (∀ W, Below W0.heap.size W0 W → W.cell? ⟨w.heap.size + 1, 1, none⟩ = some (.slice none 0 0) ∧ W.frozen? ⟨w.heap.size + 1, 1, none⟩ = false) := Lib.hid (fun W hW => by
    have h3 : W.heap[w.heap.size + 1]? = _ := (hW.block _ (by omega)).trans h2
    exact ⟨(cells_of h3).2.1, (cells_of h3).2.2.2⟩)
  have MP : Hid (∀ (w1 w4 : World) (g c : Nat), Below W0.heap.size W0 w1 → w1.grownBy w4 (Value.slice none 0 0).ownBlock → w4.ownsRow (w.heap.size + 2) 82 2 (.slice (some ⟨g, 0, none⟩) (0 + 1) c) (0 + 1) ([] ++ [.string (p1 ++ p0), .string (p0 ++ p1)]) → Made w (w4.setCell ⟨w.heap.size + 1, 1, none⟩ (.slice (some ⟨g, 0, none⟩) 1 c))) := Lib.hid (fun w1 w4 g c hb hg hn => made_put hb0 h1 h2 hsz hb hg (by rw [← HBA.out]; exact hn))
  have HS0 := Lib.hid hsz
  clear h1 h2 hb0 hsz
  go_loopw [5] (fun y wr => StY w W0 y wr) (fun y _ => 2 - (intOf y).toNat)
  case atStart => exact .inl ⟨rfl, rfl⟩
  case round =>
    rcases hrel with ⟨rfl, hw⟩ | ⟨rfl, hm⟩
    · replace hw := hw.symm
      subst hw
      go_wp2_with fail
      go_loopw [6] (fun x wr' => StX w W0 x wr') (fun x _ => 1 - (intOf x).toNat)
      case atStart => exact .inl ⟨rfl, rfl⟩
      case round =>
        rcases hrel with ⟨rfl, hw⟩ | ⟨rfl, hm⟩
        · replace hw := hw.symm
          subst hw
          have c0 := (XC.out _ (Below.refl _ _)).1
          have c1 := (XC.out _ (Below.refl _ _)).2
          have kr := Below.refl W0.heap.size W0
          go_wp2_with fail
          go_region_law (first
            | (go_simp; go_at_call 72; (with_reducible refine (HL1.out _).mono ?_); rintro e w2 ⟨rfl, hb2⟩; dsimp only; replace kr : Below W0.heap.size W0 w2 := Below.now (by repeat (first | exact kr | refine Below.drew ?_ | refine below_drewN ?_ _)) hb2; have s0 : w2.cell? ⟨w.heap.size + 1, 1, none⟩ = some (.slice none 0 0) := (XC.out _ kr).1; have s1 : w2.frozen? ⟨w.heap.size + 1, 1, none⟩ = false := (XC.out _ kr).2; have s3 : ∀ ob, (w2.alloc ob).cell? ⟨w.heap.size + 1, 1, none⟩ = some (.slice none 0 0) := fun ob => (XC.out _ (kr.alloc kr.size ob)).1; have s4 : ∀ ob, (w2.alloc ob).frozen? ⟨w.heap.size + 1, 1, none⟩ = false := fun ob => (XC.out _ (kr.alloc kr.size ob)).2; clear hb2)
            | (go_simp; go_at_call 72; (with_reducible refine (HL0.out _).mono ?_); rintro e w2 ⟨rfl, hb2⟩; dsimp only; replace kr : Below W0.heap.size W0 w2 := Below.now (by repeat (first | exact kr | refine Below.drew ?_ | refine below_drewN ?_ _)) hb2; have s0 : w2.cell? ⟨w.heap.size + 1, 1, none⟩ = some (.slice none 0 0) := (XC.out _ kr).1; have s1 : w2.frozen? ⟨w.heap.size + 1, 1, none⟩ = false := (XC.out _ kr).2; have s3 : ∀ ob, (w2.alloc ob).cell? ⟨w.heap.size + 1, 1, none⟩ = some (.slice none 0 0) := fun ob => (XC.out _ (kr.alloc kr.size ob)).1; have s4 : ∀ ob, (w2.alloc ob).frozen? ⟨w.heap.size + 1, 1, none⟩ = false := fun ob => (XC.out _ (kr.alloc kr.size ob)).2; clear hb2)
            | (refine step_appK (H := w.heap.size + 2) (n := 0) (xs := []) rfl (.tmp 24) (.tmp 36) (by rfl) Try.underlying22 Try.infoRule rfl (by decide) (by rfl) (World.ownsRow_nil _ _ _ _) (by rw [← HS0.out]; exact kr.size) (by rfl) (by rfl) M1.out N3.out N4.out ?_; intro g gc w4 hn4 hg4 ho4; have P4 : Hid (Made w (w4.setCell ⟨w.heap.size + 1, 1, none⟩ (.slice (some ⟨g, 0, none⟩) 1 gc))) := Lib.hid (MP.out _ w4 g gc (kr.alloc kr.size _) hg4 hn4); have t0 : w4.cell? ⟨w.heap.size + 1, 1, none⟩ = some (.slice none 0 0) := World.cell_grown hg4 (XC.out _ (kr.alloc kr.size _)).1 (by simp [Value.ownBlock]); have t1 : w4.frozen? ⟨w.heap.size + 1, 1, none⟩ = false := World.frozen_grown1 hg4 (XC.out _ (kr.alloc kr.size _)).2 (World.block_lt_of_cell? _ _ (XC.out _ (kr.alloc kr.size _)).1) (by simp [Value.ownBlock]); clear hn4 hg4 ho4 s0 s1 s3 s4))
          all_goals
            clear t0 t1
            go_wp2_with fail
            go_roundw
            case rel => exact .inr ⟨by go_num, P4.out⟩
            case measure => simp [intOf]
        · go_wp2_with fail
          go_roundw
          case rel => exact .inr ⟨by go_num, hm⟩
          case measure => simp [intOf]
    · obtain ⟨g, c, k1, k2, k3, k4⟩ := hm
      obtain ⟨a1, a2, a3, a4⟩ := cells_of k1
      obtain ⟨b1, b2, b3, b4⟩ := cells_of k2
      go_wp2_with fail
      exact bodyPost_ret (v := .tuple #[.agg #[.int .i64 2, .slice (some ⟨g, 0, none⟩) 1 c], .bool true]) (by simp [results, Try.results38, go_sem, a1, a2]) rfl (retSys_end k3 k4)
end Go.Proofs.Ytldkghfnlkbmpaa
