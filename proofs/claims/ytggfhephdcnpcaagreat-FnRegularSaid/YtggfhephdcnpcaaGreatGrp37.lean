/-
  The keys by which the program compares elements: a captured slice of slices that grows.
-/
import Derived.Test.YtggfhephdcnpcaaGreatGrp36
import Derived.Test.YtggfhephdcnpcaaGreatGrp02
import Derived.Deep.RegionHeld3
import Derived.Test.YtggfhephdcnpcaaGreatGrp35
import Derived.Test.YtggfhephdcnpcaaGreatGrp19
namespace Go.Proofs.YtggfhephdcnpcaaGreat
open Go.RowKit
set_option linter.unusedVariables false
theorem alloc_belI (w : World) (o : Obj) : Below w.heap.size w (w.alloc o) := (Below.refl _ _).alloc (Nat.le_refl _) _
theorem intVals_snoc (x : Int) (l : List Int) : intVals (l ++ [x]) = intVals l ++ [.int .i64 x] := by simp [intVals]
set_option maxRecDepth 100000 in
set_option maxHeartbeats 2000000 in
theorem implIdeal_any (m : Nat) (ln : List Nat) (a : Option Addr) (len cap i : Nat) (kind : Int) (w : World) (hl : NatsIn w a ln) (hT : Tb m ln) (hlen : len = m * m) (hi : i < m) :
    Calls Tryz.prog 42 #[.agg #[.int .i64 m, .slice a len cap], .int .i64 i, .int .i64 kind] w (RetSl 3 1 (idLs m ln kind i).length (intVals (idLs m ln kind i)) w) := by
  have hm := hT.hi
  have hm0 := hT.lo
  have hsq := sq_le hm
  have HT := Lib.hid hT
  have HL := Lib.hid hlen
  have hb1 := alloc_belI w (.cells #[.int .i64 (m : Nat), .slice a len cap] 25)
  have HX : Hid (∀ W, Below (w.alloc (.cells #[.int .i64 (m : Nat), .slice a len cap] 25)).heap.size (w.alloc (.cells #[.int .i64 (m : Nat), .slice a len cap] 25)) W → W.cell? ⟨w.heap.size, 0, none⟩ = some (.int .i64 (m : Nat)) ∧ W.cell? ⟨w.heap.size, 1, none⟩ = some (.slice a len cap)) := Lib.hid (fun W hW => ⟨by rw [hW.cell (by simp)]; simp, by rw [hW.cell (by simp)]; simp⟩)
  have HB := Lib.hid hb1
  have HN := Lib.hid (hl.later hb1)
  have HZ : Hid (w.heap.size < (w.alloc (.cells #[.int .i64 (m : Nat), .slice a len cap] 25)).heap.size) := Lib.hid (by simp)
  have HCO := Lib.hid (fun (q : List Int) oa oc W (h : IntsIn W oa q) (h0 : 0 < q.length) (h1 : q.length ≤ 1000000) => collected_any q oa oc W h h0 h1)
  have hone : ∀ s : Int, ∀ u ∈ [Value.int .i64 s], u.oneCell' = true := fun s u hu => by rw [List.mem_singleton.1 hu]; rfl
  clear hl hT hlen hb1
  have HD : Hid (∀ q, collL q = idLs m ln kind i → 0 < q.length → q.length ≤ 1000000 → ∀ oa oc W, IntsIn W oa q → Calls Tryz.prog 69 #[.slice oa q.length oc] W (RetSl 3 1 (idLs m ln kind i).length (intVals (idLs m ln kind i)) W)) := Lib.hid (fun q hq h0 h1 oa oc W h => by
    have := HCO.out q oa oc W h h0 h1
    rw [hq] at this
    exact this)
  clear HCO
  by_cases h1 : kind = 1
  · subst h1
    have HCL := Lib.hid (collL_R HT.out hi)
    go_enter Tryz.func42, Tryz.ntmps42
    go_wp2_with fail
    generalize w.alloc (.cells #[.int .i64 (m : Nat), .slice a len cap] 25) = w1 at *
    go_loopw [7, 12] (fun v i' wr => ∃ c : Nat, c ≤ m ∧ i' = .int .i64 c ∧ Hid (Bld 3 1 w1 wr v (prR m ln i c).length (intVals (prR m ln i c)))) (fun _ i' _ => m - (intOf i').toNat)
    case atStart => exact ⟨0, Nat.zero_le _, rfl, Lib.hid (Bld.nil _ _ (Below.refl _ _))⟩
    case round =>
      obtain ⟨c, hcm, rfl, HO⟩ := hrel
      obtain ⟨z0, z1⟩ := HX.out _ HO.out.2
      have hpl : (prR m ln i c).length ≤ c := Nat.le_of_eq (prR_len i c)
      by_cases hlt : c < m
      · have HS := Lib.hid (prR_succ (m := m) (ln := ln) i c)
        go_wp2_with fail
        refine (implTimes_any m ln a _ _ i c _ (HN.out.later HO.out.2) HT.out HL.out hi hlt).mono ?_
        rintro e w3 ⟨rfl, hb3⟩
        have HO3 := Lib.hid (HO.out.later hb3)
        clear hb3 z0 z1
        go_wp2_with (at_builtin; refine wpList_app1 rfl _ _ rfl Tryz.underlying23 Tryz.infoInt rfl (by decide) rfl HO3.out rfl rfl (hone _) ?c2 ?c3 ?c4)
        case c2 => unfold maxLen; omega
        case c3 => omega
        intro v2 w4 hb4
        have F : Hid (Bld 3 1 w1 w4 v2 (prR m ln i (c + 1)).length (intVals (prR m ln i (c + 1)))) := Lib.hid (by rw [HS.out, intVals_snoc, List.length_append]; exact hb4)
        clear hb4
        go_wp2_with fail
        go_roundw
        case rel => exact ⟨c + 1, by omega, by go_num, F⟩
        case measure => simp [intOf]; omega
      · obtain rfl : c = m := by omega
        obtain ⟨oa, oc, rfl⟩ := owns_form HO.out.1
        have HC := Lib.hid (HD.out _ HCL.out (by rw [prR_len]; omega) (by omega) oa oc wr (owns_ints (l := prR c ln i c) HO.out.1))
        have HBE := Lib.hid (Below.now HB.out HO.out.2)
        clear z0 z1
        go_wp2_with fail
        refine HC.out.mono ?_
        rintro e w3 ⟨a3, c3, rfl, ho3, hb3⟩
        have F : Hid (RetSl 3 1 (idLs c ln 1 i).length (intVals (idLs c ln 1 i)) w (.returned (.slice a3 (idLs c ln 1 i).length c3)) w3) := Lib.hid ⟨_, _, rfl, owns_mono ho3 HBE.out.size, Below.now HBE.out hb3⟩
        clear ho3 hb3
        go_wp2_with fail
        go_ret
        exact F.out
  have e1 : (kind == 1) = false := by simpa using h1
  by_cases h2 : kind = 2
  · subst h2
    have HCL := Lib.hid (collL_L HT.out hi)
    go_enter Tryz.func42, Tryz.ntmps42
    go_wp2_with fail
    generalize w.alloc (.cells #[.int .i64 (m : Nat), .slice a len cap] 25) = w1 at *
    go_loopw [7, 12] (fun v i' wr => ∃ c : Nat, c ≤ m ∧ i' = .int .i64 c ∧ Hid (Bld 3 1 w1 wr v (prL m ln i c).length (intVals (prL m ln i c)))) (fun _ i' _ => m - (intOf i').toNat)
    case atStart => exact ⟨0, Nat.zero_le _, rfl, Lib.hid (Bld.nil _ _ (Below.refl _ _))⟩
    case round =>
      obtain ⟨c, hcm, rfl, HO⟩ := hrel
      obtain ⟨z0, z1⟩ := HX.out _ HO.out.2
      have hpl : (prL m ln i c).length ≤ c := Nat.le_of_eq (prL_len i c)
      by_cases hlt : c < m
      · have HS := Lib.hid (prL_succ (m := m) (ln := ln) i c)
        go_wp2_with fail
        refine (implTimes_any m ln a _ _ c i _ (HN.out.later HO.out.2) HT.out HL.out hlt hi).mono ?_
        rintro e w3 ⟨rfl, hb3⟩
        have HO3 := Lib.hid (HO.out.later hb3)
        clear hb3 z0 z1
        go_wp2_with (at_builtin; refine wpList_app1 rfl _ _ rfl Tryz.underlying23 Tryz.infoInt rfl (by decide) rfl HO3.out rfl rfl (hone _) ?d2 ?d3 ?d4)
        case d2 => unfold maxLen; omega
        case d3 => omega
        intro v2 w4 hb4
        have F : Hid (Bld 3 1 w1 w4 v2 (prL m ln i (c + 1)).length (intVals (prL m ln i (c + 1)))) := Lib.hid (by rw [HS.out, intVals_snoc, List.length_append]; exact hb4)
        clear hb4
        go_wp2_with fail
        go_roundw
        case rel => exact ⟨c + 1, by omega, by go_num, F⟩
        case measure => simp [intOf]; omega
      · obtain rfl : c = m := by omega
        obtain ⟨oa, oc, rfl⟩ := owns_form HO.out.1
        have HC := Lib.hid (HD.out _ HCL.out (by rw [prL_len]; omega) (by omega) oa oc wr (owns_ints (l := prL c ln i c) HO.out.1))
        have HBE := Lib.hid (Below.now HB.out HO.out.2)
        clear z0 z1
        go_wp2_with fail
        refine HC.out.mono ?_
        rintro e w3 ⟨a3, c3, rfl, ho3, hb3⟩
        have F : Hid (RetSl 3 1 (idLs c ln 2 i).length (intVals (idLs c ln 2 i)) w (.returned (.slice a3 (idLs c ln 2 i).length c3)) w3) := Lib.hid ⟨_, _, rfl, owns_mono ho3 HBE.out.size, Below.now HBE.out hb3⟩
        clear ho3 hb3
        go_wp2_with fail
        go_ret
        exact F.out
  have e2 : (kind == 2) = false := by simpa using h2
  have HCL := Lib.hid (collL_B HT.out h1 h2 hi)
  clear h1 h2
  go_enter Tryz.func42, Tryz.ntmps42
  go_wp2_with fail
  generalize w.alloc (.cells #[.int .i64 (m : Nat), .slice a len cap] 25) = w1 at *
  go_loopw [7, 12] (fun v i' wr => ∃ c : Nat, c ≤ m ∧ i' = .int .i64 c ∧ Hid (Bld 3 1 w1 wr v (prB m ln i c 0).length (intVals (prB m ln i c 0)))) (fun _ i' _ => m - (intOf i').toNat)
  case atStart => exact ⟨0, Nat.zero_le _, rfl, Lib.hid (Bld.nil _ _ (Below.refl _ _))⟩
  case round =>
    obtain ⟨c, hcm, rfl, HO⟩ := hrel
    obtain ⟨z0, z1⟩ := HX.out _ HO.out.2
    by_cases hlt : c < m
    · have hci := HT.out.tm_lt hlt hi
      have hcm2 := mul_le hm hlt
      go_wp2_with fail
      generalize hW0 : wr = wr0 at *
      clear hW0 z0 z1
      go_loopw [7, 18] (fun v j' wr => ∃ d : Nat, d ≤ m ∧ j' = .int .i64 d ∧ Hid (Bld 3 1 w1 wr v (prB m ln i c d).length (intVals (prB m ln i c d)))) (fun _ j' _ => m - (intOf j').toNat)
      case atStart => exact ⟨0, Nat.zero_le _, rfl, HO⟩
      case round =>
        clear HO
        obtain ⟨d, hdm, rfl, HO⟩ := hrel
        have hpl : (prB m ln i c d).length ≤ c * m + d := Nat.le_of_eq (prB_len i c d)
        obtain ⟨z0, z1⟩ := HX.out _ HO.out.2
        by_cases hld : d < m
        · have HS := Lib.hid (prB_succ (m := m) (ln := ln) i c d)
          obtain ⟨oa, oc, rfl⟩ := owns_form HO.out.1
          have hne : (Value.slice oa (prB m ln i c d).length oc).ownBlock ≠ some w.heap.size := fun e => by have := (HO.out.1.lt _ e).1; have := HZ.out; omega
          have HC1 : Hid ((prB m ln i c d).length + 1 ≤ maxLen) := Lib.hid (by unfold maxLen; omega)
          have HC2 : Hid (((prB m ln i c d).length + 1) * 8 ≤ 140737488355328) := Lib.hid (by omega)
          generalize prB m ln i c d = q at *
          have kr := Below.refl wr.heap.size wr
          go_wp2_with fail
          go_region_held3 (fun w' => w'.cell? ⟨w.heap.size, 0, none⟩ = some (.int .i64 (m : Nat)) ∧ w'.cell? ⟨w.heap.size, 1, none⟩ = some (.slice a len cap)) (go_keep) (first
            | (go_at_call 54; refine (implTimes_any m ln a _ _ _ _ _ (HN.out.later (Below.now HO.out.2 (by repeat (first | exact kr | refine Below.drew ?_ | refine below_drewN ?_ _)))) HT.out HL.out (by assumption) (by assumption)).mono ?_; rintro e w2 ⟨rfl, hb2⟩; replace kr : Below wr.heap.size wr w2 := Below.now (by repeat (first | exact kr | refine Below.drew ?_ | refine below_drewN ?_ _)) hb2; have s0 := (HX.out w2 (Below.now HO.out.2 kr)).1; have s1 := (HX.out w2 (Below.now HO.out.2 kr)).2; clear hb2)
            | (refine step_app1g rfl _ _ (by rfl) Tryz.underlying23 Tryz.infoInt rfl (by decide) (by rfl) (HO.out.later kr) (by rfl) rfl (hone _) HC1.out HC2.out ?_; intro v2 w4 hb4 hgr; have t0 : w4.cell? ⟨w.heap.size, 0, none⟩ = some (.int .i64 (m : Nat)) := far_cell hgr (HX.out _ (Below.now HO.out.2 kr)).1 hne; have t1 : w4.cell? ⟨w.heap.size, 1, none⟩ = some (.slice a len cap) := far_cell hgr (HX.out _ (Below.now HO.out.2 kr)).2 hne; clear hgr))
          all_goals
            have F : Hid (Bld 3 1 w1 w4 v2 (prB m ln i c (d + 1)).length (intVals (prB m ln i c (d + 1)))) := Lib.hid (by rw [HS.out, intVals_snoc, List.length_append]; exact hb4)
            clear hb4 hne kr
            go_wp2_with fail
            go_roundw
            case rel => exact ⟨d + 1, by omega, by go_num, F⟩
            case measure => simp [intOf]; omega
        · obtain rfl : d = m := by omega
          have F := HO
          rw [prB_full] at F
          clear z0 z1
          go_wp2_with fail
          go_roundw
          case rel => exact ⟨c + 1, by omega, by go_num, F⟩
          case measure => simp [intOf]; omega
    · obtain rfl : c = m := by omega
      obtain ⟨oa, oc, rfl⟩ := owns_form HO.out.1
      have hpl : (prB c ln i c 0).length ≤ c * c + 0 := Nat.le_of_eq (prB_len i c 0)
      have hc1 : 1 ≤ c * c := Nat.mul_le_mul hm0 hm0
      have HC := Lib.hid (HD.out _ HCL.out (by rw [prB_len]; omega) (by omega) oa oc wr (owns_ints (l := prB c ln i c 0) HO.out.1))
      have HBE := Lib.hid (Below.now HB.out HO.out.2)
      clear z0 z1
      go_wp2_with fail
      refine HC.out.mono ?_
      rintro e w3 ⟨a3, c3, rfl, ho3, hb3⟩
      have F : Hid (RetSl 3 1 (idLs c ln kind i).length (intVals (idLs c ln kind i)) w (.returned (.slice a3 (idLs c ln kind i).length c3)) w3) := Lib.hid ⟨_, _, rfl, owns_mono ho3 HBE.out.size, Below.now HBE.out hb3⟩
      clear ho3 hb3
      go_wp2_with fail
      go_ret
      exact F.out
end Go.Proofs.YtggfhephdcnpcaaGreat
namespace Go.Proofs.YtggfhephdcnpcaaGreat
open Go.RowKit
set_option linter.unusedVariables false
theorem Tryz.infoInts : (Tryz.prog.info? 23).map (fun i => (i.zero, i.size, i.bytes)) = some (some (.slice none 0 0), 1, 24) := by kernel_rfl
theorem box1_cells {W : World} {b : Nat} {x : Value} {T : TypeId} (h : W.heap[b]? = some (.cells #[x] T (0, 0))) : W.cell? ⟨b, 0, none⟩ = some x ∧ W.frozen? ⟨b, 0, none⟩ = false := ⟨by simp [World.cell?, h], by simp [World.frozen?, h]⟩
/-- rows of integers in memory of the call's own -/
def RowsAt (wr : World) (g : Nat) (key : Nat → List Int) (vals : List Value) : Prop :=
  ∀ j, j < vals.length → ∃ a cap, vals[j]? = some (.slice a (key j).length cap) ∧ wr.ownsRow (g + 1) 3 1 (.slice a (key j).length cap) (key j).length (intVals (key j))
/-- the captured slice at block g since w: its c elements are the keys -/
structure KeyS (w wr : World) (g : Nat) (v : Value) (c : Nat) (key : Nat → List Int) (vals : List Value) : Prop where
  blk : wr.heap[g]? = some (.cells #[v] 52 (0, 0))
  own : wr.ownsRow (g + 1) 23 1 v c vals
  rows : RowsAt wr g key vals
  le : w.heap.size ≤ g
  below : Below w.heap.size w wr
section
variable {w wr : World} {g : Nat} {v : Value} {c : Nat} {key : Nat → List Int} {vals : List Value}
theorem KeyS.facts (h : KeyS w wr g v c key vals) : wr.cell? ⟨g, 0, none⟩ = some v ∧ wr.frozen? ⟨g, 0, none⟩ = false := box1_cells h.blk
theorem KeyS.lt (h : KeyS w wr g v c key vals) : g < wr.heap.size := (Array.getElem?_eq_some_iff.1 h.blk).1
theorem KeyS.len (h : KeyS w wr g v c key vals) : vals.length = c := by have := h.own.1; omega
theorem RowsAt.later {w' : World} (h : RowsAt wr g key vals) (hb : Below wr.heap.size wr w') : RowsAt w' g key vals := fun j hj => by
  obtain ⟨a, cap, h1, h2⟩ := h j hj
  exact ⟨a, cap, h1, owns_later h2 hb⟩
theorem KeyS.later {w' : World} (h : KeyS w wr g v c key vals) (hb : Below wr.heap.size wr w') : KeyS w w' g v c key vals :=
  ⟨(hb.block g h.lt).trans h.blk, owns_later h.own hb, h.rows.later hb, h.le, Below.now h.below hb⟩
theorem KeyS.far (h : KeyS w wr g v c key vals) : v.ownBlock ≠ some g := fun e => by have := (h.own.lt g e).1; omega
theorem KeyS.start {w1 : World} (hb : Below w.heap.size w w1) (key : Nat → List Int) : KeyS w (w1.alloc (.cells #[.slice none 0 0] 52)) w1.heap.size (.slice none 0 0) 0 key [] :=
  ⟨alloc_at _ _, World.ownsRow_nil _ _ _ _, fun j hj => absurd hj (Nat.not_lt_zero _), hb.size, hb.alloc hb.size _⟩
/-- the box, once the slice has been appended to -/
theorem KeyS.grown {w2 w4 : World} {ob : Obj} (h : KeyS w wr g v c key vals) (hb : Below wr.heap.size wr w2) (hg : (w2.alloc ob).grownBy w4 v.ownBlock) : w4.heap[g]? = some (.cells #[v] 52 (0, 0)) := by
  have h2 := h.later (hb.alloc hb.size ob)
  exact (hg.block g h2.lt (fun e => h.far e.symm)).trans h2.blk
theorem row_apart {W : World} {base : Nat} {a : Option Addr} {n cap m k : Nat} {x : Value} {xs ys : List Value} (h1 : W.ownsRow base 23 1 x m xs) (h2 : W.ownsRow base 3 1 (.slice a n cap) k ys) : ∀ b, x.ownBlock = some b → (Value.slice a n cap).ownBlock ≠ some b := fun b hb e => by
  obtain ⟨ax, cx, rfl⟩ := owns_form h1
  cases ax with
  | none => simp [Value.ownBlock] at hb
  | some p =>
    cases a with
    | none => simp [Value.ownBlock] at e
    | some q =>
      simp only [Value.ownBlock, Option.some.injEq] at hb e
      rcases h1.2 with ⟨hv, _⟩ | ⟨g1, c1, cur1, hv1, _, hg1, _⟩
      · simp at hv
      rcases h2.2 with ⟨hv, _⟩ | ⟨g2, c2, cur2, hv2, _, hg2, _⟩
      · simp at hv
      simp only [Value.slice.injEq, Option.some.injEq] at hv1 hv2
      obtain ⟨rfl, _, _⟩ := hv1
      obtain ⟨rfl, _, _⟩ := hv2
      simp only at hb e
      subst hb
      subst e
      rw [hg1] at hg2
      simp at hg2
/-- a key more -/
theorem KeyS.put {w2 w4 : World} {ob : Obj} {v' : Value} {a : Option Addr} {cap : Nat} (h : KeyS w wr g v c key vals) (hb : Below wr.heap.size wr w2) (hr : w2.ownsRow (g + 1) 3 1 (.slice a (key c).length cap) (key c).length (intVals (key c)))
    (hg : (w2.alloc ob).grownBy w4 v.ownBlock) (hn : w4.ownsRow (g + 1) 23 1 v' (c + 1) (vals ++ [.slice a (key c).length cap])) : KeyS w (w4.setCell ⟨g, 0, none⟩ v') g v' (c + 1) key (vals ++ [.slice a (key c).length cap]) := by
  have hal : Below w2.heap.size w2 (w2.alloc ob) := (Below.refl _ _).alloc (Nat.le_refl _) _
  have h2 := h.later (Below.now hb hal)
  have h4 := h.grown hb hg
  have b4 : Below w.heap.size w w4 := h2.below.grown hg h2.below.size (fun k hk => by have := (h.own.lt k hk).1; have := h.le; omega)
  have keep : ∀ {a : Option Addr} {n cap : Nat} {ys : List Value}, (w2.alloc ob).ownsRow (g + 1) 3 1 (.slice a n cap) n ys → (w4.setCell ⟨g, 0, none⟩ v').ownsRow (g + 1) 3 1 (.slice a n cap) n ys := fun {a n cap ys} hy => by
    refine ownsRow_setCell_below (hy.kept hg ?_) (by show g < g + 1; omega) _
    cases hv : (Value.slice a n cap).ownBlock with
    | none => exact .inl rfl
    | some k => exact .inr fun e => row_apart h2.own hy k e.symm hv
  refine ⟨?_, ownsRow_setCell_below hn (by show g < g + 1; omega) _, fun j hj => ?_, h.le, b4.setCell h.le _⟩
  · unfold World.setCell
    simp [Array.getElem?_modify, h4]
  · have hl := h.len
    rw [List.length_append, List.length_singleton] at hj
    by_cases e : j = vals.length
    · subst e
      rw [hl]
      refine ⟨a, cap, ?_, keep (owns_later hr hal)⟩
      rw [List.getElem?_append_right (by omega)]
      simp [hl]
    · obtain ⟨a', cap', e1, e2⟩ := h2.rows j (by omega)
      refine ⟨a', cap', ?_, keep e2⟩
      rw [List.getElem?_append_left (by omega)]
      exact e1
/-- the key of an element, in all later worlds -/
theorem KeyS.at (h : KeyS w wr g v c key vals) {j : Nat} (hj : j < c) : ∃ b a cap, v = .slice (some ⟨b, 0, none⟩) c cap ∧ ∃ ca, ∀ W, Below wr.heap.size wr W → W.cell? ⟨g, 0, none⟩ = some v ∧ W.cell? ⟨b, j, none⟩ = some (.slice a (key j).length ca) ∧ IntsIn W a (key j) := by
  have hl := h.len
  obtain ⟨a, ca, e1, e2⟩ := h.rows j (by omega)
  rcases h.own.2 with ⟨_, h0⟩ | ⟨b, cap, cur, hv, _, _, _⟩
  · omega
  refine ⟨b, a, cap, hv, ca, fun W hW => ⟨(hW.cell (World.block_lt_of_cell? _ _ h.facts.1)).trans h.facts.1, ?_, (owns_ints (l := key j) e2).later hW⟩⟩
  have h1 : wr.cell? ⟨b, j, none⟩ = some (.slice a (key j).length ca) := by
    have hw := h.own
    rw [hv] at hw
    rw [hw.cellAt j (by omega)]
    exact e1
  exact (hW.cell (World.block_lt_of_cell? _ _ h1)).trans h1
end
end Go.Proofs.YtggfhephdcnpcaaGreat
