/-
  The reference's OrientRule.
-/
import Derived.Test.YtdhaebbfiaddnaaGreatDoorGre18
import Derived.Test.YtdhaebbfiaddnaaGreatDoorGre08
import Derived.Deep.RegionHeld3
import Derived.Deep.RegionLaw
import Derived.Test.YtdhaebbfiaddnaaGreatDoorGre07
namespace Go.Proofs.YtdhaebbfiaddnaaGreatDoor
open Go.RowKit
set_option linter.unusedVariables false
/-- what a work is handed back as: its rules and its equations in memory of the call's own -/
def RetCp (k : Int) (R Q : List RulD) (T : Nat) (w : World) (e : Ending) (w' : World) : Prop :=
  ∃ aR cR aQ cQ, e = .returned (workVal k aR R.length cR aQ Q.length cQ T) ∧ ownsOff w' w.heap.size 36 2 (.slice aR R.length cR) R.length (ruleCells R) ∧ ownsOff w' w.heap.size 36 2 (.slice aQ Q.length cQ) Q.length (ruleCells Q) ∧ Below w.heap.size w w'
theorem ownsOff.mono {w : World} {base base' : Nat} {T : TypeId} {size : Nat} {v : Value} {n : Nat} {xs : List Value} (h : ownsOff w base T size v n xs) (hb : base' ≤ base) : ownsOff w base' T size v n xs := by
  refine ⟨h.1, ?_⟩
  rcases h.2 with h' | ⟨g, o, cap, cur, hv, hb', r⟩
  · exact .inl h'
  · exact .inr ⟨g, o, cap, cur, hv, by omega, r⟩
theorem ownsOff.setBelow {w : World} {base : Nat} {T : TypeId} {size : Nat} {v : Value} {n : Nat} {xs : List Value} (h : ownsOff w base T size v n xs) {p : Addr} (hp : p.block < base) (u : Value) : ownsOff (w.setCell p u) base T size v n xs := by
  refine ⟨h.1, ?_⟩
  rcases h.2 with h' | ⟨g, o, cap, cur, hv, hb', hg, r⟩
  · exact .inl h'
  · refine .inr ⟨g, o, cap, cur, hv, hb', ?_, r⟩
    unfold World.setCell
    rw [Array.getElem?_modify, if_neg (fun e => by omega)]
    exact hg
theorem off_empty (T : TypeId) (size : Nat) (w1 : World) : ∀ W, Below (w1.alloc (.cells #[] T)).heap.size (w1.alloc (.cells #[] T)) W → ownsOff W w1.heap.size T size (.slice (some ⟨w1.heap.size, 0, none⟩) 0 0) 0 [] := fun W h => (ownsOff.of_row (Bld.empty T size w1).1).later h
theorem off_empty2 (T : TypeId) (size : Nat) (w1 : World) (o : Obj) : ∀ W, Below ((w1.alloc o).alloc (.cells #[] T)).heap.size ((w1.alloc o).alloc (.cells #[] T)) W → ownsOff W w1.heap.size T size (.slice (some ⟨w1.heap.size + 1, 0, none⟩) 0 0) 0 [] := fun W h => by
  have h1 := (off_empty T size (w1.alloc o) W h).mono (show w1.heap.size ≤ (w1.alloc o).heap.size by simp)
  have e : (w1.alloc o).heap.size = w1.heap.size + 1 := by simp
  rw [e] at h1
  exact h1
theorem alloc_two (w1 : World) (o o2 : Obj) : ((w1.alloc o).alloc o2).heap[w1.heap.size]? = some o ∧ ((w1.alloc o).alloc o2).heap[w1.heap.size + 1]? = some o2 := by
  have h1 := alloc_at w1 o
  have h2 := alloc_at (w1.alloc o) o2
  have e : (w1.alloc o).heap.size = w1.heap.size + 1 := by simp
  rw [e] at h2
  exact ⟨by rw [(alloc_belowS (w1.alloc o) o2).block w1.heap.size (by rw [e]; omega)]; exact h1, h2⟩
/-- the two fields of a box are set -/
theorem set_two {W : World} {g : Nat} {x y : Value} {T : TypeId} (h : W.heap[g]? = some (.cells #[x, y] T (0, 0))) (u v : Value) : ((W.setCell ⟨g, 0, none⟩ u).setCell ⟨g, 1, none⟩ v).heap[g]? = some (.cells #[u, v] T (0, 0)) := by
  unfold World.setCell
  simp [Array.getElem?_modify, h]
/-- a box of another type is set -/
theorem ownsOff.set2 {w : World} {base : Nat} {T T' : TypeId} {size : Nat} {v : Value} {n : Nat} {xs : List Value} (h : ownsOff w base T size v n xs) {g : Nat} {cs : Array Value} {fr : Nat × Nat} (hg : w.heap[g]? = some (.cells cs T' fr)) (hne : T ≠ T') (o1 o2 : Nat) (u1 u2 : Value) :
    ownsOff ((w.setCell ⟨g, o1, none⟩ u1).setCell ⟨g, o2, none⟩ u2) base T size v n xs := by
  refine ⟨h.1, ?_⟩
  rcases h.2 with h' | ⟨g1, o, cap, cur, hv, hb', hg1, r⟩
  · exact .inl h'
  · refine .inr ⟨g1, o, cap, cur, hv, hb', ?_, r⟩
    have hn : g ≠ g1 := fun e => by
      subst e
      rw [hg] at hg1
      simp only [Option.some.injEq, Obj.cells.injEq] at hg1
      exact hne hg1.2.1.symm
    unfold World.setCell
    rw [Array.getElem?_modify, if_neg hn, Array.getElem?_modify, if_neg hn]
    exact hg1
end Go.Proofs.YtdhaebbfiaddnaaGreatDoor
namespace Go.Proofs.YtdhaebbfiaddnaaGreatDoor
open Go.RowKit
set_option linter.unusedVariables false
def RetRule (m : Nat) (w : World) (e : Ending) (w' : World) : Prop := ∃ (x y : ByteArray) (b : Bool), (x.size ≤ m ∧ y.size ≤ m) ∧ e = .returned (.tuple #[.agg #[.string x, .string y], .bool b]) ∧ Below w.heap.size w w'
/-- two strings in a row of their own -/
def TwoS (m B : Nat) (w wr : World) (v : Value) : Prop := ∃ x y : ByteArray, (x.size ≤ m ∧ y.size ≤ m) ∧ wr.ownsRow (B + 1) 9 1 v 2 [.string x, .string y] ∧ Below B w wr ∧ wr.heap[B]? = some (.cells #[.string ⟨#[]⟩, .string ⟨#[]⟩] 36 (0, 0))
theorem TwoS.mk {m B : Nat} {w wr : World} {v : Value} {l : List ByteArray} (h2 : l.length = 2) (hl : ShortS m l) (ho : wr.ownsRow (B + 1) 9 1 v l.length (strVals l)) (hb : Below B w wr) (h0 : wr.heap[B]? = some (.cells #[.string ⟨#[]⟩, .string ⟨#[]⟩] 36 (0, 0))) : TwoS m B w wr v := by
  match l, h2 with
  | [x, y], _ => exact ⟨x, y, ⟨hl x (by simp), hl y (by simp)⟩, ho, hb, h0⟩
theorem TwoS.form {m B : Nat} {w wr : World} {a : Option Addr} {n cap : Nat} (h : TwoS m B w wr (.slice a n cap)) : ∃ g, a = some ⟨g, 0, none⟩ ∧ B + 1 ≤ g ∧ n = 2 := by
  obtain ⟨x, y, hs, ho, hb, h0⟩ := h
  rcases ho.2 with ⟨hv, h0⟩ | ⟨g, cap', cur, hv, hb', r⟩
  · cases h0
  · simp only [Value.slice.injEq] at hv
    exact ⟨g, hv.1, hb', hv.2.1⟩
theorem TwoS.store {m B : Nat} {w wr : World} {g cap : Nat} (h : TwoS m B w wr (.slice (some ⟨g, 0, none⟩) 2 cap)) (hg : B + 1 ≤ g) (i : Nat) : i < 2 → TwoS m B w (wr.setCell ⟨g, i, none⟩ (.string ⟨#[]⟩)) (.slice (some ⟨g, 0, none⟩) 2 cap) := by
  intro hi
  obtain ⟨x, y, hs, ho, hb, h0⟩ := h
  have hz : (⟨#[]⟩ : ByteArray).size = 0 := rfl
  have hst := (ho.stored i (.string ⟨#[]⟩)).1
  have hblk : (wr.setCell ⟨g, i, none⟩ (.string ⟨#[]⟩)).heap[B]? = some (.cells #[.string ⟨#[]⟩, .string ⟨#[]⟩] 36 (0, 0)) := by
    rw [← h0]
    unfold World.setCell
    rw [Array.getElem?_modify, if_neg (by show ¬ g = B; omega)]
  match i, hi with
  | 0, _ => exact ⟨⟨#[]⟩, y, by omega, hst, hb.setCell (by show B ≤ g; omega) _, hblk⟩
  | 1, _ => exact ⟨x, ⟨#[]⟩, by omega, hst, hb.setCell (by show B ≤ g; omega) _, hblk⟩
theorem RetRule.zero {m : Nat} {w wr : World} (h : Below w.heap.size w wr) : RetRule m w (.returned (.tuple #[.agg #[.string ⟨#[]⟩, .string ⟨#[]⟩], .bool false])) ((wr.setCell ⟨w.heap.size, 0, none⟩ (.string ⟨#[]⟩)).setCell ⟨w.heap.size, 1, none⟩ (.string ⟨#[]⟩)) := by
  have hz : (⟨#[]⟩ : ByteArray).size = 0 := rfl
  exact ⟨⟨#[]⟩, ⟨#[]⟩, false, by omega, rfl, (h.setCell (Nat.le_refl _) _).setCell (Nat.le_refl _) _⟩
set_option maxRecDepth 20000 in
set_option maxHeartbeats 4000000 in
theorem specParseRule_any (s : ByteArray) (w : World) (hs : s.size ≤ 2 ^ 20) :
    Calls Tryz.prog 96 #[.string s] w (RetRule s.size w) := by
  have HSP := Lib.hid (fun W => specSplitAny_any s 62 W hs)
  have hz1 : (⟨#[]⟩ : ByteArray).size = 0 := rfl
  go_enter Tryz.func96, Tryz.ntmps96
  go_wp2_with fail
  refine (HSP.out _).mono ?_
  rintro e w2 ⟨l, ⟨hl1, hl2, hl3⟩, a, cap, rfl, ho, hb2⟩
  have hb0 := (hb2.block w.heap.size (by simp)).trans (alloc_at w (.cells #[.string ⟨#[]⟩, .string ⟨#[]⟩] 36))
  have hf0 : w2.frozen? ⟨w.heap.size, 0, none⟩ = false ∧ w2.frozen? ⟨w.heap.size, 1, none⟩ = false := by simp [World.frozen?, hb0]
  obtain ⟨f0, f1⟩ := hf0
  have HW1 := Lib.hid ((Below.refl w.heap.size w).alloc (Nat.le_refl _) (.cells #[.string ⟨#[]⟩, .string ⟨#[]⟩] 36))
  by_cases h2 : l.length = 2
  · have HT : Hid (TwoS s.size w.heap.size w w2 (.slice a 2 cap)) := Lib.hid (TwoS.mk h2 hl1 (by rw [← h2]; simpa using ho) (Below.now HW1.out hb2) hb0)
    have HZ0 : Hid (w2.heap[w.heap.size]? = some (.cells #[.string ⟨#[]⟩, .string ⟨#[]⟩] 36 (0, 0))) := Lib.hid hb0
    clear hb2 ho hb0 f0 f1
    rw [h2]
    clear h2 hl1 hl2 hl3
    obtain ⟨g, rfl, hg, _⟩ := HT.out.form
    go_wp2_with fail
    go_loopw [16] (fun i wr => ∃ j : Nat, j ≤ 2 ∧ i = .int .i64 (j : Nat) ∧ Hid (TwoS s.size w.heap.size w wr (.slice (some ⟨g, 0, none⟩) 2 cap))) (fun i _ => 2 - (intOf i).toNat)
    case atStart => exact ⟨0, by omega, rfl, HT⟩
    case round =>
      clear HT HZ0
      obtain ⟨j, hj, rfl, HT⟩ := hrel
      obtain ⟨x, y, ⟨hx, hy⟩, ho, hb, h0⟩ := HT.out
      have H0 := Lib.hid h0
      have c0 : wr.cell? ⟨g, 0, none⟩ = some (.string x) := ho.cellAt 0 (by omega)
      have c1 : wr.cell? ⟨g, 1, none⟩ = some (.string y) := ho.cellAt 1 (by omega)
      have f0 := ho.frozenAt 0
      have f1 := ho.frozenAt 1
      have HS := Lib.hid (HT.out.store hg)
      clear h0
      have hj3 : j = 0 ∨ j = 1 ∨ j = 2 := by omega
      rcases hj3 with rfl | rfl | rfl
      · have HS0 := Lib.hid (HS.out 0 (by omega))
        go_wp2_with fail
        · go_roundw
          case rel => exact ⟨1, by omega, by go_num, HS0⟩
          case measure => simp [intOf]
        · go_roundw
          case rel => exact ⟨1, by omega, by go_num, HT⟩
          case measure => simp [intOf]
      · have HS1 := Lib.hid (HS.out 1 (by omega))
        go_wp2_with fail
        · go_roundw
          case rel => exact ⟨2, by omega, by go_num, HS1⟩
          case measure => simp [intOf]
        · go_roundw
          case rel => exact ⟨2, by omega, by go_num, HT⟩
          case measure => simp [intOf]
      · have p0 : ∀ o, (wr.alloc o).cell? ⟨g, 0, none⟩ = some (.string x) := fun o => by rw [(alloc_belowS wr o).cell (World.block_lt_of_cell? wr _ c0)]; exact c0
        have p1 : ∀ o, (wr.alloc o).cell? ⟨g, 1, none⟩ = some (.string y) := fun o => by rw [(alloc_belowS wr o).cell (World.block_lt_of_cell? wr _ c1)]; exact c1
        go_wp2_with fail
        go_upto_region 10 with fail
        go_cut [7] (fun v wx => v = .pointer (some ⟨wr.heap.size, 0, none⟩) ∧ wx.heap[wr.heap.size]? = some (.cells #[.string x, .string y] 36 (0, 0)) ∧ Below wr.heap.size wr wx)
        case first =>
          go_region_law (fail)
          all_goals
            go_wp2_with fail
            go_meet
            exact ⟨rfl, alloc_at wr _, Below.drew (alloc_belowS wr _)⟩
        case rest =>
          obtain ⟨rfl, hbx, hbc⟩ := hcut
          have hz := (hbc.block w.heap.size (Array.getElem?_eq_some_iff.1 H0.out).1).trans H0.out
          have HBW := Lib.hid (Below.now hb hbc)
          obtain ⟨s0, s1⟩ := sys_cells hbx
          clear hbc H0 p0 p1 c0 c1 f0 f1 hb ho HT HS
          have PW := Lib.hid (fun v W (h : v.size ≤ s.size) => specWordOk_any 4 v W (by unfold maxLen; omega))
          cases h1 : wordOkB 4 x
          · have F := Lib.hid (RetRule.zero (m := s.size) HBW.out)
            obtain ⟨z0, z1⟩ := sys_cells hz
            obtain ⟨u0, u1⟩ := sys_cells (set_two hz (.string ⟨#[]⟩) (.string ⟨#[]⟩))
            have ff0 : wc.frozen? ⟨w.heap.size, 0, none⟩ = false := by simp [World.frozen?, hz]
            have ff1 : wc.frozen? ⟨w.heap.size, 1, none⟩ = false := by simp [World.frozen?, hz]
            clear hz
            go_wp2_with (go_at_call 130; refine (PW.out _ _ (by first | exact hx | exact hy)).mono ?_; rintro e w' ⟨rfl, rfl⟩; (try rw [h1]))
            refine bodyPost_ret (v := .tuple #[.agg #[.string ⟨#[]⟩, .string ⟨#[]⟩], .bool false]) ?_ rfl F.out
            simp [results, Tryz.results96, go_sem, u0, u1]
          · cases h2 : wordOkB 4 y
            · have F := Lib.hid (RetRule.zero (m := s.size) HBW.out)
              obtain ⟨z0, z1⟩ := sys_cells hz
              obtain ⟨u0, u1⟩ := sys_cells (set_two hz (.string ⟨#[]⟩) (.string ⟨#[]⟩))
              have ff0 : wc.frozen? ⟨w.heap.size, 0, none⟩ = false := by simp [World.frozen?, hz]
              have ff1 : wc.frozen? ⟨w.heap.size, 1, none⟩ = false := by simp [World.frozen?, hz]
              clear hz
              go_wp2_with (go_at_call 130; refine (PW.out _ _ (by first | exact hx | exact hy)).mono ?_; rintro e w' ⟨rfl, rfl⟩; (try rw [h1]); (try rw [h2]))
              refine bodyPost_ret (v := .tuple #[.agg #[.string ⟨#[]⟩, .string ⟨#[]⟩], .bool false]) ?_ rfl F.out
              simp [results, Tryz.results96, go_sem, u0, u1]
            · have HFR := Lib.hid (fun W => specFormatRule_any x y W (by unfold maxLen; omega))
              have HZ := Lib.hid hz
              clear hz
              go_wp2_with (go_at_call 130; refine (PW.out _ _ (by first | exact hx | exact hy)).mono ?_; rintro e w' ⟨rfl, rfl⟩; (try rw [h1]); (try rw [h2]))
              refine (HFR.out _).mono ?_
              rintro e w3 ⟨rfl, hb3⟩
              have hz := (hb3.block w.heap.size (Array.getElem?_eq_some_iff.1 HZ.out).1).trans HZ.out
              obtain ⟨s0, s1⟩ := sys_cells ((hb3.block wr.heap.size (Array.getElem?_eq_some_iff.1 hbx).1).trans hbx)
              replace HBW := Lib.hid (Below.now HBW.out hb3)
              clear hb3 hbx HZ HFR PW
              generalize ruleT (x, y) = rt at *
              cases hq : (rt.toList == s.toList)
              · have F := Lib.hid (RetRule.zero (m := s.size) HBW.out)
                obtain ⟨z0, z1⟩ := sys_cells hz
                obtain ⟨u0, u1⟩ := sys_cells (set_two hz (.string ⟨#[]⟩) (.string ⟨#[]⟩))
                have ff0 : w3.frozen? ⟨w.heap.size, 0, none⟩ = false := by simp [World.frozen?, hz]
                have ff1 : w3.frozen? ⟨w.heap.size, 1, none⟩ = false := by simp [World.frozen?, hz]
                clear hz
                go_wp2_with fail
                refine bodyPost_ret (v := .tuple #[.agg #[.string ⟨#[]⟩, .string ⟨#[]⟩], .bool false]) ?_ rfl F.out
                simp [results, Tryz.results96, go_sem, u0, u1]
              · have F : Hid (RetRule s.size w (.returned (.tuple #[.agg #[.string x, .string y], .bool true])) ((w3.setCell ⟨w.heap.size, 0, none⟩ (.string x)).setCell ⟨w.heap.size, 1, none⟩ (.string y))) := Lib.hid ⟨x, y, true, ⟨hx, hy⟩, rfl, (HBW.out.setCell (Nat.le_refl _) _).setCell (Nat.le_refl _) _⟩
                obtain ⟨z0, z1⟩ := sys_cells hz
                obtain ⟨u0, u1⟩ := sys_cells (set_two hz (.string x) (.string y))
                have ff0 : w3.frozen? ⟨w.heap.size, 0, none⟩ = false := by simp [World.frozen?, hz]
                have ff1 : w3.frozen? ⟨w.heap.size, 1, none⟩ = false := by simp [World.frozen?, hz]
                clear hz
                go_wp2_with fail
                refine bodyPost_ret (v := .tuple #[.agg #[.string x, .string y], .bool true]) ?_ rfl F.out
                simp [results, Tryz.results96, go_sem, u0, u1]
  · have h2i : ((l.length : Int) == 2) = false := beq_eq_false_iff_ne.2 (by omega)
    have h2n : ¬ (l.length : Int) = 2 := by omega
    have F := Lib.hid (RetRule.zero (m := s.size) (Below.now HW1.out hb2))
    obtain ⟨z0, z1⟩ := sys_cells hb0
    obtain ⟨u0, u1⟩ := sys_cells (set_two hb0 (.string ⟨#[]⟩) (.string ⟨#[]⟩))
    clear hb2 ho
    go_wp2_with fail
    refine bodyPost_ret (v := .tuple #[.agg #[.string ⟨#[]⟩, .string ⟨#[]⟩], .bool false]) ?_ rfl F.out
    simp [results, Tryz.results96, go_sem, u0, u1]
end Go.Proofs.YtdhaebbfiaddnaaGreatDoor
namespace Go.Proofs.YtdhaebbfiaddnaaGreatDoor
open Go.RowKit
set_option linter.unusedVariables false
section
variable {P : Program}
/-- append of one element to a row that lies from H on, at a plain region's list -/
theorem wpList_appH {ops : Array Oper} {rest : List Oper} {o : Oper} {a : Act} {Q : Exit → Act → World → Prop} {T tsl : TypeId} {z : Value} {size bytes : Nat} (hg : o.guard = none) (s x : Operand)
    (ho : o.op = .call { callee := .builtin .append, args := #[s, x], argTypes := #[tsl, tsl] }) (ht : P.underlying tsl = some (.slice T)) (hinfo : (P.info? T).map (fun i => (i.zero, i.size, i.bytes)) = some (some z, size, bytes))
    (hzs : z.cells.size = size) (hpos : 0 < size) {H : Nat} {wr : World} {v : Value} {n : Nat} {xs news : List Value} (hs : a.eval s = v) (hb : wr.ownsRow H T size v n xs) (hH : H ≤ wr.heap.size) (hx : a.eval x = .slice (some ⟨wr.heap.size, 0, none⟩) 1 1)
    (hn : news.length = size) (h1 : ∀ u ∈ news, u.oneCell' = true) (h63 : n + 1 ≤ maxLen) (hbytes : (n + 1) * bytes ≤ 140737488355328)
    (hK : ∀ g cap w', w'.ownsRow H T size (.slice (some ⟨g, 0, none⟩) (n + 1) cap) (n + 1) (xs ++ news) → (wr.alloc (.cells news.toArray T)).grownBy w' v.ownBlock → ((Value.slice (some ⟨g, 0, none⟩) (n + 1) cap).ownBlock = v.ownBlock ∨ (Value.slice (some ⟨g, 0, none⟩) (n + 1) cap).ownBlock = some (wr.alloc (.cells news.toArray T)).heap.size) → wpList P ops Q rest (a.put o.dst (.slice (some ⟨g, 0, none⟩) (n + 1) cap)) w') :
    wpList P ops Q (o :: rest) a (wr.alloc (.cells news.toArray T)) := by
  obtain ⟨i0, hi, hz0, hz1, hz2⟩ := info_parts hinfo
  refine wpList_append_lies (w := wr.alloc (.cells news.toArray T)) hg s x tsl ho H T i0 z size bytes ht hi hz0 hz1 hz2 hzs hpos v n xs hs (hb.alloc _) ⟨wr.heap.size, 0, none⟩ 1 1 news hx (by omega) ?_ h1 (by omega) h63 hbytes ?_ _ rfl ?_
  · intro j u hu
    have hadd : (⟨wr.heap.size, 0, none⟩ : Addr).add j = ⟨wr.heap.size, j, none⟩ := by unfold Addr.add; split <;> simp_all
    rw [hadd, World.cell?_alloc_new]
    simpa using hu
  · simp; omega
  · intro g cap w' hown hgr ho _
    refine hK g cap w' hown hgr ?_
    rcases ho with ho | ho
    · exact .inl ho.symm
    · exact .inr (by rw [ho]; rfl)
end
end Go.Proofs.YtdhaebbfiaddnaaGreatDoor
namespace Go.Proofs.YtdhaebbfiaddnaaGreatDoor
open Go.RowKit
set_option linter.unusedVariables false
/-- rules whose sides have at most m bytes -/
def ShortR (m : Nat) (R : List RulD) : Prop := ∀ r ∈ R, r.1.size ≤ m ∧ r.2.size ≤ m
theorem ShortR.app {m : Nat} {R : List RulD} {r : RulD} (h : ShortR m R) (hr : r.1.size ≤ m ∧ r.2.size ≤ m) : ShortR m (R ++ [r]) := by
  intro x hx
  rcases List.mem_append.1 hx with h1 | h1
  · exact h x h1
  · obtain rfl : x = r := by simpa using h1
    exact hr
theorem ShortR.sz {m : Nat} {R : List RulD} (h : ShortR m R) (hm : m ≤ maxLen) : SzR R := fun j hj => ⟨Nat.le_trans (h _ (nthR_mem hj)).1 hm, Nat.le_trans (h _ (nthR_mem hj)).2 hm⟩
/-- some system in memory -/
def RetPS (m : Nat) (w : World) (e : Ending) (w' : World) : Prop := ∃ (k : Int) (R : List RulD) (a : Option Addr) (cap : Nat) (b : Bool),
  (ShortR m R ∧ R.length ≤ m) ∧ e = .returned (.tuple #[.agg #[.int .i64 k, .slice a R.length cap], .bool b]) ∧ RulesIn w' a R ∧ Below w.heap.size w w'
theorem RetPS.zero {m : Nat} {w wr : World} (h : Below w.heap.size w wr) : RetPS m w (.returned (.tuple #[.agg #[.int .i64 0, .slice none 0 0], .bool false])) ((wr.setCell ⟨w.heap.size, 0, none⟩ (.int .i64 0)).setCell ⟨w.heap.size, 1, none⟩ (.slice none 0 0)) :=
  ⟨0, [], none, 0, false, ⟨fun r hr => by simp at hr, Nat.zero_le _⟩, rfl, .inl rfl, (h.setCell (Nat.le_refl _) _).setCell (Nat.le_refl _) _⟩
set_option maxRecDepth 20000 in
set_option maxHeartbeats 4000000 in
theorem specParseSystem_any (s : ByteArray) (w : World) (hs : s.size ≤ 1000) :
    Calls Tryz.prog 61 #[.string s] w (RetPS (s.size + 1) w) := by
  have HSP := Lib.hid (fun W => specSplitAny_any s 32 W (by omega))
  have HW1 := Lib.hid ((Below.refl w.heap.size w).alloc (Nat.le_refl _) (.cells #[.int .i64 0, .slice none 0 0] 25))
  go_enter Tryz.func61, Tryz.ntmps61
  go_wp2_with fail
  refine (HSP.out _).mono ?_
  rintro e w2 ⟨l, ⟨hl1, hl2, hl3⟩, a, cap, rfl, ho, hb2⟩
  have hb0 := (hb2.block w.heap.size (by simp)).trans (alloc_at w (.cells #[.int .i64 0, .slice none 0 0] 25))
  have hcap := owns_capS ho
  obtain ⟨g, hg, off, rfl, hcells⟩ : ∃ g, g < w2.heap.size ∧ ∃ off, a = some ⟨g, off, none⟩ ∧ ∀ j, j < l.length → w2.cell? ⟨g, off + j, none⟩ = some (.string (nthS l j)) := by
    obtain ⟨b, off, ha, hb, hc⟩ := (owns_strs ho).cell (show 0 < l.length by omega)
    exact ⟨b, hb, off, ha, hc⟩
  have hc0 : w2.cell? ⟨g, off, none⟩ = some (.string (nthS l 0)) := hcells 0 (by omega)
  have hz0 := hl1.at_ (show 0 < l.length by omega)
  have HPI := Lib.hid (fun W => specParseInt_any (nthS l 0) W (by omega))
  have HB2 := Lib.hid (Below.now HW1.out hb2)
  have HC := Lib.hid hcells
  have HO := Lib.hid hb0
  clear hcells hb2 ho hz0 hb0
  generalize nthS l 0 = s0 at *
  go_wp2_with fail
  refine (HPI.out _).mono ?_
  rintro e w3 ⟨n, b, ⟨hn1, hn2⟩, rfl, hb3⟩
  have hb0 := (hb3.block w.heap.size (Array.getElem?_eq_some_iff.1 HO.out).1).trans HO.out
  have HB3 := Lib.hid (Below.now HB2.out hb3)
  have HC3 : Hid (∀ j, j < l.length → w3.cell? ⟨g, off + j, none⟩ = some (.string (nthS l j))) := Lib.hid (fun j hj => by rw [hb3.cell (World.block_lt_of_cell? w2 _ (HC.out j hj))]; exact HC.out j hj)
  clear hb3 HC HO HPI hc0
  cases b
  · have F := Lib.hid (RetPS.zero (m := s.size + 1) HB3.out)
    obtain ⟨z0, z1⟩ := sys_cells hb0
    obtain ⟨u0, u1⟩ := sys_cells (set_two hb0 (.int .i64 0) (.slice none 0 0))
    have ff0 : w3.frozen? ⟨w.heap.size, 0, none⟩ = false := by simp [World.frozen?, hb0]
    have ff1 : w3.frozen? ⟨w.heap.size, 1, none⟩ = false := by simp [World.frozen?, hb0]
    clear hb0
    go_wp2_with fail
    refine bodyPost_ret (v := .tuple #[.agg #[.int .i64 0, .slice none 0 0], .bool false]) ?_ rfl F.out
    simp [results, Tryz.results61, go_sem, u0, u1]
  · have HR := Lib.hid (Rec2.start 25 36 2 (w := w3) (w1 := w3) (Below.refl _ _) (.int .i64 n))
    obtain ⟨m, hm⟩ : ∃ m, l.length = m + 1 := ⟨l.length - 1, by omega⟩
    have HZ := Lib.hid hb0
    clear hb0
    go_upto_region 6 with fail
    generalize hW4 : w3.alloc (.cells #[.int .i64 n, .slice none 0 0] 25) = w4 at *
    go_cut [27, 28, 29] (fun v u i wx => ∃ off2 cap2, v = .slice (some ⟨g, off2, none⟩) m cap2 ∧ u = .int .i64 (m : Nat) ∧ i = .int .i64 0 ∧ (∀ j, j < m → w3.cell? ⟨g, off2 + j, none⟩ = some (.string (nthS l (j + 1)))) ∧ wx = w4)
    case first =>
      by_cases hc1 : cap = 1
      · subst hc1
        obtain rfl : m = 0 := by omega
        go_wp2_with fail
        go_meet
        exact ⟨_, _, rfl, rfl, rfl, fun j hj => by omega, rfl⟩
      · have hc2 : (1 : Int) < (cap : Int) := by omega
        have hc3 : ¬ (cap : Int) = 1 := by omega
        have HCC : Hid (∀ j, j < m → w3.cell? ⟨g, off + 1 + j, none⟩ = some (.string (nthS l (j + 1)))) := Lib.hid (fun j hj => by rw [show off + 1 + j = off + (j + 1) by omega]; exact HC3.out (j + 1) (by omega))
        go_wp2_with fail
        go_meet
        exact ⟨_, _, rfl, rfl, rfl, HCC.out, rfl⟩
    case rest =>
      obtain ⟨off2, cap2, rfl, rfl, rfl, hcs, rfl⟩ := hcut
      have HCS := Lib.hid hcs
      clear hcs HC3 hW4
      go_wp2_with fail
      go_loopw [29] (fun i wr => ∃ (R : List RulD) (v : Value), R.length ≤ m ∧ i = .int .i64 (R.length : Nat) ∧ Hid (ShortR s.size R) ∧ Hid (Rec2 25 36 2 w3 wr w3.heap.size (.int .i64 n) v R.length (ruleCells R))) (fun i _ => m - (intOf i).toNat)
      case atStart => exact ⟨[], .slice none 0 0, Nat.zero_le _, rfl, Lib.hid (fun r hr => by simp at hr), HR⟩
      case round =>
        clear HR
        obtain ⟨R, v, hj, rfl, hsh, HRC⟩ := hrel
        obtain ⟨a3, c3, rfl⟩ := owns_form HRC.out.own
        have HBW := Lib.hid (Below.now HB3.out HRC.out.below)
        have hz := (HRC.out.below.block w.heap.size (Array.getElem?_eq_some_iff.1 HZ.out).1).trans HZ.out
        have hsz := HRC.out.lt
        by_cases hlt : R.length < m
        · have cw : wr.cell? ⟨g, off2 + R.length, none⟩ = some (.string (nthS l (R.length + 1))) := by rw [HRC.out.below.cell (World.block_lt_of_cell? w3 _ (HCS.out R.length hlt))]; exact HCS.out R.length hlt
          have hnz := hl1.at_ (show R.length + 1 < l.length by omega)
          have HPR := Lib.hid (fun W => specParseRule_any (nthS l (R.length + 1)) W (by omega))
          generalize nthS l (R.length + 1) = sj at *
          have HZW := Lib.hid hz
          clear hz
          go_wp2_with fail
          refine (HPR.out _).mono ?_
          rintro e w5 ⟨x, y, b, ⟨hx, hy⟩, rfl, hb5⟩
          have HR5 := Lib.hid (HRC.out.later hb5)
          have HB5 := Lib.hid (Below.now HBW.out hb5)
          have hz5 := (hb5.block w.heap.size (Array.getElem?_eq_some_iff.1 HZW.out).1).trans HZW.out
          have HK6 := Lib.hid (fun o => alloc_belowS w5 o)
          have hz := ((HK6.out (.cells #[.string x, .string y] 36)).block w.heap.size (Array.getElem?_eq_some_iff.1 hz5).1).trans hz5
          have HR6 := Lib.hid (HR5.out.later (HK6.out (.cells #[.string x, .string y] 36)))
          replace HBW := Lib.hid (Below.now HB5.out (HK6.out (.cells #[.string x, .string y] 36)))
          obtain ⟨n0, n1⟩ := sys_cells (alloc_at w5 (.cells #[.string x, .string y] 36))
          clear HRC HZW cw hb5 HR5 HB5 hz5 HK6 HPR
          go_upto_region 10 with fail
          generalize w5.alloc (.cells #[.string x, .string y] 36) = w6 at *
          cases b
          · have F := Lib.hid (RetPS.zero (m := s.size + 1) HBW.out)
            obtain ⟨z0, z1⟩ := sys_cells hz
            obtain ⟨u0, u1⟩ := sys_cells (set_two hz (.int .i64 0) (.slice none 0 0))
            have ff0 : w6.frozen? ⟨w.heap.size, 0, none⟩ = false := by simp [World.frozen?, hz]
            have ff1 : w6.frozen? ⟨w.heap.size, 1, none⟩ = false := by simp [World.frozen?, hz]
            clear hz
            go_wp2_with fail
            refine bodyPost_ret (v := .tuple #[.agg #[.int .i64 0, .slice none 0 0], .bool false]) ?_ rfl F.out
            simp [results, Tryz.results61, go_sem, u0, u1]
          · have HN1 : Hid ([Value.string x, .string y].length = 1 * 2) := Lib.hid rfl
            have HN2 : Hid (∀ v ∈ [Value.string x, .string y], v.oneCell' = true) := Lib.hid (fun v hv => by simp at hv; rcases hv with rfl | rfl <;> rfl)
            obtain ⟨_, y1, _, y3⟩ := HR6.out.facts
            clear hz
            go_wp2_with (at_builtin; refine wpList_appH (n := R.length) (wr := w6) (news := [Value.string x, .string y]) rfl (.tmp 42) (.tmp 44) rfl Tryz.underlying23 Tryz.infoRule rfl (by decide) rfl HR6.out.own HR6.out.lt rfl HN1.out HN2.out (by unfold maxLen; omega) (by omega) ?_; intro g4 c4 w4 ho4 hg4 hr4; obtain ⟨_, x1, _, x3⟩ := rec_cells (HR6.out.grown (Below.refl _ _) hg4))
            have HR4 : Hid (Rec2 25 36 2 w3 (w4.setCell ⟨w3.heap.size, 1, none⟩ (.slice (some ⟨g4, 0, none⟩) (R.length + 1) c4)) w3.heap.size (.int .i64 n) (.slice (some ⟨g4, 0, none⟩) (R.length + 1) c4) (R ++ [(x, y)]).length (ruleCells (R ++ [(x, y)]))) := Lib.hid (by
              rw [List.length_append, ruleCells_app, show ruleCells [(x, y)] = [Value.string x, .string y] from rfl]; exact HR6.out.put (Below.refl _ _) hg4 ho4)
            have HSH := Lib.hid (hsh.out.app (r := (x, y)) ⟨by show x.size ≤ s.size; omega, by show y.size ≤ s.size; omega⟩)
            clear ho4 hg4 hr4 y1 y3 n0 n1 x1 x3
            go_wp2_with fail
            go_roundw
            case rel => exact ⟨R ++ [(x, y)], _, by simp; omega, by simp, HSH, HR4⟩
            case measure => simp [intOf]; omega
        · obtain rfl : m = R.length := by omega
          have HRO := Lib.hid (fun W h => specRulesOk_any n R a3 c3 W h (by omega) (hsh.out.sz (by unfold maxLen; omega)))
          have HFS := Lib.hid (fun W h => specFormatSystem_any n R a3 c3 W h (by omega) (hsh.out.sz (by unfold maxLen; omega)))
          have HRI := Lib.hid (owns_rules HRC.out.own)
          obtain ⟨y0, y1, _, _⟩ := HRC.out.facts
          have HZW := Lib.hid hz
          clear hz
          go_wp2_with fail
          refine (HRO.out _ HRI.out).mono ?_
          rintro e w5 ⟨bb, hbb, rfl, hb5⟩
          have HR5 := Lib.hid (HRC.out.later hb5)
          replace HBW := Lib.hid (Below.now HBW.out hb5)
          have hz := (hb5.block w.heap.size (Array.getElem?_eq_some_iff.1 HZW.out).1).trans HZW.out
          clear HRC HZW hb5 HRO hbb y0 y1 HRI
          cases bb
          · have F := Lib.hid (RetPS.zero (m := s.size + 1) HBW.out)
            obtain ⟨z0, z1⟩ := sys_cells hz
            obtain ⟨u0, u1⟩ := sys_cells (set_two hz (.int .i64 0) (.slice none 0 0))
            have ff0 : w5.frozen? ⟨w.heap.size, 0, none⟩ = false := by simp [World.frozen?, hz]
            have ff1 : w5.frozen? ⟨w.heap.size, 1, none⟩ = false := by simp [World.frozen?, hz]
            clear hz
            go_wp2_with fail
            refine bodyPost_ret (v := .tuple #[.agg #[.int .i64 0, .slice none 0 0], .bool false]) ?_ rfl F.out
            simp [results, Tryz.results61, go_sem, u0, u1]
          · have HRI := Lib.hid (owns_rules HR5.out.own)
            obtain ⟨y0, y1, _, _⟩ := HR5.out.facts
            have HZW := Lib.hid hz
            clear hz
            go_wp2_with fail
            refine (HFS.out _ HRI.out).mono ?_
            rintro e w6 ⟨rfl, hb6⟩
            have HR6 := Lib.hid (HR5.out.later hb6)
            replace HBW := Lib.hid (Below.now HBW.out hb6)
            have hz := (hb6.block w.heap.size (Array.getElem?_eq_some_iff.1 HZW.out).1).trans HZW.out
            clear HR5 HZW hb6 HFS y0 y1 HRI
            generalize sysT0 n R = st at *
            cases hq : (st.toList == s.toList)
            · have F := Lib.hid (RetPS.zero (m := s.size + 1) HBW.out)
              obtain ⟨z0, z1⟩ := sys_cells hz
              obtain ⟨u0, u1⟩ := sys_cells (set_two hz (.int .i64 0) (.slice none 0 0))
              have ff0 : w6.frozen? ⟨w.heap.size, 0, none⟩ = false := by simp [World.frozen?, hz]
              have ff1 : w6.frozen? ⟨w.heap.size, 1, none⟩ = false := by simp [World.frozen?, hz]
              clear hz
              go_wp2_with fail
              refine bodyPost_ret (v := .tuple #[.agg #[.int .i64 0, .slice none 0 0], .bool false]) ?_ rfl F.out
              simp [results, Tryz.results61, go_sem, u0, u1]
            · have F : Hid (RetPS (s.size + 1) w (.returned (.tuple #[.agg #[.int .i64 n, .slice a3 R.length c3], .bool true])) ((w6.setCell ⟨w.heap.size, 0, none⟩ (.int .i64 n)).setCell ⟨w.heap.size, 1, none⟩ (.slice a3 R.length c3))) := Lib.hid ⟨n, R, a3, c3, true, ⟨fun r hr => ⟨Nat.le_trans (hsh.out r hr).1 (by omega), Nat.le_trans (hsh.out r hr).2 (by omega)⟩, by omega⟩, rfl,
                owns_rules (ownsRow_setCell_below (ownsRow_setCell_below HR6.out.own (by show w.heap.size < w3.heap.size + 1; have := HB3.out.size; omega) _) (by show w.heap.size < w3.heap.size + 1; have := HB3.out.size; omega) _), (HBW.out.setCell (Nat.le_refl _) _).setCell (Nat.le_refl _) _⟩
              obtain ⟨y0, y1, _, _⟩ := HR6.out.facts
              obtain ⟨z0, z1⟩ := sys_cells hz
              obtain ⟨u0, u1⟩ := sys_cells (set_two hz (.int .i64 n) (.slice a3 R.length c3))
              have ff0 : w6.frozen? ⟨w.heap.size, 0, none⟩ = false := by simp [World.frozen?, hz]
              have ff1 : w6.frozen? ⟨w.heap.size, 1, none⟩ = false := by simp [World.frozen?, hz]
              clear hz
              go_wp2_with fail
              refine bodyPost_ret (v := .tuple #[.agg #[.int .i64 n, .slice a3 R.length c3], .bool true]) ?_ rfl F.out
              simp [results, Tryz.results61, go_sem, u0, u1]
end Go.Proofs.YtdhaebbfiaddnaaGreatDoor
namespace Go.Proofs.YtdhaebbfiaddnaaGreatDoor
open Go.RowKit
set_option linter.unusedVariables false
def RetOri (k : Int) (w : World) (e : Ending) (w' : World) : Prop := ∃ (p : RulD) (b : Bool), (b = true → ruleP k p ∧ lessS p.2 p.1 = true) ∧ e = .returned (.tuple #[.agg #[.string p.1, .string p.2], .bool b]) ∧ Below w.heap.size w w'
theorem RetOri.zero {k : Int} {w wr : World} (h : Below w.heap.size w wr) : RetOri k w (.returned (.tuple #[.agg #[.string ⟨#[]⟩, .string ⟨#[]⟩], .bool false])) ((wr.setCell ⟨w.heap.size + 1, 0, none⟩ (.string ⟨#[]⟩)).setCell ⟨w.heap.size + 1, 1, none⟩ (.string ⟨#[]⟩)) :=
  ⟨(⟨#[]⟩, ⟨#[]⟩), false, fun h => Bool.noConfusion h, rfl, (h.setCell (by show w.heap.size ≤ w.heap.size + 1; omega) _).setCell (by show w.heap.size ≤ w.heap.size + 1; omega) _⟩
theorem RetOri.some {k : Int} {w wr : World} {x y : ByteArray} (hr : ruleP k (x, y)) (hl : lessS y x = true) (h : Below w.heap.size w wr) : RetOri k w (.returned (.tuple #[.agg #[.string x, .string y], .bool true])) ((wr.setCell ⟨w.heap.size + 1, 0, none⟩ (.string x)).setCell ⟨w.heap.size + 1, 1, none⟩ (.string y)) :=
  ⟨(x, y), true, fun _ => ⟨hr, hl⟩, rfl, (h.setCell (by show w.heap.size ≤ w.heap.size + 1; omega) _).setCell (by show w.heap.size ≤ w.heap.size + 1; omega) _⟩
set_option maxRecDepth 20000 in
set_option maxHeartbeats 4000000 in
theorem specOrientRule_any (k : Int) (x y : ByteArray) (w : World) (hx : x.size ≤ maxLen) (hy : y.size ≤ maxLen) :
    Calls Tryz.prog 64 #[.int .i64 k, .agg #[.string x, .string y]] w (RetOri k w) := by
  have HSD := Lib.hid (fun W => specSidesOk_any k x y W hx hy)
  have HIL := Lib.hid (fun W => specIsLess_any x y W hx hy)
  have hlt := alloc_two w (.cells #[.string x, .string y] 36) (.cells #[.string ⟨#[]⟩, .string ⟨#[]⟩] 36)
  have hsz : ((w.alloc (.cells #[.string x, .string y] 36)).alloc (.cells #[.string ⟨#[]⟩, .string ⟨#[]⟩] 36)).heap.size = w.heap.size + 2 := by simp
  have HW0 : Hid (Below w.heap.size w ((w.alloc (.cells #[.string x, .string y] 36)).alloc (.cells #[.string ⟨#[]⟩, .string ⟨#[]⟩] 36))) := Lib.hid (Below.now (alloc_belowS w _) (alloc_belowS _ _))
  go_enter Tryz.func64, Tryz.ntmps64
  go_wp2_with fail
  refine (HSD.out _).mono ?_
  rintro e w2 ⟨bb, hbb, rfl, hb2⟩
  have HBB := Lib.hid hbb
  have hbx := (hb2.block w.heap.size (by rw [hsz]; omega)).trans hlt.1
  have hz := (hb2.block (w.heap.size + 1) (by rw [hsz]; omega)).trans hlt.2
  have HBW := Lib.hid (Below.now HW0.out hb2)
  clear hbb hb2 HSD hlt hsz
  obtain ⟨s0, s1⟩ := sys_cells hbx
  obtain ⟨z0, z1⟩ := sys_cells hz
  have ff0 : w2.frozen? ⟨w.heap.size + 1, 0, none⟩ = false := by simp [World.frozen?, hz]
  have ff1 : w2.frozen? ⟨w.heap.size + 1, 1, none⟩ = false := by simp [World.frozen?, hz]
  cases bb
  · have F := Lib.hid (RetOri.zero (k := k) HBW.out)
    obtain ⟨u0, u1⟩ := sys_cells (set_two hz (.string ⟨#[]⟩) (.string ⟨#[]⟩))
    go_wp2_with fail
    refine bodyPost_ret (v := .tuple #[.agg #[.string ⟨#[]⟩, .string ⟨#[]⟩], .bool false]) ?_ rfl F.out
    simp [results, Tryz.results64, go_sem, u0, u1]
  · have hsd := HBB.out.1 rfl
    cases hq : (x.toList == y.toList)
    · have hne : x ≠ y := fun e => by rw [e] at hq; simp at hq
      have hor := orF2_less hne
      unfold orF2 at hor
      cases hls : lessS x y
      · have F := Lib.hid (RetOri.some (k := k) (x := x) (y := y) ⟨hsd, by rw [hls] at hor; exact less_ne hor⟩ (by rw [hls] at hor; exact hor) HBW.out)
        obtain ⟨u0, u1⟩ := sys_cells (set_two hz (.string x) (.string y))
        rw [hls] at HIL
        clear hor hsd hne hbx hz HBB
        go_wp2_with (go_at_call 99; refine (HIL.out _).mono ?_; rintro e w' ⟨rfl, rfl⟩)
        refine bodyPost_ret (v := .tuple #[.agg #[.string x, .string y], .bool true]) ?_ rfl F.out
        simp [results, Tryz.results64, go_sem, u0, u1]
      · have F := Lib.hid (RetOri.some (k := k) (x := y) (y := x) ⟨⟨⟨hsd.1.2, hsd.1.1⟩, hsd.2.2, hsd.2.1⟩, less_ne hls⟩ hls HBW.out)
        obtain ⟨u0, u1⟩ := sys_cells (set_two hz (.string y) (.string x))
        rw [hls] at HIL
        clear hor hsd hne hbx hz HBB
        go_wp2_with (go_at_call 99; refine (HIL.out _).mono ?_; rintro e w' ⟨rfl, rfl⟩)
        refine bodyPost_ret (v := .tuple #[.agg #[.string y, .string x], .bool true]) ?_ rfl F.out
        simp [results, Tryz.results64, go_sem, u0, u1]
    · have F := Lib.hid (RetOri.zero (k := k) HBW.out)
      obtain ⟨u0, u1⟩ := sys_cells (set_two hz (.string ⟨#[]⟩) (.string ⟨#[]⟩))
      clear hsd hbx hz HBB
      go_wp2_with fail
      refine bodyPost_ret (v := .tuple #[.agg #[.string ⟨#[]⟩, .string ⟨#[]⟩], .bool false]) ?_ rfl F.out
      simp [results, Tryz.results64, go_sem, u0, u1]
end Go.Proofs.YtdhaebbfiaddnaaGreatDoor
