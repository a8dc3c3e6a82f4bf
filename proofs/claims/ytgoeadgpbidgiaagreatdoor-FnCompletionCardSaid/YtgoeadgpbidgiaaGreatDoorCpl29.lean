/-
  A completion, as plain data: no rule is spare, and each equation costs a turn.
-/
import Derived.Test.YtgoeadgpbidgiaaGreatDoorCpl18
import Derived.Test.YtgoeadgpbidgiaaGreatDoorCpl25
import Derived.Test.YtgoeadgpbidgiaaGreatDoorCpl28
import Derived.Test.YtgoeadgpbidgiaaGreatDoorCpl12
import Derived.Test.YtgoeadgpbidgiaaGreatDoorCpl14
namespace Go.Proofs.YtgoeadgpbidgiaaGreatDoor
open Go.RowKit
set_option linter.unusedVariables false
theorem strLit_atE (B : Nat) (a : Option Addr) (l : List UInt8) (cap : Nat) (ls : List ByteArray) (arr : Array Value) (n g : Nat) (w : World) (h : CurOk w B a l cap) (hg : w.heap.size = g) (h1 : 1 ≤ n) (h2 : n ≤ 256) (he : (strVals ls).toArray = arr) (hn : ls.length = n) :
    Calls Tryz.prog 78 #[.pointer (some ⟨B, 0, none⟩), .slice (some ⟨g, 0, none⟩) n n] (w.alloc (.cells arr 9)) fun e w' => ∃ i : Nat, i < n ∧ e = .returned (.string (nthS ls i)) ∧ CurOk w' B a l cap ∧ w.grownBy w' (some B) := by
  subst he hn hg
  exact strLit_any B a l cap ls w h h1 h2
/-- equations in memory, being made -/
structure EqSt (B : Nat) (a : Option Addr) (l : List UInt8) (cap : Nat) (w wr : World) (v : Value) (E : List RulD) : Prop where
  cur : CurOk wr B a l cap
  row : ownsOff wr w.heap.size 39 2 v E.length (ruleCells E)
  gr : w.grownBy wr (some B)
  side : ∀ r ∈ E, sideP 2 r
section
variable {B : Nat} {a : Option Addr} {l : List UInt8} {cap : Nat} {w wr : World} {v : Value} {E : List RulD}
theorem EqSt.next {w' : World} (hB : B < w.heap.size) (h : EqSt B a l cap w wr v E) (hc : CurOk w' B a l cap) (hg : wr.grownBy w' (some B)) : EqSt B a l cap w w' v E :=
  ⟨hc, h.row.kept hg (by
    cases e : v.ownBlock with
    | none => exact .inl rfl
    | some k =>
      refine .inr (fun e2 => ?_)
      have := (h.row.lt k e).1
      have := Option.some.inj e2
      omega), grown_tr h.gr hg, h.side⟩
theorem EqSt.start (h : CurOk w B a l cap) : EqSt B a l cap w (w.alloc (.cells #[] 39)) (.slice (some ⟨w.heap.size, 0, none⟩) 0 0) [] :=
  ⟨h.alloc _, off_empty 39 2 w _ (Below.refl _ _), grown_alloc ⟨rfl, rfl, rfl, Nat.le_refl _, fun _ _ _ => rfl⟩ _, fun r hr => by cases hr⟩
theorem EqSt.put {w4 : World} {v' : Value} {r : RulD} {o : Obj} (hB : B < w.heap.size) (hA : l ≠ [] → ∀ x, a = some x → x.block < w.heap.size) (h : EqSt B a l cap w wr v E) (hr : sideP 2 r) (ho : ownsOff w4 w.heap.size 39 2 v' (E.length + 1) (ruleCells E ++ [.string r.1, .string r.2])) (hg : (wr.alloc o).grownBy w4 v.ownBlock) : EqSt B a l cap w w4 v' (E ++ [r]) := by
  have hown : ∀ k, v.ownBlock = some k → w.heap.size ≤ k := fun k hk => (h.row.lt k hk).1
  refine ⟨(h.cur.alloc o).grownO hg (fun e => ?_) (fun hl x hx e => ?_), ?_, ?_, fun x hx => ?_⟩
  · have := hown B e; omega
  · have := hown _ e; have := hA hl x hx; omega
  · rw [List.length_append, ruleCells_app]
    exact ho
  · exact gstep (grown_alloc h.gr o) hg (fun k hk => .inr (hown k hk))
  · rcases List.mem_append.1 hx with h1 | h1
    · exact h.side x h1
    · rw [List.mem_singleton.1 h1]; exact hr
end
def RetEq (B : Nat) (a : Option Addr) (l : List UInt8) (cap : Nat) (w : World) (e : Ending) (w' : World) : Prop := ∃ (k : Nat) (E : List RulD) (aE : Option Addr) (cE : Nat), startP (k : Int) E ∧ e = .returned (.tuple #[.int .i64 (k : Nat), .slice aE E.length cE]) ∧ RulesIn w' aE E ∧ w.grownBy w' (some B)
set_option maxRecDepth 20000 in
set_option maxHeartbeats 4000000 in
theorem l06Equations_any (B : Nat) (a : Option Addr) (l : List UInt8) (cap : Nat) (w : World) (h : CurOk w B a l cap) :
    Calls Tryz.prog 37 #[.pointer (some ⟨B, 0, none⟩)] w (RetEq B a l cap w) := by
  have HLT := Lib.hid h.lt
  have HA : Hid (l ≠ [] → ∀ x, a = some x → x.block < w.heap.size) := Lib.hid (fun hl => curNe h.bytes hl)
  have HS0 := Lib.hid (EqSt.start h)
  clear h
  go_enter Tryz.func37, Tryz.ntmps37
  go_wp2_with fail
  refine (l01Once_any B 3 a l cap _ HS0.out.cur (by omega) (by omega)).mono ?_
  rintro e w2 ⟨b, rfl, hc2, hg2⟩
  have HS2 := Lib.hid (HS0.out.next HLT.out hc2 hg2)
  clear hc2 hg2 HS0
  cases b
  · go_wp2_with fail
    refine (l01Below_any B 2 a l cap _ HS2.out.cur (by omega) (by omega)).mono ?_
    rintro e w3 ⟨x, hx, rfl, hc3, hg3⟩
    have HS3 := Lib.hid (HS2.out.next HLT.out hc3 hg3)
    clear hc3 hg3 HS2
    have hx1 : (1 : Int) + (x : Int) = ((1 + x : Nat) : Int) := by omega
    obtain ⟨n0, hn0⟩ : ∃ n0, 1 + x = n0 := ⟨_, rfl⟩
    rw [hn0] at hx1
    have hn2 : n0 ≤ 2 := by omega
    go_wp2_with fail
    go_loopw [5, 8] (fun v n wr => ∃ (i : Nat) (E : List RulD), i + E.length ≤ 2 ∧ n = .int .i64 (i : Nat) ∧ Hid (EqSt B a l cap w wr v E)) (fun _ n _ => (intOf n).toNat)
    case atStart => exact ⟨n0, [], by simpa using hn2, by first | rw [hx1] | rfl | simp [hx1], HS3⟩
    case round =>
      clear HS3 hx1 hn0 hn2
      obtain ⟨i, E, hE, rfl, HS⟩ := hrel
      obtain ⟨aE, cE, rfl⟩ := HS.out.row.form
      by_cases hi : 0 < i
      · have hi2 : (0 : Int) < (i : Int) := by omega
        have HD3 : Hid (∀ W, CurOk W B a l cap → Calls Tryz.prog 80 #[.pointer (some ⟨B, 0, none⟩), .int .i64 2, .int .i64 3] W fun e w' => ∃ s : ByteArray, (allB (letB 2) s = true ∧ s.size ≤ 3) ∧ e = .returned (.string s) ∧ CurOk w' B a l cap ∧ W.grownBy w' (some B)) := Lib.hid (fun W hW => l02Draw_any B 2 3 a l cap W hW (by omega) (by omega) (by omega))
        have HD2 : Hid (∀ W, CurOk W B a l cap → Calls Tryz.prog 80 #[.pointer (some ⟨B, 0, none⟩), .int .i64 2, .int .i64 2] W fun e w' => ∃ s : ByteArray, (allB (letB 2) s = true ∧ s.size ≤ 2) ∧ e = .returned (.string s) ∧ CurOk w' B a l cap ∧ W.grownBy w' (some B)) := Lib.hid (fun W hW => l02Draw_any B 2 2 a l cap W hW (by omega) (by omega) (by omega))
        go_wp2_with fail
        refine (HD3.out _ HS.out.cur).mono ?_
        rintro e w4 ⟨s, ⟨hs1, hs2⟩, rfl, hc4, hg4⟩
        have HS4 := Lib.hid (HS.out.next HLT.out hc4 hg4)
        clear hc4 hg4 HS
        go_wp2_with fail
        refine (HD2.out _ HS4.out.cur).mono ?_
        rintro e w5 ⟨t, ⟨ht1, ht2⟩, rfl, hc5, hg5⟩
        have HS5 := Lib.hid (HS4.out.next HLT.out hc5 hg5)
        have HSD : Hid (sideP 2 (s, t)) := Lib.hid ⟨⟨by unfold wordOkB; rw [hs1]; simp [inB]; omega, by unfold wordOkB; rw [ht1]; simp [inB]; omega⟩, by show s.size ≤ 8; omega, by show t.size ≤ 8; omega⟩
        clear hc5 hg5 HS4 hs1 ht1 HD3 HD2
        go_wp2_with (at_builtin; refine wpList_append_off rfl (.tmp 32) (.tmp 40) rfl Tryz.underlying25 Tryz.infoRule rfl (by decide) rfl (HS5.out.row.later (alloc_belowS _ (.cells #[.string s, .string t] 39))) (by have := HS5.out.gr.size; simp; omega) rfl (src_of Tryz.underlying25 (Src.lit (w := w5) (T := 39) (c := 1) (m := 1) [.string s, .string t]) rfl (fun u hu => by simp at hu; rcases hu with rfl | rfl <;> rfl)) (by unfold maxLen; omega) (by omega) ?_)
        intro v6 w6 ho6 hg6
        have HS6 := Lib.hid (HS5.out.put (r := (s, t)) HLT.out HA.out HSD.out ho6 hg6)
        clear ho6 hg6 HS5 HSD
        go_wp2_with fail
        go_roundw
        case rel => exact ⟨i - 1, E ++ [(s, t)], by simp; omega, by go_num, HS6⟩
        case measure => simp [intOf]; omega
      · obtain rfl : i = 0 := by omega
        have F : Hid (RetEq B a l cap w (.returned (.tuple #[.int .i64 ((2 : Nat) : Int), .slice aE E.length cE])) wr) := Lib.hid ⟨2, E, aE, cE, ⟨⟨by omega, by omega⟩, by omega, HS.out.side⟩, rfl, HS.out.row.cells, HS.out.gr⟩
        go_wp2_with fail
        refine bodyPost_ret (v := .tuple #[.int .i64 2, .slice aE E.length cE]) ?_ rfl F.out
        simp [results, Tryz.results37, go_sem]
  · go_wp2_with fail
    refine (strLit_atE B a l cap eqLits _ 7 _ _ HS2.out.cur rfl (by decide) (by decide) (by kernel_rfl) (by kernel_rfl)).mono ?_
    rintro e w3 ⟨i, hi, rfl, hc3, hg3⟩
    have HS3 := Lib.hid (HS2.out.next HLT.out hc3 hg3)
    obtain ⟨k, R, lx, htx⟩ := eqLits_tx i hi
    have HPS := Lib.hid (fun W => specParseSystem_x (nthS eqLits i) k R lx W htx)
    have hR12 : R.length ≤ 12 := htx.ok.1.2
    have HST : Hid (startP (k : Int) R) := Lib.hid ⟨htx.ok.1.1, htx.ok.1.2, fun r hr => (htx.ok.2 r hr).1⟩
    clear hc3 hg3 HS2 htx
    generalize nthS eqLits i = s at *
    go_wp2_with fail
    refine (HPS.out _).mono ?_
    rintro e w4 ⟨aR, cR, rfl, hR, hb4⟩
    have hg4 : w.grownBy w4 (some B) := gbel HS3.out.gr hb4
    have HRow4 := Lib.hid (HS3.out.row.later hb4)
    have HRL := Lib.hid (hR.later (alloc_belowS w4 (.cells #[.int .i64 (k : Nat), .slice aR R.length cR] 33)))
    have HG5 := Lib.hid (gbel hg4 (alloc_belowS w4 (.cells #[.int .i64 (k : Nat), .slice aR R.length cR] 33)))
    have HRow5 := Lib.hid (HRow4.out.later (alloc_belowS w4 (.cells #[.int .i64 (k : Nat), .slice aR R.length cR] 33)))
    have HYA : Hid (∀ W, Below (w4.alloc (.cells #[.int .i64 (k : Nat), .slice aR R.length cR] 33)).heap.size (w4.alloc (.cells #[.int .i64 (k : Nat), .slice aR R.length cR] 33)) W → W.heap[w4.heap.size]? = some (.cells #[.int .i64 (k : Nat), .slice aR R.length cR] 33 (0, 0))) := Lib.hid (fun W hW => (hW.block _ (by simp)).trans (alloc_at w4 _))
    clear hb4 hR HS3 HPS hg4 HRow4
    go_upto_region 5 with fail
    generalize w4.alloc (.cells #[.int .i64 (k : Nat), .slice aR R.length cR] 33) = w5 at *
    --R5
    refine region_twoT 6 5 (fun W => Below w5.heap.size w5 W) (fun W => W.heap[w4.heap.size]? = some (.cells #[.int .i64 (k : Nat), .slice aR R.length cR] 33 (0, 0))) (fun W W2 => Below W.heap.size W W2) (fun W W2 => W = W2) (fun W W2 => True) (fun u => by simp only [List.take_succ_cons, List.take_zero, fPut, Act.put, List.setIfInBounds_toArray, List.set_cons_succ, List.set_cons_zero, Nat.zero_add, Nat.reduceAdd]; rfl) (by kernel_rfl) (by kernel_rfl) (by kernel_rfl) (by kernel_rfl) (by kernel_rfl) (by kernel_rfl) (by kernel_rfl) (by kernel_rfl) (Below.drew (Below.refl _ _)) ?_
    conv => arg 11; simp only [List.take_succ_cons, List.take_zero]
    apply two_bothR (fun _ => Below.refl _ _) (fun _ => rfl) (by decide) rfl
    · intro u wv hC hf
      obtain ⟨y0, y1⟩ := sys_cells (HYA.out wv hC)
      clear hf
      go_simp
      try rfl
    · intro u wv hC hf
      obtain ⟨y0, y1⟩ := sys_cells hC
      clear hf
      go_simp
      try rfl
    conv => arg 13; simp only [List.cons_append, List.nil_append]
    conv => arg 14; simp only [List.cons_append, List.nil_append]
    apply two_bothR (fun _ => Below.refl _ _) (fun _ => rfl) (by decide) rfl
    · intro u wv hC hf
      obtain ⟨y0, y1⟩ := sys_cells (HYA.out wv hC)
      obtain ⟨d0_0, -⟩ := hf
      have e0 : u 0 = _ := d0_0 rfl
      clear d0_0
      go_simp
      try rfl
    · intro u wv hC hf
      obtain ⟨y0, y1⟩ := sys_cells hC
      obtain ⟨d0_0, -⟩ := hf
      have e0 : u 0 = _ := d0_0 rfl
      clear d0_0
      go_simp
      try rfl
    conv => arg 13; simp only [List.cons_append, List.nil_append]
    conv => arg 14; simp only [List.cons_append, List.nil_append]
    apply two_preR (fun _ => Below.refl _ _) (by decide) rfl (by kernel_rfl)
    · intro u wv hC hf
      obtain ⟨y0, y1⟩ := sys_cells (HYA.out wv hC)
      clear hf
      go_simp
      try rfl
    conv => arg 13; simp only [List.cons_append, List.nil_append]
    conv => arg 14; simp only [List.cons_append, List.nil_append]
    apply two_preR (fun _ => Below.refl _ _) (by decide) rfl (by kernel_rfl)
    · intro u wv hC hf
      obtain ⟨y0, y1⟩ := sys_cells (HYA.out wv hC)
      clear hf
      go_simp
      try rfl
    conv => arg 13; simp only [List.cons_append, List.nil_append]
    conv => arg 14; simp only [List.cons_append, List.nil_append]
    apply two_preR (fun _ => Below.refl _ _) (by decide) rfl (by kernel_rfl)
    · intro u wv hC hf
      obtain ⟨y0, y1⟩ := sys_cells (HYA.out wv hC)
      obtain ⟨d3_0, -⟩ := hf
      have e3 : u 3 = _ := d3_0 rfl
      clear d3_0
      go_simp
      try rfl
    conv => arg 13; simp only [List.cons_append, List.nil_append]
    conv => arg 14; simp only [List.cons_append, List.nil_append]
    refine two_s (fun v W => ∃ aE cE, v = .slice aE R.length cE ∧ RetEq B a l cap w (.returned (.tuple #[.int .i64 (k : Nat), .slice aE R.length cE])) W) (fun v W W2 _ hR h => by have h2 : W = W2 := hR; rw [← h2]; exact h) rfl rfl ?_ ?_
    · intro u wv hC hf
      obtain ⟨y0, y1⟩ := sys_cells (HYA.out wv hC)
      obtain ⟨d2_0, d4_1, -⟩ := hf
      have e2 : u 2 = _ := d2_0 rfl
      clear d2_0
      have e4 : u 4 = _ := d4_1 rfl
      clear d4_1
      obtain ⟨v6, w6, hr6, ho6, hg6⟩ := run_append_off (P := Tryz.prog) (tsl := 25) (ty := 25) Tryz.underlying25 Tryz.infoRule rfl (by decide) (w := wv) (HRow5.out.later hC) (by have := HG5.out.size; have := hC.size; omega) (src_rules Tryz.underlying25 (HRL.out.later hC) cR) (by unfold maxLen; show 0 + R.length ≤ _; omega) (by show (0 + R.length) * 32 ≤ _; omega)
      have h0 : ([] : List RulD).length + R.length = R.length := Nat.zero_add _
      rw [h0] at ho6
      obtain ⟨aE, cE, rfl⟩ := ho6.form
      refine ⟨_, w6, ?_, ?_, trivial, aE, cE, rfl, k, R, aE, cE, HST.out, rfl, ho6.cells, gstep (gbel HG5.out hC) hg6 (fun k2 hk2 => .inr ((HRow5.out.lt k2 hk2).1))⟩
      · exact exec_append rfl e2 e4 hr6
      · exact (grown_other (HRow5.out.later hC) hg6 (HYA.out wv hC) (by decide))
    intro u wv hC hall
    obtain ⟨a0, a1, a2, a3, a4, a5, -⟩ := hall
    have e0 : u 0 = _ := a0
    clear a0
    have e1 : u 1 = _ := a1
    clear a1
    have e2 : u 2 = _ := a2
    clear a2
    have e3 : u 3 = _ := a3
    clear a3
    have e4 : u 4 = _ := a4
    clear a4
    obtain ⟨aE, cE, e5, hF⟩ := a5
    replace e5 : u 5 = _ := e5
    change wpList _ _ _ (List.drop 6 _) _ _
    simp only [List.drop_succ_cons, List.drop_zero]
    simp only [e0, e1, e2, e3, e4, e5]
    clear e0 e1 e2 e3 e4 e5
    --R5E
    go_wp2_with fail
    refine bodyPost_ret (v := .tuple #[.int .i64 (k : Nat), .slice aE R.length cE]) ?_ rfl hF
    simp [results, Tryz.results37, go_sem]
set_option maxHeartbeats 400000 in
theorem makeEquations_any (a : Option Addr) (l : List UInt8) (cap n : Nat) (w : World) (hl : BytesIn w a l) (hlen : l.length ≤ 2 ^ 40) (hn : n ≤ 1000) :
    Calls Tryz.prog 11 #[.slice a l.length cap, .int .i64 (n : Nat)] w fun e w' => ∃ (k : Nat) (E : List RulD) (aE : Option Addr) (cE : Nat), startP (k : Int) E ∧ e = .returned (.tuple #[.int .i64 (k : Nat), .slice aE E.length cE]) ∧ RulesIn w' aE E ∧ Below w.heap.size w w' := by
  have HN := Lib.hid (l31New_any a l cap n w hl hlen hn)
  have HL := Lib.hid hl
  clear hl
  go_enter Tryz.func11, Tryz.ntmps11
  go_wp2_with fail
  refine HN.out.mono ?_
  rintro e w2 ⟨rfl, hc, hb2⟩
  have HB2 := Lib.hid hb2
  have HE := Lib.hid (l06Equations_any w.heap.size a l cap w2 hc)
  clear hc hb2
  go_wp2_with fail
  refine HE.out.mono ?_
  rintro e w3 ⟨k, E, aE, cE, hst, rfl, hR, hg⟩
  have F : Hid (∃ (k2 : Nat) (E2 : List RulD) (aE2 : Option Addr) (cE2 : Nat), startP (k2 : Int) E2 ∧ Ending.returned (.tuple #[.int .i64 (k : Nat), .slice aE E.length cE]) = .returned (.tuple #[.int .i64 (k2 : Nat), .slice aE2 E2.length cE2]) ∧ RulesIn w3 aE2 E2 ∧ Below w.heap.size w w3) := Lib.hid ⟨k, E, aE, cE, hst, rfl, hR, below_curs HB2.out hg (Nat.le_refl _)⟩
  clear hst hR hg
  go_wp2_with fail
  refine bodyPost_ret (v := .tuple #[.int .i64 (k : Nat), .slice aE E.length cE]) ?_ rfl F.out
  simp [results, Tryz.results11, go_sem]
end Go.Proofs.YtgoeadgpbidgiaaGreatDoor
namespace Go.Proofs.YtgoeadgpbidgiaaGreatDoor
set_option linter.unusedVariables false
/-- two sets of rules as one -/
def Uni (S Q : Rs) : Rs := fun l r => S l r ∨ Q l r
/-- a turn that drops an equation whose sides are reduced to one word -/
structure TurnOld (S Q Q' : Rs) (l0 r0 a : Wd) : Prop where
  dwn : Dwn S
  pop : ∀ l r, Q l r → (l = l0 ∧ r = r0) ∨ Q' l r
  redl : Red S l0 a
  redr : Red S r0 a
theorem TurnOld.sim {S Q Q' : Rs} {l0 r0 a : Wd} (h : TurnOld S Q Q' l0 r0 a) {n : Nat} {u v : Wd} (s : Stp (Uni S Q) u v) (hu : wt u < n) (hv : wt v < n) : Conn (Uni S Q') n u v := by
  have key : ∀ {p q : Wd}, Red S p q → wt p < n → Conn (Uni S Q') n p q := fun hr => by
    induction hr with
    | refl => intro _; exact .refl _
    | step s _ ih =>
      intro hp
      have hd := h.dwn.stp s
      exact .fwd hp (by omega) (s.mono fun l r hl => .inl hl) (ih (by omega))
  obtain ⟨x, l, r, y, h1, rfl, rfl⟩ := s
  rcases h1 with h1 | h1
  · exact .fwd hu hv ⟨x, l, r, y, .inl h1, rfl, rfl⟩ (.refl _)
  · rcases h.pop _ _ h1 with ⟨rfl, rfl⟩ | h2
    · exact (key (h.redl.ctx x y) hu).trans (key (h.redr.ctx x y) hv).symm
    · exact .fwd hu hv ⟨x, l, r, y, .inr h2, rfl, rfl⟩ (.refl _)
theorem TurnOld.crit {S Q Q' : Rs} {l0 r0 a : Wd} (h : TurnOld S Q Q' l0 r0 a) (hc : Crit S (Uni S Q)) : Crit S (Uni S Q') :=
  ⟨fun l1 r1 l2 r2 x y h1 h2 e => (hc.inn l1 r1 l2 r2 x y h1 h2 e).sim (fun _ _ s hu hv => h.sim s hu hv), fun l1 r1 l2 r2 x t y h1 h2 e1 e2 e3 e4 e5 => (hc.acr l1 r1 l2 r2 x t y h1 h2 e1 e2 e3 e4 e5).sim (fun _ _ s hu hv => h.sim s hu hv)⟩
/-- the rules that are kept, and the new one -/
def AllR (kept : Rs) (ln rn : Wd) : Rs := fun l r => kept l r ∨ (l = ln ∧ r = rn)
/-- a turn that makes a rule -/
structure TurnNew (S Q S' Q' kept : Rs) (l0 r0 ln rn : Wd) : Prop where
  dwn : Dwn S
  sub : ∀ l r, kept l r → S l r
  pop : ∀ l r, Q l r → (l = l0 ∧ r = r0) ∨ Q' l r
  red : (Red S l0 ln ∧ Red S r0 rn) ∨ (Red S l0 rn ∧ Red S r0 ln)
  less : wt rn < wt ln
  old : ∀ l r, S l r → Q' l r ∨ ∃ r2, kept l r ∧ S' l r2 ∧ Red (AllR kept ln rn) r r2
  new : S' ln rn
  inv : ∀ l r2, S' l r2 → (l = ln ∧ r2 = rn) ∨ ∃ r, kept l r ∧ Red (AllR kept ln rn) r r2
  inn1 : ∀ l r x y, S' l r → ln = x ++ (l ++ y) → (x = [] ∧ y = [] ∧ r = rn) ∨ Q' rn (x ++ (r ++ y))
  inn2 : ∀ l r x y, S' l r → l = x ++ (ln ++ y) → (x = [] ∧ y = [] ∧ r = rn) ∨ Q' r (x ++ (rn ++ y))
  acr1 : ∀ l r x t y, S' l r → ln = x ++ t → l = t ++ y → t ≠ [] → x ≠ [] → y ≠ [] → Q' (rn ++ y) (x ++ r)
  acr2 : ∀ l r x t y, S' l r → l = x ++ t → ln = t ++ y → t ≠ [] → x ≠ [] → y ≠ [] → Q' (r ++ y) (x ++ rn)
section
variable {S Q S' Q' kept : Rs} {l0 r0 ln rn : Wd}
theorem TurnNew.dall (h : TurnNew S Q S' Q' kept l0 r0 ln rn) : Dwn (AllR kept ln rn) := fun l r hl => by
  rcases hl with hl | ⟨rfl, rfl⟩
  · exact h.dwn _ _ (h.sub _ _ hl)
  · exact h.less
theorem TurnNew.dnew (h : TurnNew S Q S' Q' kept l0 r0 ln rn) : Dwn S' := fun l r hl => by
  rcases h.inv _ _ hl with ⟨rfl, rfl⟩ | ⟨r1, h1, h2⟩
  · exact h.less
  · have h3 := h2.le h.dall
    have h4 := h.dwn _ _ (h.sub _ _ h1)
    omega
theorem TurnNew.simS (h : TurnNew S Q S' Q' kept l0 r0 ln rn) : ∀ (k : Nat) (u v : Wd), wt u < k → Stp S u v → ∀ n, wt u < n → Conn (Uni S' Q') n u v
  | 0, u, v, hk, _, _, _ => by omega
  | k + 1, u, v, hk, s, n, hn => by
    have hd := h.dwn.stp s
    obtain ⟨x, l, r, y, h1, rfl, rfl⟩ := s
    rcases h.old _ _ h1 with h2 | ⟨r2, h2, h3, h4⟩
    · exact .fwd hn (by omega) ⟨x, l, r, y, .inr h2, rfl, rfl⟩ (.refl _)
    · have key : ∀ {p q : Wd}, Red (AllR kept ln rn) p q → wt p < k → wt p < n → Conn (Uni S' Q') n p q := fun hr => by
        induction hr with
        | refl => intro _ _; exact .refl _
        | step s _ ih =>
          intro hp1 hp2
          have hd2 := h.dall.stp s
          refine Conn.trans ?_ (ih (by omega) (by omega))
          obtain ⟨x2, l2, r2, y2, h5, rfl, rfl⟩ := s
          rcases h5 with h5 | ⟨rfl, rfl⟩
          · exact h.simS k _ _ hp1 ⟨x2, l2, r2, y2, h.sub _ _ h5, rfl, rfl⟩ n hp2
          · exact .fwd hp2 (by omega) ⟨x2, _, _, y2, .inl h.new, rfl, rfl⟩ (.refl _)
      have h5 := (h4.ctx x y).le h.dall
      exact .fwd hn (by omega) ⟨x, l, r2, y, .inl h3, rfl, rfl⟩ (key (h4.ctx x y) (by omega) (by omega)).symm
theorem TurnNew.simR (h : TurnNew S Q S' Q' kept l0 r0 ln rn) {n : Nat} {u v : Wd} (hr : Red S u v) (hu : wt u < n) : Conn (Uni S' Q') n u v := by
  induction hr with
  | refl => exact .refl _
  | step s _ ih =>
    have hd := h.dwn.stp s
    exact (h.simS _ _ _ (Nat.lt_succ_self _) s n hu).trans (ih (by omega))
theorem TurnNew.simA (h : TurnNew S Q S' Q' kept l0 r0 ln rn) {n : Nat} {u v : Wd} (hr : Red (AllR kept ln rn) u v) (hu : wt u < n) : Conn (Uni S' Q') n u v := by
  induction hr with
  | refl => exact .refl _
  | step s _ ih =>
    have hd := h.dall.stp s
    refine Conn.trans ?_ (ih (by omega))
    obtain ⟨x2, l2, r2, y2, h5, rfl, rfl⟩ := s
    rcases h5 with h5 | ⟨rfl, rfl⟩
    · exact h.simS _ _ _ (Nat.lt_succ_self _) ⟨x2, l2, r2, y2, h.sub _ _ h5, rfl, rfl⟩ n hu
    · exact .fwd hu (by omega) ⟨x2, _, _, y2, .inl h.new, rfl, rfl⟩ (.refl _)
theorem TurnNew.sim (h : TurnNew S Q S' Q' kept l0 r0 ln rn) {n : Nat} {u v : Wd} (s : Stp (Uni S Q) u v) (hu : wt u < n) (hv : wt v < n) : Conn (Uni S' Q') n u v := by
  obtain ⟨x, l, r, y, h1, rfl, rfl⟩ := s
  rcases h1 with h1 | h1
  · exact h.simS _ _ _ (Nat.lt_succ_self _) ⟨x, l, r, y, h1, rfl, rfl⟩ n hu
  · rcases h.pop _ _ h1 with ⟨rfl, rfl⟩ | h2
    · have e1 : Stp (Uni S' Q') (x ++ (ln ++ y)) (x ++ (rn ++ y)) := ⟨x, ln, rn, y, .inl h.new, rfl, rfl⟩
      rcases h.red with ⟨ha, hb⟩ | ⟨ha, hb⟩
      · have w1 := (ha.ctx x y).le h.dwn
        have w2 := (hb.ctx x y).le h.dwn
        exact (h.simR (ha.ctx x y) hu).trans (.fwd (by omega) (by omega) e1 (h.simR (hb.ctx x y) hv).symm)
      · have w1 := (ha.ctx x y).le h.dwn
        have w2 := (hb.ctx x y).le h.dwn
        exact (h.simR (ha.ctx x y) hu).trans (.bwd (by omega) (by omega) e1 (h.simR (hb.ctx x y) hv).symm)
    · exact .fwd hu hv ⟨x, l, r, y, .inr h2, rfl, rfl⟩ (.refl _)
theorem TurnNew.crit (h : TurnNew S Q S' Q' kept l0 r0 ln rn) (hc : Crit S (Uni S Q)) : Crit S' (Uni S' Q') := by
  have hd := h.dnew
  refine ⟨fun l1 r1 l2 r2 x y h1 h2 e => ?_, fun l1 r1 l2 r2 x t y h1 h2 e1 e2 e3 e4 e5 => ?_⟩
  · have d1 := hd _ _ h1
    have d2 : wt (x ++ (r2 ++ y)) < wt l1 := by rw [e]; exact wt_ctx x y (hd _ _ h2)
    rcases h.inv _ _ h1 with ⟨rfl, rfl⟩ | ⟨q1, k1, m1⟩
    · rcases h.inn1 _ _ _ _ h2 e with ⟨rfl, rfl, rfl⟩ | hq
      · simpa using Conn.refl _
      · exact .fwd d1 d2 (Stp.rule (.inr hq)) (.refl _)
    · rcases h.inv _ _ h2 with ⟨rfl, rfl⟩ | ⟨q2, k2, m2⟩
      · rcases h.inn2 _ _ _ _ h1 e with ⟨rfl, rfl, rfl⟩ | hq
        · simpa using Conn.refl _
        · exact .fwd d1 d2 (Stp.rule (.inr hq)) (.refl _)
      · have c := (hc.inn _ _ _ _ _ _ (h.sub _ _ k1) (h.sub _ _ k2) e).sim (fun _ _ s hu hv => h.sim s hu hv)
        have b1 := h.dwn _ _ (h.sub _ _ k1)
        have b2 : wt (x ++ (q2 ++ y)) < wt l1 := by rw [e]; exact wt_ctx x y (h.dwn _ _ (h.sub _ _ k2))
        exact (h.simA m1 b1).symm.trans (c.trans (h.simA (m2.ctx x y) b2))
  · have d1 : wt (r1 ++ y) < wt (x ++ (t ++ y)) := by
      have := wt_ctx [] y (hd _ _ h1)
      rw [e1] at this
      simpa [List.append_assoc] using this
    have d2 : wt (x ++ r2) < wt (x ++ (t ++ y)) := by
      have := wt_ctx x [] (hd _ _ h2)
      rw [e2] at this
      simpa [List.append_assoc] using this
    rcases h.inv _ _ h1 with ⟨rfl, rfl⟩ | ⟨q1, k1, m1⟩
    · exact .fwd d1 d2 (Stp.rule (.inr (h.acr1 _ _ _ _ _ h2 e1 e2 e3 e4 e5))) (.refl _)
    · rcases h.inv _ _ h2 with ⟨rfl, rfl⟩ | ⟨q2, k2, m2⟩
      · exact .fwd d1 d2 (Stp.rule (.inr (h.acr2 _ _ _ _ _ h1 e1 e2 e3 e4 e5))) (.refl _)
      · have c := (hc.acr _ _ _ _ _ _ _ (h.sub _ _ k1) (h.sub _ _ k2) e1 e2 e3 e4 e5).sim (fun _ _ s hu hv => h.sim s hu hv)
        have b1 : wt (q1 ++ y) < wt (x ++ (t ++ y)) := by
          have := wt_ctx [] y (h.dwn _ _ (h.sub _ _ k1))
          rw [e1] at this
          simpa [List.append_assoc] using this
        have b2 : wt (x ++ q2) < wt (x ++ (t ++ y)) := by
          have := wt_ctx x [] (h.dwn _ _ (h.sub _ _ k2))
          rw [e2] at this
          simpa [List.append_assoc] using this
        have m1' : Red (AllR kept ln rn) (q1 ++ y) (r1 ++ y) := by simpa using m1.ctx [] y
        have m2' : Red (AllR kept ln rn) (x ++ q2) (x ++ r2) := by simpa using m2.ctx x []
        exact (h.simA m1' b1).symm.trans (c.trans (h.simA m2' b2))
end
end Go.Proofs.YtgoeadgpbidgiaaGreatDoor
namespace Go.Proofs.YtgoeadgpbidgiaaGreatDoor
open Go.RowKit
set_option linter.unusedVariables false
theorem nextF_last (R : List RulD) (r : RulD) : nthR (nextF R r) ((nextF R r).length - 1) = r := by
  have h := nextF_len R r
  have h2 : (mapF R r (keptF R r.1)).length = (keptF R r.1).length := by unfold mapF; rw [List.length_map]
  rw [nthR_lt (by omega)]
  unfold nextF at h ⊢
  rw [List.getElem_append_right (by rw [h]; omega)]
  simp
theorem own_ctx {l x y : List UInt8} (h : l = x ++ (l ++ y)) : x = [] ∧ y = [] := by
  have := congrArg List.length h
  simp only [List.length_append] at this
  exact ⟨List.eq_nil_of_length_eq_zero (by omega), List.eq_nil_of_length_eq_zero (by omega)⟩
theorem turn_old {k : Int} {R Qt : List RulD} {q : RulD} (hs : sysP k R) (hq : wordOkB k q.1 = true ∧ wordOkB k q.2 = true) (he : nfC R q.1 = nfC R q.2) :
    TurnOld (SR R) (SR (q :: Qt)) (SR Qt) q.1.data.toList q.2.data.toList (nfC R q.1).data.toList := by
  refine ⟨sys_dwn hs, ?_, (nfC_red hs.weak hq.1).1, by rw [he]; exact (nfC_red hs.weak hq.2).1⟩
  rintro _ _ ⟨p, hp, rfl, rfl⟩
  rcases List.mem_cons.1 hp with rfl | hp
  · exact .inl ⟨rfl, rfl⟩
  · exact .inr ⟨p, hp, rfl, rfl⟩
theorem turn_new {k : Int} {R Qt : List RulD} {q r : RulD} (hs : sysP k R) (hq : wordOkB k q.1 = true ∧ wordOkB k q.2 = true) (hne : ¬ nfC R q.1 = nfC R q.2) (hor : orF2 (nfC R q.1) (nfC R q.2) = r) (hr : NewR k r) (h12 : ¬ 12 < (nextF R r).length) :
    TurnNew (SR R) (SR (q :: Qt)) (SR (nextF R r)) (SR (Qt ++ goneF R r.1 ++ newQ (nextF R r))) (SR (keptF R r.1)) q.1.data.toList q.2.data.toList r.1.data.toList r.2.data.toList := by
  have hN := nextF_sys hs hr h12
  have hNne := sys_ne hN.1
  have ha := allF_sys hs hr
  have hlast := nextF_last R r
  have hlen := nextF_len R r
  have hll : (nextF R r).length - 1 < (nextF R r).length := by omega
  have hrne := less_ne hr.less
  have inQ : ∀ {i j : Nat} {p : PairD}, i < (nextF R r).length → j < (nextF R r).length → (p ∈ inF (nextF R r) i j ∨ p ∈ acF (nextF R r) i j) → lastP (nextF R r) p = true → SR (Qt ++ goneF R r.1 ++ newQ (nextF R r)) (leftP (nextF R r) p).data.toList (rightP (nextF R r) p).data.toList := fun hi hj hp hl =>
    ⟨sidesF (nextF R r) _, List.mem_append.2 (.inr (List.mem_map.2 ⟨_, List.mem_filter.2 ⟨mem_pairs hi hj hp, hl⟩, rfl⟩)), rfl, rfl⟩
  have redA : ∀ {u : ByteArray}, wordOkB k u = true → Red (AllR (SR (keptF R r.1)) r.1.data.toList r.2.data.toList) u.data.toList (nfC (allF R r) u).data.toList := fun hu =>
    (nfC_red ha hu).1.mono (by
      rintro _ _ ⟨p, hp, rfl, rfl⟩
      rcases List.mem_append.1 hp with hp | hp
      · exact .inl ⟨p, hp, rfl, rfl⟩
      · rw [List.mem_singleton.1 hp]; exact .inr ⟨rfl, rfl⟩)
  refine ⟨sys_dwn hs, ?_, ?_, ?_, lessS_wt hr.less, ?_, ?_, ?_, ?_, ?_, ?_, ?_⟩
  · rintro _ _ ⟨p, hp, rfl, rfl⟩
    exact ⟨p, (List.mem_filter.1 hp).1, rfl, rfl⟩
  · rintro _ _ ⟨p, hp, rfl, rfl⟩
    rcases List.mem_cons.1 hp with rfl | hp
    · exact .inl ⟨rfl, rfl⟩
    · exact .inr ⟨p, List.mem_append.2 (.inl (List.mem_append.2 (.inl hp))), rfl, rfl⟩
  · have h1 := (nfC_red hs.weak hq.1).1
    have h2 := (nfC_red hs.weak hq.2).1
    rcases orF2_cases (nfC R q.1) (nfC R q.2) with e | e <;> rw [e] at hor <;> subst hor
    · exact .inr ⟨h1, h2⟩
    · exact .inl ⟨h1, h2⟩
  · rintro _ _ ⟨p, hp, rfl, rfl⟩
    cases hb : hasB p.1 r.1
    · refine .inr ⟨_, ⟨p, List.mem_filter.2 ⟨hp, by rw [hb]; rfl⟩, rfl, rfl⟩, ⟨(p.1, nfC (allF R r) p.2), nextF_mem.2 (.inl ⟨p, List.mem_filter.2 ⟨hp, by rw [hb]; rfl⟩, rfl⟩), rfl, rfl⟩, redA (hs.1.2 p hp).1.1.2⟩
    · exact .inl ⟨p, List.mem_append.2 (.inl (List.mem_append.2 (.inr (List.mem_filter.2 ⟨hp, hb⟩)))), rfl, rfl⟩
  · exact ⟨r, nextF_mem.2 (.inr rfl), rfl, rfl⟩
  · rintro _ _ ⟨p, hp, rfl, rfl⟩
    rcases nextF_mem.1 hp with ⟨q2, hq2, rfl⟩ | rfl
    · exact .inr ⟨_, ⟨q2, hq2, rfl, rfl⟩, redA (hs.1.2 q2 ((List.mem_filter.1 hq2).1)).1.1.2⟩
    · exact .inl ⟨rfl, rfl⟩
  · rintro _ _ x y ⟨p, hp, rfl, rfl⟩ e
    obtain ⟨j, hj, rfl⟩ := mem_nthR hp
    by_cases hjl : j = (nextF R r).length - 1
    · subst hjl
      rw [hlast] at e ⊢
      obtain ⟨rfl, rfl⟩ := own_ctx e
      exact .inl ⟨rfl, rfl, rfl⟩
    · have e2 : (nthR (nextF R r) ((nextF R r).length - 1)).1.data.toList = x ++ ((nthR (nextF R r) j).1.data.toList ++ y) := by rw [hlast]; exact e
      obtain ⟨h1, h2, h3⟩ := pair_in (R := nextF R r) (fun h => hjl h.symm) (hNne _ hp) e2
      have h4 := inQ hll hj (.inl h1) (by simp [lastP, inP])
      rw [h2, h3, hlast] at h4
      exact .inr h4
  · rintro _ _ x y ⟨p, hp, rfl, rfl⟩ e
    obtain ⟨j, hj, rfl⟩ := mem_nthR hp
    by_cases hjl : j = (nextF R r).length - 1
    · subst hjl
      rw [hlast] at e ⊢
      obtain ⟨rfl, rfl⟩ := own_ctx e
      exact .inl ⟨rfl, rfl, rfl⟩
    · have e2 : (nthR (nextF R r) j).1.data.toList = x ++ ((nthR (nextF R r) ((nextF R r).length - 1)).1.data.toList ++ y) := by rw [hlast]; exact e
      obtain ⟨h1, h2, h3⟩ := pair_in (R := nextF R r) hjl (by rw [hlast]; exact hrne) e2
      have h4 := inQ hj hll (.inl h1) (by simp [lastP, inP])
      rw [h2, h3, hlast] at h4
      exact .inr h4
  · rintro _ _ x t y ⟨p, hp, rfl, rfl⟩ e1 e2 ht hx hy
    obtain ⟨j, hj, rfl⟩ := mem_nthR hp
    have e3 : (nthR (nextF R r) ((nextF R r).length - 1)).1.data.toList = x ++ t := by rw [hlast]; exact e1
    obtain ⟨h1, _, h2, h3⟩ := pair_ac (R := nextF R r) e3 e2 ht hx hy
    have h4 := inQ hll hj (.inr h1) (by simp [lastP, acP])
    rw [h2, h3, hlast] at h4
    exact h4
  · rintro _ _ x t y ⟨p, hp, rfl, rfl⟩ e1 e2 ht hx hy
    obtain ⟨j, hj, rfl⟩ := mem_nthR hp
    have e3 : (nthR (nextF R r) ((nextF R r).length - 1)).1.data.toList = t ++ y := by rw [hlast]; exact e2
    obtain ⟨h1, _, h2, h3⟩ := pair_ac (R := nextF R r) e1 e3 ht hx hy
    have h4 := inQ hj hll (.inr h1) (by simp [lastP, acP])
    rw [h2, h3, hlast] at h4
    exact h4
/-- what a turn keeps: pairs stay connected, and what was connected by rules and equations -/
structure KeepsK (R Q R' Q' : List RulD) : Prop where
  crit : Crit (SR R) (Uni (SR R) (SR Q)) → Crit (SR R') (Uni (SR R') (SR Q'))
  sim : ∀ (n : Nat) (u v : List UInt8), Stp (Uni (SR R) (SR Q)) u v → wt u < n → wt v < n → Conn (Uni (SR R') (SR Q')) n u v
theorem KeepsK.trans {R Q R1 Q1 R2 Q2 : List RulD} (a : KeepsK R Q R1 Q1) (b : KeepsK R1 Q1 R2 Q2) : KeepsK R Q R2 Q2 :=
  ⟨fun h => b.crit (a.crit h), fun n u v s hu hv => (a.sim n u v s hu hv).sim (fun u v s hu hv => b.sim n u v s hu hv)⟩
theorem KeepsK.refl (R Q : List RulD) : KeepsK R Q R Q := ⟨fun h => h, fun n u v s hu hv => .fwd hu hv s (.refl _)⟩
theorem WorkP.keeps {k : Int} {R Q : List RulD} {T : Nat} (h : WorkP k R Q T) (hQ : Q ≠ []) (hc : (turnF R Q T).1 = 0) : KeepsK R Q (turnF R Q T).2.1 (turnF R Q T).2.2.1 := by
  cases Q with
  | nil => exact absurd rfl hQ
  | cons q Qt =>
    have hq := h.word q List.mem_cons_self
    unfold turnF at hc ⊢
    simp only at hc ⊢
    by_cases c1 : T = 200
    · rw [if_pos c1] at hc; cases hc
    rw [if_neg c1] at hc ⊢
    by_cases c2 : nfC R q.1 = nfC R q.2
    · rw [if_pos c2]
      have t := turn_old (Qt := Qt) h.sys hq c2
      exact ⟨t.crit, fun n u v s hu hv => t.sim s hu hv⟩
    rw [if_neg c2] at hc ⊢
    by_cases c3 : 8 < (orF2 (nfC R q.1) (nfC R q.2)).1.size
    · rw [if_pos c3] at hc; cases hc
    rw [if_neg c3] at hc ⊢
    by_cases c4 : 12 < (nextF R (orF2 (nfC R q.1) (nfC R q.2))).length
    · rw [if_pos c4] at hc; cases hc
    rw [if_neg c4] at hc ⊢
    by_cases c5 : 400 < (Qt ++ goneF R (orF2 (nfC R q.1) (nfC R q.2)).1 ++ newQ (nextF R (orF2 (nfC R q.1) (nfC R q.2)))).length
    · rw [if_pos c5] at hc; cases hc
    rw [if_neg c5]
    have t := turn_new (Qt := Qt) h.sys hq c2 rfl (orF2_new h.sys hq c2 c3) c4
    exact ⟨t.crit, fun n u v s hu hv => t.sim s hu hv⟩
theorem RunIs.work {k : Int} {R Q : List RulD} {T c : Nat} {R' Q' : List RulD} {T' : Nat} (r : RunIs R Q T c R' Q' T') (h : WorkP k R Q T) : WorkP k R' Q' T' ∧ KeepsK R Q R' Q' ∧ (c = 0 → Q' = []) := by
  induction r with
  | done => exact ⟨h, .refl _ _, fun _ => rfl⟩
  | fail _ h2 => exact ⟨h, .refl _ _, fun h3 => absurd h3 h2⟩
  | step h1 h2 _ ih =>
    obtain ⟨i1, i2, i3⟩ := ih (h.turn h2)
    exact ⟨i1, (h.keeps h1 h2).trans i2, i3⟩
theorem uni_nil {R : List RulD} {l r : List UInt8} (h : Uni (SR R) (SR []) l r) : SR R l r := by
  rcases h with h | ⟨p, hp, _⟩
  · exact h
  · cases hp
/-- a completion that starts without rules and ends well -/
theorem run_comp {k : Int} {Q R' Q' : List RulD} {T' : Nat} (h : WorkP k [] Q 0) (r : RunIs [] Q 0 0 R' Q' T') :
    ComplP k R' ∧ ∀ q ∈ Q, ∀ x y, NormIs R' q.1 x → NormIs R' q.2 y → x = y := by
  obtain ⟨h1, h2, h3⟩ := r.work h
  obtain rfl := h3 rfl
  have c0 : Crit (SR []) (Uni (SR []) (SR Q)) := ⟨fun l1 r1 l2 r2 x y ⟨p, hp, _⟩ => (by cases hp), fun l1 r1 l2 r2 x t y ⟨p, hp, _⟩ => (by cases hp)⟩
  have toS : ∀ {n : Nat} {u v : List UInt8}, Conn (Uni (SR R') (SR [])) n u v → Conn (SR R') n u v := fun c => c.sim (fun u v s hu hv => .fwd hu hv (s.mono fun l r h => uni_nil h) (.refl _))
  have c1 := h2.crit c0
  have c2 : Crit (SR R') (SR R') := ⟨fun l1 r1 l2 r2 x y a b e => toS (c1.inn l1 r1 l2 r2 x y a b e), fun l1 r1 l2 r2 x t y a b e1 e2 e3 e4 e5 => toS (c1.acr l1 r1 l2 r2 x t y a b e1 e2 e3 e4 e5)⟩
  refine ⟨comp_of_crit h1.sys c2, fun q hq x y hx hy => ?_⟩
  have s : Stp (Uni (SR []) (SR Q)) q.1.data.toList q.2.data.toList := Stp.rule (.inr ⟨q, hq, rfl, rfl⟩)
  have c := toS (h2.sim (max (wt q.1.data.toList) (wt q.2.data.toList) + 1) _ _ s (by omega) (by omega))
  exact ba_lists (conf_conn (sys_dwn h1.sys) c2 c (norm_nf (sys_ne h1.sys.1) hx) (norm_nf (sys_ne h1.sys.1) hy))
end Go.Proofs.YtgoeadgpbidgiaaGreatDoor
namespace Go.Proofs.YtgoeadgpbidgiaaGreatDoor
open Go.RowKit
set_option linter.unusedVariables false
/-- no rule is spare -/
structure InterP (R : List RulD) : Prop where
  left : R.Pairwise fun p q => hasB p.1 q.1 = false ∧ hasB q.1 p.1 = false
  right : ∀ p ∈ R, ∀ q ∈ R, hasB p.2 q.1 = false
theorem InterP.nil : InterP [] := ⟨.nil, fun p hp => by cases hp⟩
theorem irr_has {R : List RulD} {v : ByteArray} (h : Irr (SR R) v.data.toList) {q : RulD} (hq : q ∈ R) (hne : q.1.size ≠ 0) : hasB v q.1 = false := by
  cases hb : hasB v q.1
  · rfl
  · obtain ⟨x, y, e⟩ := (hasB_iff hne).1 hb
    exact absurd ⟨x, q.1.data.toList, q.2.data.toList, y, ⟨q, hq, rfl, rfl⟩, e, rfl⟩ (h (x ++ (q.2.data.toList ++ y)))
theorem less_has {a b : ByteArray} (h : lessS a b = true) : hasB a b = false := by
  cases hb : hasB a b
  · rfl
  · obtain ⟨x, y, e⟩ := (hasB_iff (less_ne h)).1 hb
    have h1 := lessS_size h
    have e1 : a.data.toList.length = a.size := rfl
    have e2 : b.data.toList.length = b.size := rfl
    have e3 := congrArg List.length e
    simp only [List.length_append] at e3
    obtain rfl : x = [] := List.eq_nil_of_length_eq_zero (by omega)
    obtain rfl : y = [] := List.eq_nil_of_length_eq_zero (by omega)
    have e4 : a = b := ba_lists (by simpa using e)
    have h2 := lessS_wt h
    rw [e4] at h2
    omega
theorem InterP.next {k : Int} {R : List RulD} (h : InterP R) (hs : sysP k R) {r : RulD} (hr : NewR k r) (h1 : Irr (SR R) r.1.data.toList) (h2 : Irr (SR R) r.2.data.toList) : InterP (nextF R r) := by
  have ha := allF_sys hs hr
  have hne := sysW_ne ha
  have hneR := sys_ne hs.1
  have hK : ∀ x ∈ keptF R r.1, x ∈ R ∧ hasB x.1 r.1 = false := fun x hx => by
    have := List.mem_filter.1 hx
    exact ⟨this.1, by simpa using this.2⟩
  have inA : ∀ x ∈ keptF R r.1, x ∈ allF R r := fun x hx => List.mem_append.2 (.inl hx)
  have rA : r ∈ allF R r := List.mem_append.2 (.inr (List.mem_singleton.2 rfl))
  refine ⟨?_, fun p hp q hq => ?_⟩
  · unfold nextF mapF
    rw [List.pairwise_append]
    refine ⟨?_, List.pairwise_singleton _ _, fun a hA b hB => ?_⟩
    · rw [List.pairwise_map]
      exact (h.left.filter _)
    · obtain ⟨x, hx, rfl⟩ := List.mem_map.1 hA
      obtain rfl := List.mem_singleton.1 hB
      exact ⟨(hK x hx).2, irr_has (q := x) h1 (hK x hx).1 (hneR x (hK x hx).1)⟩
  · rcases nextF_mem.1 hp with ⟨x, hx, rfl⟩ | rfl
    · have hI := (nfC_red ha (hs.1.2 x (hK x hx).1).1.1.2).2
      rcases nextF_mem.1 hq with ⟨y, hy, rfl⟩ | rfl
      · exact irr_has (q := y) hI (inA y hy) (hne y (inA y hy))
      · exact irr_has hI rA (hne _ rA)
    · rcases nextF_mem.1 hq with ⟨y, hy, rfl⟩ | rfl
      · exact irr_has (q := y) h2 (hK y hy).1 (hneR y (hK y hy).1)
      · exact less_has hr.less
/-- one turn keeps it, and takes one equation at most -/
theorem turn_inter {k : Int} {R Q : List RulD} {T : Nat} (h : WorkP k R Q T) (hQ : Q ≠ []) (hc : (turnF R Q T).1 = 0) (hi : InterP R) :
    InterP (turnF R Q T).2.1 ∧ T + Q.length ≤ (turnF R Q T).2.2.2 + (turnF R Q T).2.2.1.length := by
  cases Q with
  | nil => exact absurd rfl hQ
  | cons q Qt =>
    have hq := h.word q List.mem_cons_self
    unfold turnF at hc ⊢
    simp only at hc ⊢
    by_cases c1 : T = 200
    · rw [if_pos c1] at hc; cases hc
    rw [if_neg c1] at hc ⊢
    by_cases c2 : nfC R q.1 = nfC R q.2
    · rw [if_pos c2]
      exact ⟨hi, by simp only [List.length_cons]; omega⟩
    rw [if_neg c2] at hc ⊢
    by_cases c3 : 8 < (orF2 (nfC R q.1) (nfC R q.2)).1.size
    · rw [if_pos c3] at hc; cases hc
    rw [if_neg c3] at hc ⊢
    by_cases c4 : 12 < (nextF R (orF2 (nfC R q.1) (nfC R q.2))).length
    · rw [if_pos c4] at hc; cases hc
    rw [if_neg c4] at hc ⊢
    by_cases c5 : 400 < (Qt ++ goneF R (orF2 (nfC R q.1) (nfC R q.2)).1 ++ newQ (nextF R (orF2 (nfC R q.1) (nfC R q.2)))).length
    · rw [if_pos c5] at hc; cases hc
    rw [if_neg c5]
    have hr := orF2_new h.sys hq c2 c3
    have i1 := (nfC_red h.sys.weak hq.1).2
    have i2 := (nfC_red h.sys.weak hq.2).2
    refine ⟨?_, by simp only [List.length_append, List.length_cons]; omega⟩
    rcases orF2_cases (nfC R q.1) (nfC R q.2) with e | e <;> rw [e] at hr ⊢
    · exact hi.next h.sys hr i2 i1
    · exact hi.next h.sys hr i1 i2
theorem run_inter {k : Int} {R Q : List RulD} {T c : Nat} {R' Q' : List RulD} {T' : Nat} (r : RunIs R Q T c R' Q' T') (h : WorkP k R Q T) (hi : InterP R) : InterP R' ∧ T + Q.length ≤ T' + Q'.length := by
  induction r with
  | done => exact ⟨hi, Nat.le_refl _⟩
  | fail _ _ => exact ⟨hi, Nat.le_refl _⟩
  | step h1 h2 _ ih =>
    obtain ⟨j1, j2⟩ := turn_inter h h1 h2 hi
    obtain ⟨i1, i2⟩ := ih (h.turn h2) j1
    exact ⟨i1, by omega⟩
/-- a run there is -/
theorem RunIs.ex {k : Int} : ∀ (n : Nat) (R Q : List RulD) (T : Nat), 200 - T < n → WorkP k R Q T → ∃ c R' Q' T', RunIs R Q T c R' Q' T'
  | 0, R, Q, T, hn, h => by omega
  | n + 1, R, Q, T, hn, h => by
    cases hQ : Q with
    | nil => exact ⟨0, R, [], T, .done⟩
    | cons q Qt =>
      by_cases hc : (turnF R (q :: Qt) T).1 = 0
      · rw [hQ] at h
        have h2 := h.turn hc
        have hne : q :: Qt ≠ [] := by simp
        have hT : (turnF R (q :: Qt) T).2.2.2 = T + 1 ∧ T ≠ 200 := by
          unfold turnF at hc ⊢
          simp only at hc ⊢
          by_cases c1 : T = 200
          · rw [if_pos c1] at hc; cases hc
          refine ⟨?_, c1⟩
          rw [if_neg c1] at hc ⊢
          split
          · rfl
          · rename_i c2
            rw [if_neg c2] at hc
            split
            · rename_i c3; rw [if_pos c3] at hc; cases hc
            · rename_i c3
              rw [if_neg c3] at hc
              split
              · rename_i c4; rw [if_pos c4] at hc; cases hc
              · rename_i c4
                rw [if_neg c4] at hc
                split
                · rename_i c5; rw [if_pos c5] at hc; cases hc
                · rfl
        have ht := h.turns
        obtain ⟨c, R', Q', T', r⟩ := RunIs.ex n _ _ _ (by rw [hT.1]; omega) h2
        exact ⟨c, R', Q', T', .step hne hc r⟩
      · exact ⟨_, _, _, _, .fail (by simp) hc⟩
end Go.Proofs.YtgoeadgpbidgiaaGreatDoor
