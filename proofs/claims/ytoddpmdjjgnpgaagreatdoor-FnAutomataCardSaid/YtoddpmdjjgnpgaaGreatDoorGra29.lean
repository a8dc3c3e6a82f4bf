/-
  ShortestAccepted of the program. Printed by shai.py.
-/
import Derived.Test.YtoddpmdjjgnpgaaGreatDoorGra28
import Derived.Test.YtoddpmdjjgnpgaaGreatDoorGra08
import Derived.Test.YtoddpmdjjgnpgaaGreatDoorGra15
import Derived.Test.YtoddpmdjjgnpgaaGreatDoorGra11
namespace Go.Proofs.YtoddpmdjjgnpgaaGreatDoor
open Go.RowKit Go.Maps Go.WideMaps
set_option linter.unusedVariables false
/-- the number of entries of a map -/
def mapN (w : World) (b : Nat) : Nat := match w.heap[b]? with | some (.map es _) => es.size | _ => 0
theorem mapN_eq {w : World} {b m : Nat} {D : DataW Unit} (h : OwnW w b m D) : mapN w b = Maps.size D := by
  obtain ⟨es, clock, h1, h2, h3, rfl⟩ := h
  unfold mapN
  rw [h1, Maps.size_eq, length_sorted, List.length_map, Array.length_toList]
def lenQ : Value → Nat
  | .slice _ n _ => n
  | _ => 0
def qV (L : List StW) : List Value := intVals (L.map fun p => ((p.1 : Nat) : Int))
theorem qV_cons (p : StW) (L : List StW) : qV (p :: L) = [Value.int .i64 ((p.1 : Nat) : Int)] ++ qV L := rfl
theorem qV_app (L M : List StW) : qV (L ++ M) = qV L ++ qV M := by simp [qV, intVals]
def RetSh (k : Nat) (N : List Int) (F : List Bool) (w : World) (e : Ending) (w' : World) : Prop := ∃ (u : ByteArray) (b : Bool), e = .returned (.tuple #[.string u, .bool b]) ∧ (b = true ↔ (wordOkB (k : Nat) u = true ∧ accA k N F 0 (ltrs u))) ∧ (b = true → ∀ v, wordOkB (k : Nat) v = true → accA k N F 0 (ltrs v) → lessS v u = false) ∧ u.size ≤ 100 ∧ Below w.heap.size w w'
theorem sha_word {k : Nat} {N : List Int} {F : List Bool} {L : List StW} {i : Nat} (h : ShaP k N F.length L i 0) (hk1 : 1 ≤ k) (hk : k ≤ 4) {p : StW} (hp : L[i]? = some p) (h16 : p.2.size ≤ 16) : wordOkB (k : Nat) p.2 = true := by
  obtain ⟨xs, e1, e2, e3⟩ := h.run p (List.mem_of_getElem? hp)
  refine wordOk_iff.2 ⟨⟨by omega, by omega⟩, h16, fun y hy => ?_⟩
  rw [← e1] at hy
  obtain ⟨x, hx, rfl⟩ := List.mem_map.1 hy
  have := e2 x hx
  unfold letB inB lt97
  simp
  omega
theorem ret_found {k : Nat} {N : List Int} {F : List Bool} {L : List StW} {i : Nat} {w w' : World} (h : ShaP k N F.length L i 0) (hF : ∀ (j : Nat) (p : StW), j < i → L[j]? = some p → F.getD p.1 false = false) (hk1 : 1 ≤ k) (hk : k ≤ 4) {p : StW} (hp : L[i]? = some p) (hf : F.getD p.1 false = true) (hn : i ≤ 80) (hb : Below w.heap.size w w') (b : Bool) (hbb : b = true ↔ p.2.size ≤ 16) : RetSh k N F w (.returned (.tuple #[.string p.2, .bool b])) w' :=
  ⟨p.2, b, rfl, ⟨fun hh => ⟨sha_word h hk1 hk hp (hbb.1 hh), sha_acc h hk hp hf⟩, fun hh => hbb.2 (wordOk_iff.1 hh.1).2.1⟩, fun _ v hv ha => sha_least h hF hp hv ha, by have := h.size i p hp; omega, hb⟩
theorem ret_none {k : Nat} {N : List Int} {F : List Bool} {L : List StW} {w w' : World} (h : ShaP k N F.length L L.length 0) (hF : ∀ (j : Nat) (p : StW), j < L.length → L[j]? = some p → F.getD p.1 false = false) (hb : Below w.heap.size w w') : RetSh k N F w (.returned (.tuple #[.string ⟨#[]⟩, .bool false])) w' :=
  ⟨⟨#[]⟩, false, rfl, ⟨fun hh => (by cases hh), fun hh => absurd hh.2 (sha_none h hF _)⟩, fun hh => (by cases hh), by decide, hb⟩
theorem off_ne {w : World} {base : Nat} {T : TypeId} {size : Nat} {v : Value} {n : Nat} {xs : List Value} {b m : Nat} {D : DataW Unit} (h : ownsOff w base T size v n xs) (hm : OwnW w b m D) : some b ≠ v.ownBlock := fun e => by
  obtain ⟨es, clock, hb, _⟩ := hm
  rcases h.2 with ⟨rfl, _⟩ | ⟨g, o, cap, cur, rfl, _, hg, _⟩
  · cases e
  · simp only [Value.ownBlock, Option.some.injEq] at e
    subst e
    rw [hb] at hg; cases hg
/-- the queue without its first element -/
theorem tailV {W : World} {base g o c n : Nat} {p : StW} {M : List StW} (h : ownsOff W base 3 1 (.slice (some ⟨g, o, none⟩) n c) n (qV (p :: M))) (hn : n = M.length + 1) : ownsOff W base 3 1 (.slice (if c = 1 then some ⟨g, o, none⟩ else some ⟨g, o + 1, none⟩) (n - 1) (c - 1)) M.length (qV M) ∧ n ≤ c := by
  subst hn
  have hc : M.length + 1 ≤ c := by
    rcases h.2 with ⟨hv, _⟩ | ⟨g', o', cap', cur, hv, _, _, hnc, _⟩
    · simp at hv
    · simp only [Value.slice.injEq] at hv; omega
  refine ⟨?_, hc⟩
  by_cases h1 : c = 1
  · subst h1
    have h0 : M = [] := List.eq_nil_of_length_eq_zero (by omega)
    subst h0
    rw [if_pos rfl]
    exact h.none_left
  · rw [if_neg h1]
    rw [qV_cons] at h
    exact ownsOff.tail h rfl
set_option maxRecDepth 20000 in
set_option maxHeartbeats 8000000 in
theorem implShortest_any (k : Nat) (N : List Int) (F : List Bool) (aN aF : Option Addr) (cN cF : Nat) (w : World) (hN : IntsIn w aN N) (hF : BoolsIn w aF F) (h : AutP k N F) :
    Calls Tryz.prog 18 #[.agg #[.int .i64 (k : Nat), .slice aN N.length cN, .slice aF F.length cF]] w (RetSh k N F w) := by
  have HW1 := Lib.hid (alloc_belowS w (.cells #[.int .i64 (k : Nat), .slice aN N.length cN, .slice aF F.length cF] 30))
  have HX1 := Lib.hid (alloc_at w (.cells #[.int .i64 (k : Nat), .slice aN N.length cN, .slice aF F.length cF] 30))
  have HAP := Lib.hid h
  have HN1 := Lib.hid (hN.later HW1.out)
  have HF1 := Lib.hid (hF.later HW1.out)
  have hsm := h.small
  have hk1 := h.1.1.1
  have hk4 := h.1.1.2
  have hn1 := h.1.2.1
  have hn80 := h.1.2.2
  have HOK := Lib.hid (fun W hW => implAutOk_yes k N F aN aF cN cF W hW h)
  have HNX := Lib.hid (fun W st x hW hst => autNext_any k N F.length aN aF cN cF st x W hW hk4 hst (by omega))
  have HLT := Lib.hid (fun W x (hx : x < 4) => letterOf_any x W (by omega))
  have hmm := @run_makeMap Tryz.prog
  have hk0 := keyOkZ (x := 0) (by omega)
  clear hN hF h
  obtain ⟨x0, x1, x2⟩ := aut_cells HX1.out
  go_enter Tryz.func18, Tryz.ntmps18
  go_upto_region 1 with fail
  generalize w.alloc (.cells #[.int .i64 (k : Nat), .slice aN N.length cN, .slice aF F.length cF] 30) = w1 at *
  go_wp2_with fail
  refine (HOK.out _ HN1.out).mono ?_
  rintro e w2 ⟨rfl, hb2⟩
  have HB2 := Lib.hid (Below.now HW1.out hb2)
  have HX2 := Lib.hid (blk_later HX1.out hb2)
  have HN2 := Lib.hid (HN1.out.later hb2)
  have HF2 := Lib.hid (HF1.out.later hb2)
  clear hb2 x0 x1 x2 HX1 HN1 HF1 HW1 HOK
  go_upto_region 4 with (first
    | (refine wpList_insert_ownG _ rfl _ _ _ 104 rfl 3 9 keyedA Tryz.underlying104 (plainElem (H := Unit) Tryz.prog 9) w2.heap.size 0 (.map []) rfl (World.ownsMap_made _ _ _ _) (by decide) _ _ _ rfl rfl hk0 _ [] (plainElem_string Tryz.underlying9 (by decide)) ?_; intro w4 hown4 hgr4)
    | go_in)
  have HB4 : Hid (Below w2.heap.size w2 w4) := Lib.hid ((alloc_belowS w2 (.map #[] 0)).grown hgr4 (by simp) (fun j hj => by cases hj; exact Nat.le_refl _))
  have HO4 := Lib.hid (ownW_tight hown4)
  have HM4 : Hid (WordM (DataW.put (.map []) (keyZ 0) (.lit (.string (⟨#[]⟩ : ByteArray).data.toList))) [((0 : Nat), (⟨#[]⟩ : ByteArray))]) := Lib.hid (WordM.nil.new (t := 0) (v := ⟨#[]⟩) (by simp))
  clear hown4 hgr4 hmm hk0
  have HB5 : Hid (Below w2.heap.size w2 (w4.alloc (.cells #[.int .i64 0] 3))) := Lib.hid (Below.now HB4.out (alloc_belowS _ _))
  have HO5 : Hid (OwnW (w4.alloc (.cells #[.int .i64 0] 3)) w2.heap.size _ _) := Lib.hid (World.ownsMap.alloc HO4.out (.cells #[.int .i64 0] 3))
  have HQ5 : Hid (ownsOff (w4.alloc (.cells #[.int .i64 0] 3)) w2.heap.size 3 1 (.slice (some ⟨w4.heap.size, 0, none⟩) 1 1) ([((0 : Nat), (⟨#[]⟩ : ByteArray))].drop 0).length (qV ([((0 : Nat), (⟨#[]⟩ : ByteArray))].drop 0))) := Lib.hid (ownsOff.of_row (World.ownsRow_lit w4 #[.int .i64 0] 1 HB4.out.size (by unfold maxLen; omega) (by simp)))
  generalize DataW.put (.map []) (keyZ 0) (.lit (.string (⟨#[]⟩ : ByteArray).data.toList)) = D0 at *
  obtain ⟨b, hb⟩ : ∃ b, w2.heap.size = b := ⟨_, rfl⟩
  have HBE := Lib.hid hb
  go_upto_region 5 with fail
  rw [hb] at HO5 HQ5 ⊢
  clear hb HO4 HB4
  generalize w4.alloc (.cells #[.int .i64 0] 3) = w5 at *
  go_loopw [5] (fun vq wr => ∃ (i : Nat) (L : List StW) (D : DataW Unit), i ≤ L.length ∧ Hid (ShaP k N F.length L i 0) ∧ Hid (∀ (j : Nat) (p : StW), j < i → L[j]? = some p → F.getD p.1 false = false) ∧ Hid (WordM D L) ∧ Hid (OwnW wr b (Maps.size D) D) ∧ Hid (ownsOff wr b 3 1 vq (L.drop i).length (qV (L.drop i))) ∧ Hid (Below w2.heap.size w2 wr)) (fun vq wr => F.length + lenQ vq - mapN wr b)
  case atStart => exact ⟨0, _, D0, Nat.zero_le _, Lib.hid (ShaP.start k N hn1), Lib.hid (fun j p hj => by omega), HM4, HO5, HQ5, HB5⟩
  case round =>
    clear HM4 HO5 HQ5 HB5
    obtain ⟨i, L, D, hiL, HP, HNO, HM, HO, HQ, HBW⟩ := hrel
    obtain ⟨aq, cq, rfl⟩ := HQ.out.form
    have hfew := HP.out.few
    have hdl : (L.drop i).length = L.length - i := List.length_drop
    have HMN : Hid (mapN wr b = L.length) := Lib.hid ((mapN_eq HO.out).trans HM.out.size)
    by_cases hlt : i < L.length
    · obtain ⟨p, hp⟩ : ∃ p, L[i]? = some p := ⟨_, List.getElem?_eq_getElem hlt⟩
      have hde : L.drop i = p :: L.drop (i + 1) := by
        rw [List.drop_eq_getElem_cons hlt]; congr 1
        rw [List.getElem?_eq_getElem hlt] at hp; exact Option.some.inj hp
      have hpn := HP.out.small p (List.mem_of_getElem? hp)
      have HPI := Lib.hid hp
      obtain ⟨m, hm⟩ : ∃ m, L.length - i = m + 1 := ⟨L.length - i - 1, by omega⟩
      rw [hdl, hm] at HQ ⊢
      rw [hde] at HQ
      obtain ⟨g, o, rfl⟩ : ∃ g o, aq = some ⟨g, o, none⟩ := by
        rcases HQ.out.2 with ⟨hv, _⟩ | ⟨g, o, _, _, hv, _⟩
        · simp at hv
        · simp only [Value.slice.injEq] at hv; exact ⟨g, o, hv.1⟩
      have cq0 := HQ.out.cellAt 0 (.int .i64 ((p.1 : Nat) : Int)) (by rw [qV_cons]; rfl)
      simp only [Nat.add_zero] at cq0
      have hbq : g < wr.heap.size := World.block_lt_of_cell? _ _ cq0
      obtain ⟨bF, oF, haF, hbF, hcF⟩ := (HF2.out.later HBW.out).cell hpn
      subst haF
      have cF0 := hcF _ hpn
      have hkey := keyOkZ (x := ((p.1 : Nat) : Int)) (by omega)
      have HAT := Lib.hid (HM.out.at (List.mem_of_getElem? hp))
      have hpi : ((p.1 : Nat) : Int) < (F.length : Int) := by omega
      have hq0 : (0 : Int) < (m : Int) + 1 := by omega
      have hqn : ¬ (m : Int) + 1 ≤ 0 := by omega
      have hsz := HP.out.size i p hp
      obtain ⟨hf, hfb⟩ : ∃ hf, F.getD p.1 false = hf := ⟨_, rfl⟩
      have HFB := Lib.hid hfb
      rw [hfb] at cF0
      obtain ⟨p1, p2⟩ := p
      simp only at *
      clear hcF hde hfb hp
      go_upto_region 8 with (first
        | (at_lookup; refine wpList_lookW _ rfl _ _ rfl b _ D rfl HO.out _ _ rfl hkey p2 HAT.out ?_)
        | go_in)
      refine region_each (fun W => Below wr.heap.size wr W) (fun W W2 => Below W.heap.size W W2) (fun u => by simp only [fPut, Act.put, List.setIfInBounds_toArray, List.set_cons_succ, List.set_cons_zero, Nat.zero_add, Nat.reduceAdd]; rfl) (by kernel_rfl) (by kernel_rfl) (by kernel_rfl) (Below.drew (Below.refl _ _)) ?_
      apply each_read (fun _ => Below.refl _ _) rfl
      · intro u wv hC hf
        obtain ⟨z0, z1, z2⟩ := aut_cells (blk_later HX2.out (Below.now HBW.out hC))
        have zq := (hC.cell hbq).trans cq0
        have zf := (hC.cell hbF).trans cF0
        clear hf
        go_simp
        try rfl
      apply each_read (fun _ => Below.refl _ _) rfl
      · intro u wv hC hf
        obtain ⟨z0, z1, z2⟩ := aut_cells (blk_later HX2.out (Below.now HBW.out hC))
        have zq := (hC.cell hbq).trans cq0
        have zf := (hC.cell hbF).trans cF0
        obtain ⟨d0_0, -⟩ := hf
        have e0 : u 0 = _ := d0_0 rfl
        clear d0_0
        go_simp
        try rfl
      conv => arg 8; simp only [List.cons_append, List.nil_append]
      apply each_read (fun _ => Below.refl _ _) rfl
      · intro u wv hC hf
        obtain ⟨z0, z1, z2⟩ := aut_cells (blk_later HX2.out (Below.now HBW.out hC))
        have zq := (hC.cell hbq).trans cq0
        have zf := (hC.cell hbF).trans cF0
        clear hf
        go_simp
        try rfl
      conv => arg 8; simp only [List.cons_append, List.nil_append]
      apply each_read (fun _ => Below.refl _ _) rfl
      · intro u wv hC hf
        obtain ⟨z0, z1, z2⟩ := aut_cells (blk_later HX2.out (Below.now HBW.out hC))
        have zq := (hC.cell hbq).trans cq0
        have zf := (hC.cell hbF).trans cF0
        obtain ⟨d2_0, -⟩ := hf
        have e2 : u 2 = _ := d2_0 rfl
        clear d2_0
        go_simp
        try rfl
      conv => arg 8; simp only [List.cons_append, List.nil_append]
      apply each_read (fun _ => Below.refl _ _) rfl
      · intro u wv hC hf
        obtain ⟨z0, z1, z2⟩ := aut_cells (blk_later HX2.out (Below.now HBW.out hC))
        have zq := (hC.cell hbq).trans cq0
        have zf := (hC.cell hbF).trans cF0
        obtain ⟨d3_0, -⟩ := hf
        have e3 : u 3 = _ := d3_0 rfl
        clear d3_0
        go_simp
        try rfl
      conv => arg 8; simp only [List.cons_append, List.nil_append]
      apply each_read (fun _ => Below.refl _ _) rfl
      · intro u wv hC hf
        obtain ⟨z0, z1, z2⟩ := aut_cells (blk_later HX2.out (Below.now HBW.out hC))
        have zq := (hC.cell hbq).trans cq0
        have zf := (hC.cell hbF).trans cF0
        obtain ⟨d1_0, d4_1, -⟩ := hf
        have e1 : u 1 = _ := d1_0 rfl
        clear d1_0
        have e4 : u 4 = _ := d4_1 rfl
        clear d4_1
        go_simp
        try rfl
      conv => arg 8; simp only [List.cons_append, List.nil_append]
      apply each_read (fun _ => Below.refl _ _) rfl
      · intro u wv hC hf
        obtain ⟨z0, z1, z2⟩ := aut_cells (blk_later HX2.out (Below.now HBW.out hC))
        have zq := (hC.cell hbq).trans cq0
        have zf := (hC.cell hbF).trans cF0
        obtain ⟨d5_0, -⟩ := hf
        have e5 : u 5 = _ := d5_0 rfl
        clear d5_0
        go_simp
        try rfl
      intro u w7 d7 hall
      obtain ⟨a0, a1, a2, a3, a4, a5, a6, -⟩ := hall
      have e0 : u 0 = _ := a0
      clear a0
      have e1 : u 1 = _ := a1
      clear a1
      have e2 : u 2 = _ := a2
      clear a2
      have e3 : u 3 = _ := a3
      clear a3
      have e4 : u 4 = _ := a4
      clear a4
      have e5 : u 5 = _ := a5
      clear a5
      have e6 : u 6 = _ := a6
      clear a6
      simp only [e0, e1, e2, e3, e4, e5, e6]
      clear e0 e1 e2 e3 e4 e5 e6
      have HBW7 := Lib.hid (Below.now HBW.out d7)
      cases hf
      case true =>
        by_cases h16 : p2.size ≤ 16
        · have h16i : (p2.size : Int) ≤ 16 := by omega
          have F9 := Lib.hid (ret_found HP.out HNO.out hk1 hk4 HPI.out HFB.out (by omega) (Below.now HB2.out HBW7.out) true (by simpa using h16))
          go_wp2_with fail
          refine bodyPost_ret (v := .tuple #[.string p2, .bool true]) ?_ rfl F9.out
          simp [results, Tryz.results18, go_sem]
        · have h16i : ¬ (p2.size : Int) ≤ 16 := by omega
          have F9 := Lib.hid (ret_found HP.out HNO.out hk1 hk4 HPI.out HFB.out (by omega) (Below.now HB2.out HBW7.out) false (by simpa using h16))
          go_wp2_with fail
          refine bodyPost_ret (v := .tuple #[.string p2, .bool false]) ?_ rfl F9.out
          simp [results, Tryz.results18, go_sem]
      case false =>
        have HNO2 : Hid (∀ (j : Nat) (q : StW), j < i + 1 → L[j]? = some q → F.getD q.1 false = false) := Lib.hid (fun j q hj hq => by
          by_cases e : j = i
          · subst e; rw [HPI.out] at hq; cases hq; exact HFB.out
          · exact HNO.out j q (by omega) hq)
        have x0 := (aut_cells (blk_later HX2.out HBW7.out)).1
        have HO7 : Hid (OwnW w7 b (Maps.size D) D) := Lib.hid (HO.out.kept (belowGrown d7) (by simp))
        have HQ7 : Hid (ownsOff w7 b 3 1 (.slice (some ⟨g, o, none⟩) (m + 1) cq) (L.length - i) (qV ((p1, p2) :: L.drop (i + 1)))) := Lib.hid (by rw [hm]; exact HQ.out.later d7)
        have HME : Hid (F.length + (m + 1) - mapN wr b = F.length - i ∧ i < F.length) := Lib.hid ⟨by rw [HMN.out]; omega, by omega⟩
        generalize hW : wr = wA at *
        have HWA := Lib.hid hW
        clear hW
        clear cq0 cF0 hbq hbF HAT hkey d7
        go_wp2_with fail
        clear x0
        go_loopw [5, 40] (fun vq vx wr => ∃ (x : Nat) (L : List StW) (D : DataW Unit), vx = .int .i64 (x : Nat) ∧ x ≤ k ∧ i < L.length ∧ Hid (L[i]? = some (p1, p2)) ∧ Hid (ShaP k N F.length L i x) ∧ Hid (∀ (j : Nat) (q : StW), j < i + 1 → L[j]? = some q → F.getD q.1 false = false) ∧ Hid (WordM D L) ∧ Hid (OwnW wr b (Maps.size D) D) ∧ Hid (ownsOff wr b 3 1 vq (L.length - i) (qV ((p1, p2) :: L.drop (i + 1)))) ∧ Hid (Below w2.heap.size w2 wr)) (fun _ vx _ => k - (intOf vx).toNat)
        case atStart => exact ⟨0, L, D, rfl, Nat.zero_le _, hlt, HPI, HP, HNO2, HM, HO7, HQ7, HBW7⟩
        case round =>
          clear HP HNO HM HO HQ HBW HO7 HQ7 HBW7 HNO2 HPI HMN hm hdl hfew hiL hlt hq0 hqn
          obtain ⟨x, L, D, rfl, hx, hlt, HPI, HP, HNO, HM, HO, HQ, HBW⟩ := hrel
          obtain ⟨aq, cq, rfl⟩ := HQ.out.form
          obtain ⟨m, hm⟩ : ∃ m, L.length - i = m + 1 := ⟨L.length - i - 1, by omega⟩
          rw [hm] at HQ ⊢
          obtain ⟨g, o, rfl⟩ : ∃ g o, aq = some ⟨g, o, none⟩ := by
            rcases HQ.out.2 with ⟨hv, _⟩ | ⟨g, o, _, _, hv, _⟩
            · simp at hv
            · simp only [Value.slice.injEq] at hv; exact ⟨g, o, hv.1⟩
          have hfew := HP.out.few
          by_cases hlx : x < k
          · have hxi : (x : Int) < (k : Int) := by omega
            have cq0 := HQ.out.cellAt 0 (.int .i64 ((p1 : Nat) : Int)) (by rw [qV_cons]; rfl)
            simp only [Nat.add_zero] at cq0
            have hbq : g < wr.heap.size := World.block_lt_of_cell? _ _ cq0
            have hq0 : (0 : Int) < (m : Int) + 1 := by omega
            have hqn : ¬ (m : Int) + 1 ≤ 0 := by omega
            have HNQ := Lib.hid (fun W hW => HNX.out W p1 x hW (HAP.out.slot hpn hlx))
            have hnx := HAP.out.next hpn hlx
            have HDE := Lib.hid (HP.out.dead HPI.out (y := x))
            have HOL := Lib.hid (fun q hq he => HP.out.old HPI.out hlx (q := q) hq he hk4)
            have HNE := Lib.hid (fun t ht htn hf => HP.out.new HPI.out hlx (t := t) ht htn hf hk4)
            have hky := keyOkZ (x := nxI k N p1 x) (by omega)
            have HHS := Lib.hid (HM.out.has (x := nxI k N p1 x))
            simp only at *
            generalize nxI k N p1 x = y at *
            go_upto_region 13 with fail
            refine region_tail 6 (fun W => Below wr.heap.size wr W) (fun W W2 => Below W.heap.size W W2) (fun u => by simp only [List.take_succ_cons, List.take_zero, fPut, Act.put, List.setIfInBounds_toArray, List.set_cons_succ, List.set_cons_zero, Nat.zero_add, Nat.reduceAdd]; rfl) (by kernel_rfl) (by kernel_rfl) (by kernel_rfl) (by kernel_rfl) (by kernel_rfl) (by kernel_rfl) (by kernel_rfl) (Below.drew (Below.refl _ _)) ?_
            conv => arg 7; simp only [List.take_succ_cons, List.take_zero]
            apply each_read (fun _ => Below.refl _ _) rfl
            · intro u wv hC hf
              obtain ⟨z0, z1, z2⟩ := aut_cells (blk_later HX2.out (Below.now HBW.out hC))
              have zq := (hC.cell hbq).trans cq0
              clear hf
              go_simp
              try rfl
            apply each_read (fun _ => Below.refl _ _) rfl
            · intro u wv hC hf
              obtain ⟨z0, z1, z2⟩ := aut_cells (blk_later HX2.out (Below.now HBW.out hC))
              have zq := (hC.cell hbq).trans cq0
              clear hf
              go_simp
              try rfl
            conv => arg 8; simp only [List.cons_append, List.nil_append]
            apply each_read (fun _ => Below.refl _ _) rfl
            · intro u wv hC hf
              obtain ⟨z0, z1, z2⟩ := aut_cells (blk_later HX2.out (Below.now HBW.out hC))
              have zq := (hC.cell hbq).trans cq0
              obtain ⟨d1_0, -⟩ := hf
              have e1 : u 1 = _ := d1_0 rfl
              clear d1_0
              go_simp
              try rfl
            conv => arg 8; simp only [List.cons_append, List.nil_append]
            apply each_read (fun _ => Below.refl _ _) rfl
            · intro u wv hC hf
              obtain ⟨z0, z1, z2⟩ := aut_cells (blk_later HX2.out (Below.now HBW.out hC))
              have zq := (hC.cell hbq).trans cq0
              obtain ⟨d2_0, -⟩ := hf
              have e2 : u 2 = _ := d2_0 rfl
              clear d2_0
              go_simp
              try rfl
            conv => arg 8; simp only [List.cons_append, List.nil_append]
            apply each_read (fun _ => Below.refl _ _) rfl
            · intro u wv hC hf
              obtain ⟨z0, z1, z2⟩ := aut_cells (blk_later HX2.out (Below.now HBW.out hC))
              have zq := (hC.cell hbq).trans cq0
              clear hf
              go_simp
              try rfl
            conv => arg 8; simp only [List.cons_append, List.nil_append]
            apply each_callR rfl
            · intro u wv hC hf
              obtain ⟨z0, z1, z2⟩ := aut_cells (blk_later HX2.out (Below.now HBW.out hC))
              have zq := (hC.cell hbq).trans cq0
              obtain ⟨d0_0, d3_1, d4_2, -⟩ := hf
              have e0 : u 0 = _ := d0_0 rfl
              clear d0_0
              have e3 : u 3 = _ := d3_1 rfl
              clear d3_1
              have e4 : u 4 = _ := d4_2 rfl
              clear d4_2
              apply Exists.intro; apply Exists.intro; apply And.intro
              · go_simp; exact ⟨rfl, rfl⟩
              · refine (HNQ.out _ ((HN2.out.later HBW.out).later hC)).mono ?_
                rintro e w9 ⟨rfl, hb9⟩
                exact ⟨rfl, Below.now hC hb9, hb9⟩
            intro u w7 d7 hall
            obtain ⟨a0, a1, a2, a3, a4, a5, -⟩ := hall
            have e0 : u 0 = _ := a0
            clear a0
            have e1 : u 1 = _ := a1
            clear a1
            have e2 : u 2 = _ := a2
            clear a2
            have e3 : u 3 = _ := a3
            clear a3
            have e4 : u 4 = _ := a4
            clear a4
            have e5 : u 5 = _ := a5
            clear a5
            change wpList _ _ _ (List.drop 6 _) _ _
            simp only [List.drop_succ_cons, List.drop_zero]
            simp only [e0, e1, e2, e3, e4, e5]
            clear e0 e1 e2 e3 e4 e5
            have HBW7 := Lib.hid (Below.now HBW.out d7)
            have HO7 : Hid (OwnW w7 b (Maps.size D) D) := Lib.hid (HO.out.kept (belowGrown d7) (by simp))
            have HQ7 := Lib.hid (HQ.out.later d7)
            clear d7 cq0 hbq HO HQ HNQ
            go_upto_region 14 with fail
            cases hh : Maps.has D (keyZ y)
            · by_cases h0 : 0 ≤ y
              · obtain ⟨q, rfl⟩ : ∃ q : Nat, y = (q : Int) := ⟨y.toNat, by omega⟩
                have hqn2 : q < F.length := by omega
                have hf : q ∉ L.map Prod.fst := fun hc => by
                  obtain ⟨r, hr, e⟩ := List.mem_map.1 hc
                  have := HHS.out.2 ⟨r, hr, by rw [e]⟩
                  rw [hh] at this; cases this
                have HPN := Lib.hid (HNE.out q rfl hqn2 hf)
                have HMN2 := Lib.hid (HM.out.new (v := p2 ++ letterN x) hf)
                have hls : (letterN x).size = 1 := letterN_size x
                have hsum : ¬ 9223372036854775807 < p2.size + (letterN x).size := by omega
                have hmx : Maps.size D < maxLen := by rw [HM.out.size]; unfold maxLen; omega
                have HWF := Lib.hid (plainElem_string (H := Unit) (P := Tryz.prog) Tryz.underlying9 (s := p2 ++ letterN x) (by rw [ByteArray.size_append, hls]; unfold maxLen; omega))
                clear hf
                go_upto_region 16 with (first
                  | (at_lookup; refine wpList_lookup_own_ok _ rfl _ _ 104 rfl 3 9 keyedA Tryz.underlying104 (plainElem (H := Unit) Tryz.prog 9) (zeroStrA _) _ _ (plainElem_string Tryz.underlying9 (by decide)) b _ D rfl HO7.out _ _ rfl hky ?_; rw [hh]; intro vw pw hvw; clear hvw)
                  | go_in)
                go_wp2_with fail
                refine (HLT.out _ x (by omega)).mono ?_
                rintro e w8 ⟨rfl, hb8⟩
                have HO8 : Hid (OwnW w8 b (Maps.size D) D) := Lib.hid (HO7.out.kept (belowGrown hb8) (by simp))
                have HQ8 := Lib.hid (HQ7.out.later hb8)
                have HBW8 := Lib.hid (Below.now HBW7.out hb8)
                clear hb8
                go_upto_region 17 with (first
                  | (at_mapUpdate; (refine wpList_mapUpdate_own _ rfl _ _ _ 104 rfl 3 9 keyedA Tryz.underlying104 (plainElem (H := Unit) Tryz.prog 9) b _ D rfl HO8.out hmx _ _ _ rfl rfl hky _ [] HWF.out ?_); intro w12 hown12 hgr12)
                  | go_in)
                have HO12 := Lib.hid (ownW_tight hown12)
                have HQ12 := Lib.hid (HQ8.out.kept hgr12 (.inr fun e => off_ne HQ8.out HO8.out e.symm))
                have HB12 : Hid (Below w2.heap.size w2 w12) := Lib.hid (Below.grown HBW8.out hgr12 HBW8.out.size (fun j hj => by cases hj; have := HBE.out; omega))
                clear hown12 hgr12
                have HQA := Lib.hid (HQ12.out.later (alloc_belowS w12 (.cells #[.int .i64 (q : Int)] 3)))
                have HOA : Hid (OwnW (w12.alloc (.cells #[.int .i64 (q : Int)] 3)) b _ _) := Lib.hid (World.ownsMap.alloc HO12.out (.cells #[.int .i64 (q : Int)] 3))
                have HBA := Lib.hid (Below.now HB12.out (alloc_belowS w12 (.cells #[.int .i64 (q : Int)] 3)))
                have HBL : Hid (b ≤ (w12.alloc (.cells #[.int .i64 (q : Int)] 3)).heap.size) := Lib.hid (by have := HBA.out.size; have := HBE.out; omega)
                have HSR : Hid (Go.Src Tryz.prog 1 27 (.slice (some ⟨w12.heap.size, 0, none⟩) 1 1) 1 [.int .i64 (q : Int)] (w12.alloc (.cells #[.int .i64 (q : Int)] 3))) := Lib.hid (src_of Tryz.underlying27 (Src.lit [.int .i64 (q : Int)]) rfl (fun u hu => by rw [List.mem_singleton.1 hu]; rfl))
                go_upto_region 18 with (at_builtin; refine wpList_append_off2 rfl (.tmp 67) (.tmp 69) rfl Tryz.underlying27 Tryz.infoInt rfl (by decide) rfl HQA.out HBL.out rfl HSR.out (by unfold maxLen; omega) (by omega) ?_; intro v13 w13 ho13 hg13 hn13)
                have HO13 := Lib.hid (HOA.out.kept hg13 (off_ne HQA.out HOA.out))
                have HB13 : Hid (Below w2.heap.size w2 w13) := Lib.hid (Below.grown HBA.out hg13 HBA.out.size (fun j hj => by have := (HQA.out.lt j hj).1; have := HBE.out; omega))
                have HQ13 : Hid (ownsOff w13 b 3 1 v13 ((L ++ [(q, p2 ++ letterN x)]).length - i) (qV ((p1, p2) :: (L ++ [(q, p2 ++ letterN x)]).drop (i + 1)))) := Lib.hid (by
                  rw [List.drop_append_of_le_length (by omega), ← List.cons_append, qV_app, show (L ++ [(q, p2 ++ letterN x)]).length - i = m + 1 + 1 by rw [List.length_append]; simp; omega]
                  exact ho13)
                have HPI2 : Hid ((L ++ [(q, p2 ++ letterN x)])[i]? = some (p1, p2)) := Lib.hid (by rw [List.getElem?_append_left hlt]; exact HPI.out)
                have HNO2 : Hid (∀ (j : Nat) (r : StW), j < i + 1 → (L ++ [(q, p2 ++ letterN x)])[j]? = some r → F.getD r.1 false = false) := Lib.hid (fun j r hj hr => by
                  rw [List.getElem?_append_left (by omega)] at hr
                  exact HNO.out j r hj hr)
                have hlt2 : i < (L ++ [(q, p2 ++ letterN x)]).length := by rw [List.length_append]; omega
                clear ho13 hg13 hn13 hls hsum hmx
                go_wp2_with fail
                go_roundw
                case rel => exact ⟨x + 1, L ++ [(q, p2 ++ letterN x)], _, by go_num, by omega, hlt2, HPI2, HPN, HNO2, HMN2, HO13, HQ13, HB13⟩
                case measure => simp [intOf]; omega
              · have HPN := Lib.hid (HDE.out h0)
                go_wp2_with (first
                  | (at_lookup; refine wpList_lookup_own_ok _ rfl _ _ 104 rfl 3 9 keyedA Tryz.underlying104 (plainElem (H := Unit) Tryz.prog 9) (zeroStrA _) _ _ (plainElem_string Tryz.underlying9 (by decide)) b _ D rfl HO7.out _ _ rfl hky ?_; rw [hh]; intro vw pw hvw; clear hvw)
                  | go_in)
                go_roundw
                case rel => exact ⟨x + 1, L, D, by go_num, by omega, hlt, HPI, HPN, HNO, HM, HO7, by rw [hm]; exact HQ7, HBW7⟩
                case measure => simp [intOf]; omega
            · obtain ⟨q, hq, he⟩ := HHS.out.1 hh
              have h0 : 0 ≤ y := by omega
              have HPN := Lib.hid (HOL.out q hq (by omega))
              clear he hq
              go_wp2_with (first
                | (at_lookup; refine wpList_lookup_own_ok _ rfl _ _ 104 rfl 3 9 keyedA Tryz.underlying104 (plainElem (H := Unit) Tryz.prog 9) (zeroStrA _) _ _ (plainElem_string Tryz.underlying9 (by decide)) b _ D rfl HO7.out _ _ rfl hky ?_; rw [hh]; intro vw pw hvw; clear hvw)
                | go_in)
              go_roundw
              case rel => exact ⟨x + 1, L, D, by go_num, by omega, hlt, HPI, HPN, HNO, HM, HO7, by rw [hm]; exact HQ7, HBW7⟩
              case measure => simp [intOf]; omega
          · have hxi : ¬ (x : Int) < (k : Int) := by omega
            obtain rfl : k = x := by omega
            have HPR := Lib.hid (HP.out.row hlt)
            have hdl2 : (L.drop (i + 1)).length = m := by rw [List.length_drop]; omega
            obtain ⟨HT0, hcm⟩ := tailV HQ.out (show m + 1 = (L.drop (i + 1)).length + 1 by rw [hdl2])
            have HT := Lib.hid HT0
            have HMN3 : Hid (mapN wr b = L.length) := Lib.hid ((mapN_eq HO.out).trans HM.out.size)
            clear HT0
            by_cases hc1 : cq = 1
            · subst hc1
              obtain rfl : m = 0 := by omega
              have HQN : Hid (ownsOff wr b 3 1 (.slice (some ⟨g, o, none⟩) 0 0) (L.drop (i + 1)).length (qV (L.drop (i + 1)))) := Lib.hid (by
                have h := HT.out
                rw [if_pos rfl, Nat.add_sub_cancel] at h
                exact h)
              go_wp2_with fail
              go_roundw
              case rel => exact ⟨i + 1, L, D, by omega, HPR, HNO, HM, HO, HQN, HBW⟩
              case measure =>
                have h1 := HME.out
                have h2 := HMN3.out
                show F.length + 0 - mapN wr b < F.length + (_ + 1) - mapN _ b
                rw [HWA.out, h2, h1.1]
                omega
            · have hci : ¬ cq = 1 := hc1
              have HQN : Hid (ownsOff wr b 3 1 (.slice (some ⟨g, o + 1, none⟩) m (cq - 1)) (L.drop (i + 1)).length (qV (L.drop (i + 1)))) := Lib.hid (by
                have h := HT.out
                rw [if_neg hc1, Nat.add_sub_cancel] at h
                exact h)
              go_wp2_with fail
              go_roundw
              case rel => exact ⟨i + 1, L, D, by omega, HPR, HNO, HM, HO, HQN, HBW⟩
              case measure =>
                have h1 := HME.out
                have h2 := HMN3.out
                show F.length + m - mapN wr b < F.length + (_ + 1) - mapN _ b
                rw [HWA.out, h2, h1.1]
                omega
    · obtain rfl : i = L.length := by omega
      have h0 : (L.drop L.length).length = 0 := by simp
      rw [h0]
      have F9 := Lib.hid (ret_none HP.out HNO.out (Below.now HB2.out HBW.out))
      go_wp2_with fail
      refine bodyPost_ret (v := .tuple #[.string ⟨#[]⟩, .bool false]) ?_ rfl F9.out
      simp [results, Tryz.results18, go_sem]
end Go.Proofs.YtoddpmdjjgnpgaaGreatDoor
