/-
  RegularOf and CenterOf of the reference, by a row of bools.
-/
import Derived.Test.YtkkffaiacipibaaPow
namespace Go.Proofs.Ytkkffaiacipibaa
open Go.RowKit
set_option linter.unusedVariables false
/-- a row of which the places below c are done, and c holds v -/
def rowF (p : Nat → Bool) (c : Nat) (v : Bool) : Nat → Bool := fun j => if j < c then p j else if j = c then v else false
theorem rowF_store (p : Nat → Bool) (c : Nat) (v v' : Bool) (j : Nat) : (if j = c then v' else rowF p c v j) = rowF p c v' j := by
  unfold rowF
  by_cases h : j = c
  · subst h; simp
  · simp [h]
theorem rowF_next (p : Nat → Bool) (c : Nat) (v : Bool) (h : v = p c) (j : Nat) : rowF p c v j = rowF p (c + 1) false j := by
  unfold rowF
  subst h
  by_cases h : j = c
  · subst h; simp
  · by_cases h2 : j < c
    · rw [if_pos h2, if_pos (by omega)]
    · rw [if_neg h2, if_neg h, if_neg (by omega)]; simp
theorem rowF_zero (p : Nat → Bool) (j : Nat) : false = rowF p 0 false j := by simp [rowF]
theorem rowF_done (p : Nat → Bool) (m : Nat) (v : Bool) {j : Nat} (h : j < m) : rowF p m v j = p j := by simp [rowF, h]
theorem rowF_at (p : Nat → Bool) (c : Nat) (v : Bool) : rowF p c v c = v := by simp [rowF]
theorem Try.infoBool : (Try.prog.info? 4).map (fun i => (i.zero, i.size, i.bytes)) = some (some (.bool false), 1, 1) := by kernel_rfl
theorem regV {m : Nat} {ln : List Nat} {c x : Nat} : (!(true && regB m ln c x)) = (((tm m ln (tm m ln c x) c : Nat) : Int) == ((c : Nat) : Int)) := by
  simp only [regB, Bool.true_and, Bool.not_not]
  cases h : ((tm m ln (tm m ln c x) c : Nat) : Int) == ((c : Nat) : Int)
  · simp at h; simp; omega
  · simp at h; simp; omega
theorem cenV {m : Nat} {ln : List Nat} {c x : Nat} : (true && cenB m ln c x) = (((tm m ln c x : Nat) : Int) == ((tm m ln x c : Nat) : Int)) := by
  simp only [cenB, Bool.true_and]
  cases h : ((tm m ln c x : Nat) : Int) == ((tm m ln x c : Nat) : Int)
  · simp at h; simp; omega
  · simp at h; simp; omega
theorem BoolRow.drew {T : TypeId} {w : World} {base g m : Nat} {f : Nat → Bool} (h : BoolRow T w base g m f) : BoolRow T w.drew base g m f := h
theorem allN_all (p : Nat → Bool) (m : Nat) : allN p m = (List.range m).all p := rfl
set_option maxRecDepth 100000 in
set_option maxHeartbeats 2000000 in
theorem specRegularOf_any (n : Int) (l : List Int) (a : Option Addr) (cap : Nat) (w : World) (hl : IntsIn w a l) (hlen : l.length ≤ 2 ^ 47) :
    Calls Try.prog 32 #[.agg #[.int .i64 n, .slice a l.length cap]] w (RetSl 3 1 (regularOfF n l).length (intVals (regularOfF n l)) w) := by
  have HI := Lib.hid hl
  clear hl
  cases ht : tabB n l
  · have F : Hid (∀ w', Below w.heap.size w w' → RetSl 3 1 (regularOfF n l).length (intVals (regularOfF n l)) w (.returned (.slice none 0 0)) w') := fun w' hb => by
      rw [show regularOfF n l = [] from thoseL_not ht]; exact retSl_nil _ _ _ hb
    go_enter Try.func32, Try.ntmps32
    go_wp2_with fail
    refine (specTableOk_any n l a cap _ (HI.out.later ((Below.refl _ _).alloc (Nat.le_refl _) _)) hlen).mono ?_
    rintro e w2 ⟨rfl, hb2⟩
    have hbel := Below.now ((Below.refl w.heap.size w).alloc (Nat.le_refl _) _) hb2
    clear hb2
    go_wp2_with fail
    go_ret
    exact F.out _ hbel
  obtain ⟨m, ln, rfl, hlm, hT⟩ := tabOk_out ht
  have HT := Lib.hid hT.toTb
  have hm0 := hT.lo
  have hm1 := hT.hi
  have HLM := Lib.hid hlm
  have HTB := Lib.hid ht
  have HLL : Hid (l.length = m * m) := by rw [hlm, List.length_map]; exact hT.len
  clear hT hlm
  go_enter Try.func32, Try.ntmps32
  go_wp2_with fail
  refine (specTableOk_any _ l a cap _ (HI.out.later ((Below.refl _ _).alloc (Nat.le_refl _) _)) hlen).mono ?_
  rintro e w1 ⟨rfl, hb1⟩
  have hx0 := box_later hb1 (i := 0) (v := .int .i64 (m : Nat)) rfl
  have hx1 := box_later hb1 (i := 1) (v := .slice a l.length cap) rfl
  have HN1 : Hid (∀ W, Below w1.heap.size w1 W → NatsIn W a ln) := fun W hW => by
    unfold NatsIn
    rw [← HLM.out]
    exact (HI.out.later (Below.now ((Below.refl _ _).alloc (Nat.le_refl _) _) hb1)).later hW
  have hbel := Lib.hid (Below.now ((Below.refl w.heap.size w).alloc (Nat.le_refl _) _) hb1)
  have hb0 := Below.refl w1.heap.size w1
  clear hb1 HI
  have hmk := run_make_row' (P := Try.prog) 51 4 (.bool false) 1 Try.underlying51 Try.infoBool rfl .i64 .i64 m (by omega) (by omega)
  go_wp2_with fail
  have HF : Hid (regularOfF (m : Nat) l = listTo (isReg m ln) m) := by unfold regularOfF; rw [thoseL_yes HTB.out, HLM.out, map_toNat]; rfl
  clear hmk
  have hrow := BoolRow.start w1 4 (madeCells #[.bool false] m) m (made_bools m) (by unfold maxLen; omega)
  have hb2 : Below w1.heap.size w1 (w1.alloc (.cells (madeCells #[.bool false] m) 4)) := (Below.refl _ _).alloc (Nat.le_refl _) _
  generalize (w1.alloc (.cells (madeCells #[.bool false] m) 4)) = w2 at *
  obtain ⟨g, hg⟩ : ∃ g, w1.heap.size = g := ⟨_, rfl⟩
  have hgB : w1.heap.size ≤ g := by omega
  have hg2 : BoolRow 4 w2 w1.heap.size g m fun _ => false := by rw [← hg]; exact hrow
  have HG2 := Lib.hid (hg2.congr (f' := rowF (isReg m ln) 0 false) (fun j _ => rowF_zero _ j))
  rw [hg]
  clear hrow hg hg2 hb0
  go_loopw [14] (fun i wr => ∃ c : Nat, c ≤ m ∧ i = .int .i64 c ∧ Below w1.heap.size w1 wr ∧ BoolRow 4 wr w1.heap.size g m (rowF (isReg m ln) c false)) (fun i _ => m - (intOf i).toNat)
  case atStart => exact ⟨0, Nat.zero_le _, rfl, hb2, HG2.out⟩
  case round =>
    clear HG2 hb2
    obtain ⟨c, hcm, rfl, hbw, hrow⟩ := hrel
    by_cases hlt : c < m
    · go_wp2_with fail
      have hbs := hbw
      have HS := Lib.hid (hrow.congr (f' := rowF (isReg m ln) c (!allN (regB m ln c) 0)) (fun j _ => by rw [allN_zero]; rfl))
      clear hrow hbw
      go_loopw [5] (fun i wr => ∃ x : Nat, x ≤ m ∧ i = .int .i64 x ∧ Below w1.heap.size w1 wr ∧ BoolRow 4 wr w1.heap.size g m (rowF (isReg m ln) c (!allN (regB m ln c) x))) (fun i _ => m - (intOf i).toNat)
      case atStart => exact ⟨0, Nat.zero_le _, rfl, hbs, HS.out⟩
      case round =>
        clear HS hbs
        obtain ⟨x, hxm, rfl, hbw, hrow⟩ := hrel
        have HN := Lib.hid (allN_succ (regB m ln c) x)
        by_cases hlx : x < m
        · have hcell := hrow.cell hlt
          rw [rowF_at] at hcell
          have hfr := hrow.frozen c
          have HR := Lib.hid hrow
          clear hrow
          cases hq : allN (regB m ln c) x
          · rw [hq] at hcell HR
            have z0 := hx0 _ hbw
            have z1 := hx1 _ hbw
            go_wp2_with fail
            go_region
            have HR2 : Hid (BoolRow 4 (wr.setCell ⟨g, c, none⟩ (.bool true)).drew w1.heap.size g m (rowF (isReg m ln) c true)) := BoolRow.drew ((HR.out.store c true).congr (fun j _ => rowF_store _ _ _ _ j))
            have hb9 := (hbw.setCell hgB (p := ⟨g, c, none⟩) (.bool true)).drew
            clear hbw z0 z1 hcell hfr
            go_wp2_with fail
            go_roundw
            case rel => exact ⟨x + 1, by omega, by go_num, hb9, by rw [HN.out, hq]; exact HR2.out⟩
            case measure => simp [intOf]; omega
          · rw [hq] at hcell HR
            have hcx := HT.out.tm_lt hlt hlx
            have z0 := hx0 _ hbw
            have z1 := hx1 _ hbw
            have kk := hbw
            have HV : Hid ((!(allN (regB m ln c) x && regB m ln c x)) = (((tm m ln (tm m ln c x) c : Nat) : Int) == ((c : Nat) : Int))) := by rw [hq]; exact regV
            go_wp2_with fail
            go_region_with ((go_at_call 55; refine (specTimes_any m ln a _ _ _ _ _ (HN1.out _ (by repeat (first | exact kk | exact hbw | refine Below.drew ?_))) HT.out HLL.out (by first | assumption | exact hcx) (by assumption)).mono ?_; rintro e w5 ⟨rfl, hb5⟩; replace kk := Below.now kk (Below.now (by repeat (first | exact Below.refl _ _ | refine Below.drew ?_)) hb5); have y0 := hx0 _ kk; have y1 := hx1 _ kk; replace HR := Lib.hid (HR.out.later (Below.now (by repeat (first | exact Below.refl _ _ | refine Below.drew ?_)) hb5)); replace hfr := HR.out.frozen c; replace hcell := HR.out.cell hlt; rw [rowF_at] at hcell; clear hb5))
            all_goals
              have HR2 := Lib.hid ((HR.out.store c (((tm m ln (tm m ln c x) c : Nat) : Int) == ((c : Nat) : Int))).congr (fun j _ => rowF_store _ _ _ _ j))
              have hb9 := kk.setCell hgB (p := ⟨g, c, none⟩) (.bool (((tm m ln (tm m ln c x) c : Nat) : Int) == ((c : Nat) : Int)))
              clear hbw z0 z1 hcell hfr kk
              go_wp2_with fail
              go_roundw
              case rel => exact ⟨x + 1, by omega, by go_num, hb9, by rw [HN.out, HV.out]; exact HR2.out⟩
              case measure => simp [intOf]; omega
        · obtain rfl : x = m := by omega
          have HP : Hid ((!allN (regB x ln c) x) = isReg x ln c) := rfl
          have HR2 := Lib.hid (hrow.congr (fun j _ => rowF_next _ _ _ HP.out j))
          clear hrow
          go_wp2_with fail
          go_roundw
          case rel => exact ⟨c + 1, by omega, by go_num, hbw, HR2.out⟩
          case measure => simp [intOf]; omega
    · obtain rfl : c = m := by omega
      have HR := Lib.hid (hrow.congr (f' := isReg c ln) (fun j hj => rowF_done _ _ _ hj))
      have HE := Lib.hid (Below.now hbel.out hbw)
      clear hrow
      go_wp2_with fail
      refine (l09List_any c g _ _ _ HR.out (by omega)).mono ?_
      rintro e w9 ⟨a9, c9, rfl, ho, hb9⟩
      have F : Hid (RetSl 3 1 (regularOfF (c : Nat) l).length (intVals (regularOfF (c : Nat) l)) w (.returned (.slice a9 (listTo (isReg c ln) c).length c9)) w9) := by
        rw [HF.out]; exact ⟨_, _, rfl, owns_mono ho HE.out.size, Below.now HE.out hb9⟩
      clear ho hb9
      go_wp2_with fail
      go_ret
      exact F.out
/-- CenterOf as a function of plain data -/
def centerOfF (n : Int) (l : List Int) : List Int := if groupB n l then thoseL n l (isCen n.toNat (l.map Int.toNat)) else []
theorem centerOfF_not {n : Int} {l : List Int} (h : groupB n l = false) : centerOfF n l = [] := by unfold centerOfF; rw [h]; rfl
theorem centerOfF_yes {n : Int} {l : List Int} (h : groupB n l = true) : centerOfF n l = thoseL n l (isCen n.toNat (l.map Int.toNat)) := by unfold centerOfF; rw [h]; rfl
theorem centerOfF_len (n : Int) (l : List Int) : (centerOfF n l).length ≤ 1000 := by
  cases h : groupB n l
  · rw [centerOfF_not h]; simp
  · rw [centerOfF_yes h]; exact thoseL_len _ _ _
set_option maxHeartbeats 800000 in
theorem implCenterOf_any (n : Int) (l : List Int) (a : Option Addr) (cap : Nat) (w : World) (hl : IntsIn w a l) (hlen : l.length ≤ 2 ^ 47) :
    Calls Try.prog 39 #[.agg #[.int .i64 n, .slice a l.length cap]] w (RetSl 3 1 (centerOfF n l).length (intVals (centerOfF n l)) w) := by
  have HL := Lib.hid hl
  clear hl
  have HX : Hid (Below w.heap.size w (w.alloc (.cells #[.int .i64 n, .slice a l.length cap] 27))) := (Below.refl _ _).alloc (Nat.le_refl _) _
  cases hg : groupB n l
  · have F : Hid (∀ w', Below w.heap.size w w' → RetSl 3 1 (centerOfF n l).length (intVals (centerOfF n l)) w (.returned (.slice none 0 0)) w') := fun w' hb => by
      rw [centerOfF_not hg]; exact retSl_nil _ _ _ hb
    go_enter Try.func39, Try.ntmps39
    go_wp2_with fail
    refine (implIsGroup_any n l a cap _ (HL.out.later HX.out) hlen).mono ?_
    rintro e w2 ⟨rfl, hb2⟩
    have hbel := Below.now HX.out hb2
    clear hb2
    go_wp2_with fail
    go_ret
    exact F.out _ hbel
  · have HE := Lib.hid (centerOfF_yes hg)
    go_enter Try.func39, Try.ntmps39
    go_wp2_with fail
    refine (implIsGroup_any n l a cap _ (HL.out.later HX.out) hlen).mono ?_
    rintro e w2 ⟨rfl, hb2⟩
    have hx0 := box_later hb2 (i := 0) (v := .int .i64 n) rfl
    have hx1 := box_later hb2 (i := 1) (v := .slice a l.length cap) rfl
    have hbel := Lib.hid (Below.now HX.out hb2)
    have hb0 := Below.refl w2.heap.size w2
    clear hb2
    go_wp2_with fail
    refine (those_any n l a cap _ (HL.out.later hbel.out) hlen _ _ _ (isCen n.toNat (l.map Int.toNat)) (Nat.le_refl _) ?_ (enters_of Try.func75 (by kernel_rfl) rfl)).mono ?_
    · intro ht
      obtain ⟨m, ln, rfl, rfl, hT⟩ := tabOk_out ht
      rw [map_toNat]
      exact centerofOut_pred m ln a (ln.map Int.ofNat).length cap w.heap.size _ (by have := hx0 _ hb0; simpa using this) (by have := hx1 _ hb0; simpa using this) (HL.out.later hbel.out) hT.toTb (by rw [List.length_map]; exact hT.len)
    rintro e w3 ⟨a3, c3, rfl, ho, hb3⟩
    have F : Hid (RetSl 3 1 (centerOfF n l).length (intVals (centerOfF n l)) w (.returned (.slice a3 (thoseL n l (isCen n.toNat (l.map Int.toNat))).length c3)) w3) := by
      rw [HE.out]; exact ⟨_, _, rfl, owns_mono ho hbel.out.size, Below.now hbel.out hb3⟩
    clear ho hb3
    go_wp2_with fail
    go_ret
    exact F.out
set_option maxRecDepth 100000 in
set_option maxHeartbeats 2000000 in
theorem specCenterOf_any (n : Int) (l : List Int) (a : Option Addr) (cap : Nat) (w : World) (hl : IntsIn w a l) (hlen : l.length ≤ 2 ^ 47) :
    Calls Try.prog 38 #[.agg #[.int .i64 n, .slice a l.length cap]] w (RetSl 3 1 (centerOfF n l).length (intVals (centerOfF n l)) w) := by
  have HI := Lib.hid hl
  clear hl
  cases ht : groupB n l
  · have F : Hid (∀ w', Below w.heap.size w w' → RetSl 3 1 (centerOfF n l).length (intVals (centerOfF n l)) w (.returned (.slice none 0 0)) w') := fun w' hb => by
      rw [show centerOfF n l = [] from centerOfF_not ht]; exact retSl_nil _ _ _ hb
    go_enter Try.func38, Try.ntmps38
    go_wp2_with fail
    refine (specIsGroup_any n l a cap _ (HI.out.later ((Below.refl _ _).alloc (Nat.le_refl _) _)) hlen).mono ?_
    rintro e w2 ⟨rfl, hb2⟩
    have hbel := Below.now ((Below.refl w.heap.size w).alloc (Nat.le_refl _) _) hb2
    clear hb2
    go_wp2_with fail
    go_ret
    exact F.out _ hbel
  obtain ⟨m, ln, rfl, hlm, hT⟩ := tabOk_out (groupB_tab ht)
  have HT := Lib.hid hT.toTb
  have hm0 := hT.lo
  have hm1 := hT.hi
  have HLM := Lib.hid hlm
  have HTB := Lib.hid ht
  have HLL : Hid (l.length = m * m) := by rw [hlm, List.length_map]; exact hT.len
  clear hT hlm
  go_enter Try.func38, Try.ntmps38
  go_wp2_with fail
  refine (specIsGroup_any _ l a cap _ (HI.out.later ((Below.refl _ _).alloc (Nat.le_refl _) _)) hlen).mono ?_
  rintro e w1 ⟨rfl, hb1⟩
  have hx0 := box_later hb1 (i := 0) (v := .int .i64 (m : Nat)) rfl
  have hx1 := box_later hb1 (i := 1) (v := .slice a l.length cap) rfl
  have HN1 : Hid (∀ W, Below w1.heap.size w1 W → NatsIn W a ln) := fun W hW => by
    unfold NatsIn
    rw [← HLM.out]
    exact (HI.out.later (Below.now ((Below.refl _ _).alloc (Nat.le_refl _) _) hb1)).later hW
  have hbel := Lib.hid (Below.now ((Below.refl w.heap.size w).alloc (Nat.le_refl _) _) hb1)
  have hb0 := Below.refl w1.heap.size w1
  clear hb1 HI
  have hmk := run_make_row' (P := Try.prog) 51 4 (.bool false) 1 Try.underlying51 Try.infoBool rfl .i64 .i64 m (by omega) (by omega)
  go_wp2_with fail
  have HF : Hid (centerOfF (m : Nat) l = listTo (isCen m ln) m) := by rw [centerOfF_yes HTB.out, thoseL_yes (groupB_tab HTB.out), HLM.out, map_toNat]; rfl
  clear hmk
  have hrow := BoolRow.start w1 4 (madeCells #[.bool false] m) m (made_bools m) (by unfold maxLen; omega)
  have hb2 : Below w1.heap.size w1 (w1.alloc (.cells (madeCells #[.bool false] m) 4)) := (Below.refl _ _).alloc (Nat.le_refl _) _
  generalize (w1.alloc (.cells (madeCells #[.bool false] m) 4)) = w2 at *
  obtain ⟨g, hg⟩ : ∃ g, w1.heap.size = g := ⟨_, rfl⟩
  have hgB : w1.heap.size ≤ g := by omega
  have hg2 : BoolRow 4 w2 w1.heap.size g m fun _ => false := by rw [← hg]; exact hrow
  have HG2 := Lib.hid (hg2.congr (f' := rowF (isCen m ln) 0 false) (fun j _ => rowF_zero _ j))
  rw [hg]
  clear hrow hg hg2 hb0
  go_loopw [14] (fun i wr => ∃ c : Nat, c ≤ m ∧ i = .int .i64 c ∧ Below w1.heap.size w1 wr ∧ BoolRow 4 wr w1.heap.size g m (rowF (isCen m ln) c false)) (fun i _ => m - (intOf i).toNat)
  case atStart => exact ⟨0, Nat.zero_le _, rfl, hb2, HG2.out⟩
  case round =>
    clear HG2 hb2
    obtain ⟨c, hcm, rfl, hbw, hrow⟩ := hrel
    by_cases hlt : c < m
    · have c1 := hrow.cell hlt
      rw [rowF_at] at c1
      have c2 := hrow.frozen c
      have hbs := hbw.setCell hgB (p := ⟨g, c, none⟩) (.bool true)
      have HS := Lib.hid ((hrow.store c true).congr (f' := rowF (isCen m ln) c (allN (cenB m ln c) 0)) (fun j _ => by rw [allN_zero]; exact rowF_store _ _ _ _ j))
      clear hrow hbw
      go_wp2_with fail
      clear c1 c2
      go_loopw [5] (fun i wr => ∃ x : Nat, x ≤ m ∧ i = .int .i64 x ∧ Below w1.heap.size w1 wr ∧ BoolRow 4 wr w1.heap.size g m (rowF (isCen m ln) c (allN (cenB m ln c) x))) (fun i _ => m - (intOf i).toNat)
      case atStart => exact ⟨0, Nat.zero_le _, rfl, hbs, HS.out⟩
      case round =>
        clear HS hbs
        obtain ⟨x, hxm, rfl, hbw, hrow⟩ := hrel
        have HN := Lib.hid (allN_succ (cenB m ln c) x)
        by_cases hlx : x < m
        · have hcell := hrow.cell hlt
          rw [rowF_at] at hcell
          have hfr := hrow.frozen c
          have HR := Lib.hid hrow
          clear hrow
          cases hq : allN (cenB m ln c) x
          · rw [hq] at hcell HR
            have z0 := hx0 _ hbw
            have z1 := hx1 _ hbw
            go_wp2_with fail
            go_region
            have HR2 : Hid (BoolRow 4 (wr.setCell ⟨g, c, none⟩ (.bool false)).drew w1.heap.size g m (rowF (isCen m ln) c false)) := BoolRow.drew ((HR.out.store c false).congr (fun j _ => rowF_store _ _ _ _ j))
            have hb9 := (hbw.setCell hgB (p := ⟨g, c, none⟩) (.bool false)).drew
            clear hbw z0 z1 hcell hfr
            go_wp2_with fail
            go_roundw
            case rel => exact ⟨x + 1, by omega, by go_num, hb9, by rw [HN.out, hq]; exact HR2.out⟩
            case measure => simp [intOf]; omega
          · rw [hq] at hcell HR
            have hcx := HT.out.tm_lt hlt hlx
            have z0 := hx0 _ hbw
            have z1 := hx1 _ hbw
            have kk := hbw
            have HV : Hid (((allN (cenB m ln c) x && cenB m ln c x)) = (((tm m ln c x : Nat) : Int) == ((tm m ln x c : Nat) : Int))) := by rw [hq]; exact cenV
            go_wp2_with fail
            go_region_with ((go_at_call 55; refine (specTimes_any m ln a _ _ _ _ _ (HN1.out _ (by repeat (first | exact kk | exact hbw | refine Below.drew ?_))) HT.out HLL.out (by first | assumption | exact hcx) (by assumption)).mono ?_; rintro e w5 ⟨rfl, hb5⟩; replace kk := Below.now kk (Below.now (by repeat (first | exact Below.refl _ _ | refine Below.drew ?_)) hb5); have y0 := hx0 _ kk; have y1 := hx1 _ kk; replace HR := Lib.hid (HR.out.later (Below.now (by repeat (first | exact Below.refl _ _ | refine Below.drew ?_)) hb5)); replace hfr := HR.out.frozen c; replace hcell := HR.out.cell hlt; rw [rowF_at] at hcell; clear hb5))
            all_goals
              have HR2 := Lib.hid ((HR.out.store c (((tm m ln c x : Nat) : Int) == ((tm m ln x c : Nat) : Int))).congr (fun j _ => rowF_store _ _ _ _ j))
              have hb9 := kk.setCell hgB (p := ⟨g, c, none⟩) (.bool (((tm m ln c x : Nat) : Int) == ((tm m ln x c : Nat) : Int)))
              clear hbw z0 z1 hcell hfr kk
              go_wp2_with fail
              go_roundw
              case rel => exact ⟨x + 1, by omega, by go_num, hb9, by rw [HN.out, HV.out]; exact HR2.out⟩
              case measure => simp [intOf]; omega
        · obtain rfl : x = m := by omega
          have HP : Hid ((allN (cenB x ln c) x) = isCen x ln c) := rfl
          have HR2 := Lib.hid (hrow.congr (fun j _ => rowF_next _ _ _ HP.out j))
          clear hrow
          go_wp2_with fail
          go_roundw
          case rel => exact ⟨c + 1, by omega, by go_num, hbw, HR2.out⟩
          case measure => simp [intOf]; omega
    · obtain rfl : c = m := by omega
      have HR := Lib.hid (hrow.congr (f' := isCen c ln) (fun j hj => rowF_done _ _ _ hj))
      have HE := Lib.hid (Below.now hbel.out hbw)
      clear hrow
      go_wp2_with fail
      refine (l09List_any c g _ _ _ HR.out (by omega)).mono ?_
      rintro e w9 ⟨a9, c9, rfl, ho, hb9⟩
      have F : Hid (RetSl 3 1 (centerOfF (c : Nat) l).length (intVals (centerOfF (c : Nat) l)) w (.returned (.slice a9 (listTo (isCen c ln) c).length c9)) w9) := by
        rw [HF.out]; exact ⟨_, _, rfl, owns_mono ho HE.out.size, Below.now HE.out hb9⟩
      clear ho hb9
      go_wp2_with fail
      go_ret
      exact F.out
end Go.Proofs.Ytkkffaiacipibaa
