/-
  FillPattern of the program.
-/
import Derived.Test.YtnnboeeogbgmdaaFill
import Derived.Lib.Builder
namespace Go.Proofs.Ytnnboeeogbgmdaa
open Go.RowKit
set_option linter.unusedVariables false
theorem builder_fresh (w : World) (T e : TypeId) : Lib.IsBuilder T e w.heap.size w.heap.size [] (w.alloc (.cells #[.pointer none, .slice none 0 0] T)) :=
  .inl ⟨Nat.le_refl _, .slice none 0 0, alloc_at _ _, World.ownsRow_nil _ _ _ _, by simp [Value.ownBlock]⟩
theorem builder_later {T e : TypeId} {B b : Nat} {bs : List Value} {w w' : World} (h : Lib.IsBuilder T e B b bs w) (hb : Below w.heap.size w w') : Lib.IsBuilder T e B b bs w' := by
  have key : ∀ p, Lib.BuilderAt T e B b p bs w → Lib.BuilderAt T e B b p bs w' := fun p ⟨h1, v, h2, h3, h4⟩ => by
    refine ⟨h1, v, ?_, owns_later h3 hb, h4⟩
    rw [hb.block b (by
      rcases Nat.lt_or_ge b w.heap.size with h' | h'
      · exact h'
      · rw [Array.getElem?_eq_none h'] at h2; simp at h2)]
    exact h2
  exact h.elim (fun h => .inl (key _ h)) (fun h => .inr (key _ h))
theorem byte_back (c : UInt8) : ((c.toNat : Int)).toNat.toUInt8 = c := by simp
theorem builder_drewN {T e : TypeId} {B b n : Nat} {bs : List Value} {w : World} (h : Lib.IsBuilder T e B b bs w) : Lib.IsBuilder T e B b bs (w.drewN n) := h
set_option maxHeartbeats 2000000 in
set_option maxRecDepth 50000 in
theorem implFillPattern_any (p : ByteArray) (vs : List ByteArray) (a : Option Addr) (cap : Nat) (w : World) (hp : p.size ≤ maxLen) (hl : StrsIn w a vs) (hlen : vs.length ≤ 2 ^ 40) (hsz : strSum vs ≤ 2 ^ 40) :
    Calls Try.prog 14 #[.string p, .slice a vs.length cap] w fun e w' => e = .returned (.tuple #[.string (fillF p vs), .bool (fillOk p vs)]) ∧ Below w.heap.size w w' := by
  have HL := Lib.hid hl
  clear hl
  cases h1 : patternOkB p
  · have F := Lib.hid (fillOk_not1 (vs := vs) h1)
    have F2 := Lib.hid (fillF_not F.out)
    go_enter Try.func14, Try.ntmps14
    go_wp2_with (go_at_call 15; refine (implPatternOk_any _ _ hp).mono ?_; rintro e w' ⟨rfl, rfl⟩)
    go_ret2
    exact ⟨ret_sb F2.out.symm F.out.symm, Below.refl _ _⟩
  have h8 := patOk_size h1
  have hvs := varsOf_size p
  by_cases h2 : vs.length = (varsOf p).size
  rotate_left
  · have F := Lib.hid (fillOk_not2 (vs := vs) h2)
    have F2 := Lib.hid (fillF_not F.out)
    have hne : ((vs.length : Int) != ((varsOf p).size : Int)) = true := by rw [bne_iff_ne]; omega
    have HP := Lib.hid hp
    clear hp
    go_enter Try.func14, Try.ntmps14
    go_wp2_with (first | (go_at_call 15; refine (implPatternOk_any _ _ HP.out).mono ?_; rintro e w' ⟨rfl, rfl⟩) | (go_at_call 34; refine (variables_any _ _ (by omega)).mono ?_; rintro e w' ⟨rfl, rfl⟩))
    go_ret2
    exact ⟨ret_sb F2.out.symm F.out.symm, Below.refl _ _⟩
  have H2 := Lib.hid h2
  have H1 := Lib.hid h1
  have HP := Lib.hid hp
  have hv8 : vs.length ≤ 8 := by omega
  have hne : ((vs.length : Int) != ((varsOf p).size : Int)) = false := by rw [bne_eq_false_iff_eq]; omega
  have hsm : ∀ j, j < vs.length → (nthS vs j).size ≤ maxLen := fun j hj => by
    have h3 := strSum_take vs (show j + 1 ≤ vs.length from hj)
    simp only [sumTo] at h3
    unfold maxLen
    omega
  have HM := Lib.hid hsm
  have HC : Hid (∀ W, StrsIn W a vs → Calls Try.prog 36 #[.slice a vs.length cap, .func (.func 37) #[] #[]] W fun e W' => e = .returned (.bool (vs.any badW)) ∧ Below W.heap.size W W') :=
    Lib.hid fun W hW => containsFuncStrs_any 37 #[] badW vs a cap W hW (by omega) W.heap.size (Nat.le_refl _) (fun j hj W2 _ => badW_any _ _ (HM.out j hj)) (enters_of Try.func37 (by kernel_rfl) rfl)
  clear hp h2 hsm
  cases h3 : vs.any badW
  rotate_left
  · have F := Lib.hid (fillOk_not3 (p := p) h3)
    have F2 := Lib.hid (fillF_not F.out)
    go_enter Try.func14, Try.ntmps14
    go_wp2_with (first | (go_at_call 15; refine (implPatternOk_any _ _ HP.out).mono ?_; rintro e w' ⟨rfl, rfl⟩) | (go_at_call 34; refine (variables_any _ _ (by omega)).mono ?_; rintro e w' ⟨rfl, rfl⟩))
    refine (HC.out _ HL.out).mono ?_
    rintro e w2 ⟨h9, hb2⟩
    rw [h3] at h9
    subst h9
    go_wp2_with fail
    go_ret2
    exact ⟨ret_sb F2.out.symm F.out.symm, hb2⟩
  have HG := Lib.hid h3
  have F := Lib.hid (fillOk_yes H1.out H2.out h3)
  have F2 := Lib.hid (fillF_yes F.out)
  go_enter Try.func14, Try.ntmps14
  go_wp2_with (first | (go_at_call 15; refine (implPatternOk_any _ _ HP.out).mono ?_; rintro e w' ⟨rfl, rfl⟩) | (go_at_call 34; refine (variables_any _ _ (by omega)).mono ?_; rintro e w' ⟨rfl, rfl⟩))
  refine (HC.out _ HL.out).mono ?_
  rintro e w2 ⟨h9, hb2⟩
  rw [h3] at h9
  subst h9
  clear h1 h3
  have hfr := builder_fresh w2 57 5
  have hb3 : Below w.heap.size w (w2.alloc (.cells #[.pointer none, .slice none 0 0] 57)) := hb2.alloc hb2.size _
  have hbs := hb2.size
  have hsz3 : w2.heap.size ≤ (w2.alloc (.cells #[.pointer none, .slice none 0 0] 57)).heap.size := by simp
  obtain ⟨B, hB⟩ : ∃ B, B = w2.heap.size := ⟨_, rfl⟩
  rw [← hB] at hfr hbs hsz3
  have HFR := Lib.hid hfr
  have HBS := Lib.hid hbs
  clear hb2 hfr hbs
  go_wp2_with fail
  rw [← hB]
  generalize w2.alloc (.cells #[.pointer none, .slice none 0 0] 57) = w3 at *
  clear hB
  go_loopw [24] (fun i wr => ∃ j : Nat, j ≤ p.size ∧ i = .int .i64 j ∧ Lib.IsBuilder 57 5 B B (Lib.byteCells (fillTo p vs j).data.toList) wr ∧ Below w.heap.size w wr ∧ B ≤ wr.heap.size) (fun i _ => p.size - (intOf i).toNat)
  case atStart => exact ⟨0, Nat.zero_le _, rfl, HFR.out, hb3, hsz3⟩
  case round =>
    clear HFR hb3 hsz3
    obtain ⟨j, hj, rfl, hbt, hbw, hsB⟩ := hrel
    have HBT := Lib.hid hbt
    clear hbt
    have hfs := fillTo_size H2.out HG.out j hj
    have hbc := Lib.byteCells_length (fillTo p vs j).data.toList
    simp only [Array.length_toList, ByteArray.size_data] at hbc
    by_cases hlt : j < p.size
    · have hby := byte_lt p[j]
      have hfs2 := fillTo_size H2.out HG.out (j + 1) hlt
      have hvh := vars_has hlt
      cases hv : isVarB p[j]
      · rw [hv] at hvh
        have hneg : Lib.indexByte (varsOf p).data.toList p[j] < 0 := by simpa using hvh
        have F3 := Lib.hid (fillTo_let (vs := vs) hlt hv)
        have HI := fun w => Try.strings_IndexByte (varsOf p) (p[j].toNat : Int) w
        simp only [byte_back] at HI
        replace HI := fun w => Lib.hid (HI w)
        have HL1 : Hid ((Lib.byteCells (fillTo p vs j).data.toList).length + 1 ≤ 140737488355328) := Lib.hid (by omega)
        have HCA : Hid (Lib.byteCells (fillTo p vs j).data.toList ++ [Value.int .u8 (p[j].toNat : Int)] = Lib.byteCells (fillTo p vs (j + 1)).data.toList) := Lib.hid (by rw [F3.out]; simp [Lib.byteCells])
        generalize Lib.indexByte (varsOf p).data.toList p[j] = ix at *
        clear hbc hfs hfs2 hvh
        go_wp2_with fail
        refine region_wide (by kernel_rfl) (by kernel_rfl) ?_
        repeat (quiet_step (first
          | (go_at_call 34; refine (variables_any _ _ (by omega)).mono ?_; rintro e w' ⟨rfl, rfl⟩; exact ⟨rfl, _, rfl⟩)
          | (go_at_call 39; refine (HI _).out.mono ?_; rintro e w' ⟨rfl, rfl⟩; exact ⟨rfl, _, rfl⟩)))
        refine wpQuiet_nil ?_
        rintro w4 ⟨x4, rfl⟩
        have hb4 := below_wide wr x4
        replace hbw := Below.now hbw hb4
        replace hsB : B ≤ (wide wr x4).heap.size := Nat.le_trans hsB hb4.size
        replace HBT := Lib.hid (builder_later HBT.out hb4)
        clear hb4 HI
        generalize wide wr x4 = w4 at *
        go_wp2_with fail
        refine (Try.Builder_WriteByte B B _ _ _ HBT.out HL1.out hsB).mono ?_
        rintro e w5 ⟨rfl, hbt5, hb5⟩
        rw [HCA.out] at hbt5
        replace hsB := Nat.le_trans hsB hb5.size
        replace hbw : Below w.heap.size w w5 := hbw.trans (hb5.mono HBS.out)
        have HB5 := Lib.hid hbt5
        clear hbt5 hb5
        go_wp2_with fail
        go_roundw
        case rel => exact ⟨j + 1, by omega, by go_num, .inr HB5.out, hbw, hsB⟩
        case measure => simp [intOf]; omega
      · rw [hv] at hvh
        have F3 := Lib.hid (fillTo_var (vs := vs) hlt hv)
        obtain ⟨e1, e2⟩ := vpos_at hlt hv
        have HI := fun w => Try.strings_IndexByte (varsOf p) (p[j].toNat : Int) w
        simp only [byte_back, e1] at HI
        replace HI := fun w => Lib.hid (HI w)
        have E2 : vpos p j < vs.length := by rw [H2.out]; exact e2
        rw [F3.out, ByteArray.size_append] at hfs2
        have HL1 : Hid ((Lib.byteCells (fillTo p vs j).data.toList).length + (nthS vs (vpos p j)).size ≤ 140737488355328) := Lib.hid (by omega)
        have HCA : Hid (Lib.byteCells (fillTo p vs j).data.toList ++ Lib.strCells (nthS vs (vpos p j)) = Lib.byteCells (fillTo p vs (j + 1)).data.toList) := Lib.hid (by rw [F3.out, cells_append])
        clear e1 e2 hbc hfs hfs2 hvh
        generalize vpos p j = k at *
        go_wp2_with fail
        refine region_wide (by kernel_rfl) (by kernel_rfl) ?_
        repeat (quiet_step (first
          | (go_at_call 34; refine (variables_any _ _ (by omega)).mono ?_; rintro e w' ⟨rfl, rfl⟩; exact ⟨rfl, _, rfl⟩)
          | (go_at_call 39; refine (HI _).out.mono ?_; rintro e w' ⟨rfl, rfl⟩; exact ⟨rfl, _, rfl⟩)))
        refine wpQuiet_nil ?_
        rintro w4 ⟨x4, rfl⟩
        have hb4 := below_wide wr x4
        replace hbw := Below.now hbw hb4
        replace hsB : B ≤ (wide wr x4).heap.size := Nat.le_trans hsB hb4.size
        replace HBT := Lib.hid (builder_later HBT.out hb4)
        clear hb4 HI
        generalize wide wr x4 = w4 at *
        obtain ⟨b, off, rfl, hb, hc⟩ := (HL.out.later hbw).cell E2
        have c4 := hc k E2
        clear hc
        go_wp2_with fail
        refine (Try.Builder_WriteString B B _ _ _ HBT.out HL1.out hsB).mono ?_
        rintro e w5 ⟨rfl, hbt5, hb5⟩
        rw [HCA.out] at hbt5
        replace hsB := Nat.le_trans hsB hb5.size
        replace hbw : Below w.heap.size w w5 := hbw.trans (hb5.mono HBS.out)
        have HB5 := Lib.hid hbt5
        clear hbt5 hb5 c4
        go_wp2_with fail
        go_roundw
        case rel => exact ⟨j + 1, by omega, by go_num, .inr HB5.out, hbw, hsB⟩
        case measure => simp [intOf]; omega
    · obtain rfl : j = p.size := by omega
      have F4 : Hid (fillF p vs = ⟨(fillTo p vs p.size).data.toList.toArray⟩) := Lib.hid (by rw [F2.out])
      have hlen4 : (Lib.byteCells (fillTo p vs p.size).data.toList).length ≤ 128 := by omega
      clear hbc hfs
      generalize (fillTo p vs p.size).data.toList = bs at *
      go_wp2_with fail
      refine (Try.Builder_Len B B _ _ HBT.out).mono ?_
      rintro e w5 ⟨rfl, rfl⟩
      go_wp2_with fail
      refine (Try.Builder_String_any B B _ _ HBT.out hsB).mono ?_
      rintro e w6 ⟨rfl, hb6⟩
      replace hbw := hbw.trans (hb6.mono HBS.out)
      clear hb6 HBT
      go_wp2_with fail
      go_ret2
      exact ⟨ret_sb F4.out.symm F.out.symm, hbw⟩
end Go.Proofs.Ytnnboeeogbgmdaa
