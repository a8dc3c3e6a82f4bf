/-
  FillPattern, of the program and of the reference.
-/
import Derived.Test.YtldkghfnlkbmpaaFillP
import Derived.Shelf.Abstract
namespace Go.Proofs.Ytldkghfnlkbmpaa
open Go.RowKit
set_option linter.unusedVariables false
theorem indexByte_at (l : List UInt8) (c : UInt8) (h : c ∈ l) : ∃ k : Nat, Lib.indexByte l c = (k : Int) ∧ k < l.length ∧ l.getD k 0 = c ∧ ∀ z, z < k → l.getD z 0 ≠ c := by
  induction l with
  | nil => cases h
  | cons b l ih =>
    rw [show Lib.indexByte (b :: l) c = if b == c then 0 else if Lib.indexByte l c == -1 then -1 else Lib.indexByte l c + 1 from rfl]
    by_cases hb : b = c
    · exact ⟨0, by simp [hb], by simp, by simpa using hb, fun z hz => by omega⟩
    · have hm : c ∈ l := by
        rcases List.mem_cons.1 h with e | e
        · exact absurd e.symm hb
        · exact e
      obtain ⟨k, h1, h2, h3, h4⟩ := ih hm
      refine ⟨k + 1, ?_, by simpa using h2, by simpa using h3, fun z hz => ?_⟩
      · rw [if_neg (by simpa using hb), h1, if_neg (by simp)]; rfl
      · cases z with
        | zero => simpa using hb
        | succ z => simpa using h4 z (by omega)
theorem mem_push {a : ByteArray} {c d : UInt8} : d ∈ (a ++ ⟨#[c]⟩).data.toList ↔ d ∈ a.data.toList ∨ d = c := by simp
theorem contains_iff {a : ByteArray} {c : UInt8} : decide (0 ≤ Lib.indexByte a.data.toList c) = true ↔ c ∈ a.data.toList := by
  rw [indexByte_mem]; exact List.contains_iff_mem
theorem varsTo_var (s : ByteArray) : ∀ j, ∀ c ∈ (varsTo s j).data.toList, isVarB c = true
  | 0, c, h => by simp [varsTo] at h
  | j + 1, c, h => by
    simp only [varsTo, addVar] at h
    split at h
    · rename_i hc
      rcases mem_push.1 h with h | rfl
      · exact varsTo_var s j c h
      · simp only [Bool.and_eq_true] at hc; exact hc.1
    · exact varsTo_var s j c h
theorem varsTo_has {s : ByteArray} {i : Nat} (hi : i < s.size) (hv : isVarB s[i] = true) : ∀ j, i < j → s[i] ∈ (varsTo s j).data.toList
  | 0, h => by omega
  | j + 1, h => by
    simp only [varsTo, addVar]
    rcases Nat.lt_or_ge i j with hlt | hge
    · have := varsTo_has hi hv j hlt
      split
      · exact mem_push.2 (.inl this)
      · exact this
    · obtain rfl : i = j := by omega
      rw [byte_getD hi]
      split
      · exact mem_push.2 (.inr rfl)
      · rename_i hc
        rw [hv, Bool.true_and] at hc
        have : decide (0 ≤ Lib.indexByte (varsTo s i).data.toList s[i]) = true := by
          cases hd : decide (0 ≤ Lib.indexByte (varsTo s i).data.toList s[i])
          · rw [hd] at hc; exact absurd rfl hc
          · rfl
        exact contains_iff.1 this
theorem vars_has {s : ByteArray} {i : Nat} (hi : i < s.size) : decide (0 ≤ Lib.indexByte (varsOf s).data.toList s[i]) = isVarB s[i] := by
  cases hv : isVarB s[i]
  · cases hd : decide (0 ≤ Lib.indexByte (varsOf s).data.toList s[i])
    · rfl
    · have := varsTo_var s s.size _ (contains_iff.1 hd)
      rw [hv] at this; cases this
  · exact contains_iff.2 (varsTo_has hi hv s.size hi)
/-- the place of a variable -/
def vpos (s : ByteArray) (i : Nat) : Nat := (Lib.indexByte (varsOf s).data.toList (s.data.toList.getD i 0)).toNat
theorem vpos_at {s : ByteArray} {i : Nat} (hi : i < s.size) (hv : isVarB s[i] = true) : Lib.indexByte (varsOf s).data.toList s[i] = (vpos s i : Int) ∧ vpos s i < (varsOf s).size := by
  obtain ⟨k, h1, h2, _⟩ := indexByte_at _ _ (varsTo_has hi hv s.size hi)
  have : vpos s i = k := by unfold vpos; rw [byte_getD hi]; show (Lib.indexByte (varsTo s s.size).data.toList s[i]).toNat = k; rw [h1]; simp
  rw [this]
  refine ⟨h1, ?_⟩
  show k < (varsTo s s.size).size
  simpa using h2
theorem places_head {s : ByteArray} {c : UInt8} (h : c ∈ s.data.toList) : ∃ k : Nat, Lib.indexByte s.data.toList c = (k : Int) ∧ 0 < (placesL s ⟨#[c]⟩).length ∧ nthZ (placesL s ⟨#[c]⟩) 0 = (k : Int) := by
  obtain ⟨k, h1, h2, h3, h4⟩ := indexByte_at _ _ h
  have hk : k < s.size := by simpa using h2
  refine ⟨k, h1, ?_⟩
  have e : placesL s ⟨#[c]⟩ = ((k : Int) :: (((List.range s.size).drop (k + 1)).filter (plB s ⟨#[c]⟩)).map Int.ofNat) := by
    unfold placesL listTo
    rw [show s.size + 1 - (ByteArray.mk #[c]).size = s.size from by show s.size + 1 - 1 = _; omega]
    have hd : (List.range s.size).drop k = k :: (List.range s.size).drop (k + 1) := by rw [List.drop_eq_getElem_cons (by simpa using hk)]; simp
    have h5 : List.range s.size = (List.range s.size).take k ++ (k :: (List.range s.size).drop (k + 1)) := by rw [← hd, List.take_append_drop]
    have h6 : ((List.range s.size).take k).filter (plB s ⟨#[c]⟩) = [] := by
      rw [List.filter_eq_nil_iff]
      intro z hz
      rw [List.take_range] at hz
      have hz := List.mem_range.1 hz
      rw [plB_one (by omega)]
      simpa using h4 z (by omega)
    have h7 : plB s ⟨#[c]⟩ k = true := by rw [plB_one hk, h3]; simp
    rw [h5, List.filter_append, h6, List.nil_append, List.filter_cons, if_pos h7, ← h5]
    rfl
  rw [e]
  exact ⟨by simp, by simp [nthZ]⟩
/-- the text that the first j bytes of a pattern become -/
def fillTo (p : ByteArray) (vs : List ByteArray) : Nat → ByteArray
  | 0 => ⟨#[]⟩
  | j + 1 => fillTo p vs j ++ (if isVarB (p.data.toList.getD j 0) then nthS vs (vpos p j) else ⟨#[p.data.toList.getD j 0]⟩)
def fillOk (p : ByteArray) (vs : List ByteArray) : Bool := patternOkB p && (decide (vs.length = (varsOf p).size) && !vs.any badW)
/-- FillPattern as a function of plain data -/
def fillF (p : ByteArray) (vs : List ByteArray) : ByteArray := if fillOk p vs = true then fillTo p vs p.size else ⟨#[]⟩
theorem fillF_not {p : ByteArray} {vs : List ByteArray} (h : fillOk p vs = false) : fillF p vs = ⟨#[]⟩ := by simp [fillF, h]
theorem fillF_yes {p : ByteArray} {vs : List ByteArray} (h : fillOk p vs = true) : fillF p vs = fillTo p vs p.size := by simp [fillF, h]
theorem fillTo_var {p : ByteArray} {vs : List ByteArray} {j : Nat} (hj : j < p.size) (h : isVarB p[j] = true) : fillTo p vs (j + 1) = fillTo p vs j ++ nthS vs (vpos p j) := by
  simp only [fillTo, byte_getD hj, h, if_true]
theorem fillTo_let {p : ByteArray} {vs : List ByteArray} {j : Nat} (hj : j < p.size) (h : isVarB p[j] = false) : fillTo p vs (j + 1) = fillTo p vs j ++ ⟨#[p[j]]⟩ := by
  simp only [fillTo, byte_getD hj, h]; rfl
theorem badW_size {s : ByteArray} (h : badW s = false) : s.size ≤ 16 := by
  simp [badW, wordOkB] at h
  exact h.2.2.1
theorem good_at {vs : List ByteArray} (h : vs.any badW = false) {j : Nat} (hj : j < vs.length) : (nthS vs j).size ≤ 16 := by
  rw [List.any_eq_false] at h
  have := h vs[j] (List.getElem_mem hj)
  rw [nthS_lt hj]
  exact badW_size (by simpa using this)
theorem fillTo_size {p : ByteArray} {vs : List ByteArray} (hl : vs.length = (varsOf p).size) (h : vs.any badW = false) : ∀ j, j ≤ p.size → (fillTo p vs j).size ≤ 16 * j
  | 0, _ => Nat.zero_le _
  | j + 1, hj => by
    have h1 := fillTo_size hl h j (by omega)
    cases hv : isVarB p[j]
    · rw [fillTo_let (by omega) hv, ByteArray.size_append, show (ByteArray.mk #[p[j]]).size = 1 from rfl]; omega
    · have h2 := vpos_at (by omega) hv
      have := good_at h (j := vpos p j) (by omega)
      rw [fillTo_var (by omega) hv, ByteArray.size_append]; omega
theorem fillOk_not1 {p : ByteArray} {vs : List ByteArray} (h : patternOkB p = false) : fillOk p vs = false := by simp [fillOk, h]
theorem fillOk_not2 {p : ByteArray} {vs : List ByteArray} (h : ¬ vs.length = (varsOf p).size) : fillOk p vs = false := by simp [fillOk, h]
theorem fillOk_not3 {p : ByteArray} {vs : List ByteArray} (h : vs.any badW = true) : fillOk p vs = false := by simp only [fillOk, h]; simp
theorem fillOk_yes {p : ByteArray} {vs : List ByteArray} (h1 : patternOkB p = true) (h2 : vs.length = (varsOf p).size) (h : vs.any badW = false) : fillOk p vs = true := by simp only [fillOk, h1, h]; simp [h2]
theorem varsOf_size (p : ByteArray) : (varsOf p).size ≤ p.size := varsTo_size p p.size
theorem ret_sb {a b : ByteArray} {p q : Bool} (h : a = b) (h2 : p = q) : Ending.returned (.tuple #[.string a, .bool p]) = .returned (.tuple #[.string b, .bool q]) := by rw [h, h2]
/-- the first j values are good -/
theorem any_none {vs : List ByteArray} {j : Nat} (h : noneToS badW vs j) (hj : ¬ j < vs.length) : vs.any badW = false := by
  rw [List.any_eq_false]
  intro x hx
  obtain ⟨i, hi, rfl⟩ := List.getElem_of_mem hx
  have := h i (by omega)
  rw [nthS_lt hi] at this
  simp [this]
theorem any_some {vs : List ByteArray} {j : Nat} (hj : j < vs.length) (h : badW (nthS vs j) = true) : vs.any badW = true := by
  rw [List.any_eq_true]
  exact ⟨vs[j], List.getElem_mem hj, by rw [nthS_lt hj] at h; exact h⟩
set_option maxHeartbeats 2000000 in
theorem specFillPattern_any (p : ByteArray) (vs : List ByteArray) (a : Option Addr) (cap : Nat) (w : World) (hp : p.size ≤ maxLen) (hl : StrsIn w a vs) (hlen : vs.length ≤ 2 ^ 40) (hsz : strSum vs ≤ 2 ^ 40) :
    Calls Try.prog 30 #[.string p, .slice a vs.length cap] w fun e w' => e = .returned (.tuple #[.string (fillF p vs), .bool (fillOk p vs)]) ∧ Below w.heap.size w w' := by
  have HL := Lib.hid hl
  clear hl
  cases h1 : patternOkB p
  · have F := Lib.hid (fillOk_not1 (vs := vs) h1)
    have F2 := Lib.hid (fillF_not F.out)
    go_enter Try.func30, Try.ntmps30
    go_wp2_with (go_at_call 47; refine (specPatternOk_any _ _ hp).mono ?_; rintro e w' ⟨rfl, rfl⟩)
    go_ret2
    exact ⟨ret_sb F2.out.symm F.out.symm, Below.refl _ _⟩
  have h8 := patOk_size h1
  have hvs := varsOf_size p
  by_cases h2 : vs.length = (varsOf p).size
  rotate_left
  · have F := Lib.hid (fillOk_not2 (vs := vs) h2)
    have F2 := Lib.hid (fillF_not F.out)
    have hne : ((vs.length : Int) != ((varsOf p).size : Int)) = true := by rw [bne_iff_ne]; omega
    have HP := Lib.hid hp
    clear hp
    go_enter Try.func30, Try.ntmps30
    go_wp2_with (go_at_call 47; refine (specPatternOk_any _ _ HP.out).mono ?_; rintro e w' ⟨rfl, rfl⟩)
    refine (l28Variables_any _ _ (by omega)).mono ?_
    rintro e w2 ⟨rfl, hb2⟩
    go_wp2_with fail
    go_ret2
    exact ⟨ret_sb F2.out.symm F.out.symm, hb2⟩
  have H2 := Lib.hid h2
  have H1 := Lib.hid h1
  have HP := Lib.hid hp
  have hv8 : vs.length ≤ 8 := by omega
  have hne : ((vs.length : Int) != ((varsOf p).size : Int)) = false := by rw [bne_eq_false_iff_eq]; omega
  have hsm : ∀ j, j < vs.length → (nthS vs j).size ≤ maxLen := fun j hj => by
    have h3 := strSum_take vs (show j + 1 ≤ vs.length from hj)
    simp only [sumTo] at h3
    unfold maxLen
    omega
  have HM := Lib.hid hsm
  clear hp h2 hsm
  go_enter Try.func30, Try.ntmps30
  go_wp2_with (go_at_call 47; refine (specPatternOk_any _ _ HP.out).mono ?_; rintro e w' ⟨rfl, rfl⟩)
  refine (l28Variables_any _ _ (by omega)).mono ?_
  rintro e w2 ⟨rfl, hb2⟩
  have HB := Lib.hid hb2
  clear h1
  go_wp2_with fail
  go_loopw [23] (fun i wr => ∃ j : Nat, j ≤ vs.length ∧ i = .int .i64 j ∧ noneToS badW vs j ∧ Below w.heap.size w wr) (fun i _ => vs.length - (intOf i).toNat)
  case atStart => exact ⟨0, Nat.zero_le _, rfl, fun _ h => absurd h (Nat.not_lt_zero _), hb2⟩
  case round =>
    clear hb2
    obtain ⟨j, hj, rfl, hall, hbw⟩ := hrel
    have HA := Lib.hid hall
    clear hall
    by_cases hlt : j < vs.length
    · obtain ⟨b, off, rfl, hb, hc⟩ := (HL.out.later hbw).cell hlt
      have c1 := hc j hlt
      have hw := HM.out j hlt
      have HW := Lib.hid hw
      clear hc hw
      cases he : (nthS vs j).toList.isEmpty
      · cases hk : wordOkB 4 (nthS vs j)
        · have hbad : badW (nthS vs j) = true := by simp [badW, hk]
          have F := Lib.hid (fillOk_not3 (p := p) (any_some hlt hbad))
          have F2 := Lib.hid (fillF_not F.out)
          clear hbad
          go_wp2_with (go_at_call 57; refine (specWordOk_any _ _ _ HW.out).mono ?_; rintro e w' ⟨h9, rfl⟩; rw [hk] at h9; subst h9)
          go_ret2
          exact ⟨ret_sb F2.out.symm F.out.symm, hbw⟩
        · have hbad : badW (nthS vs j) = false := by simp [badW, hk, he]
          have F := Lib.hid (noneToS_succ HA.out hbad)
          clear hbad
          go_wp2_with (go_at_call 57; refine (specWordOk_any _ _ _ HW.out).mono ?_; rintro e w' ⟨h9, rfl⟩; rw [hk] at h9; subst h9)
          go_roundw
          case rel => exact ⟨j + 1, by omega, by go_num, F.out, hbw⟩
          case measure => simp [intOf]; omega
      · have hbad : badW (nthS vs j) = true := by simp [badW, he]
        have F := Lib.hid (fillOk_not3 (p := p) (any_some hlt hbad))
        have F2 := Lib.hid (fillF_not F.out)
        clear hbad
        go_wp2_with fail
        go_ret2
        exact ⟨ret_sb F2.out.symm F.out.symm, hbw⟩
    · have hgood := any_none HA.out hlt
      have HG := Lib.hid hgood
      have F := Lib.hid (fillOk_yes H1.out H2.out hgood)
      have F2 := Lib.hid (fillF_yes F.out)
      clear hgood
      go_wp2_with fail
      clear hj hlt
      go_loopw [9, 10] (fun s i wr' => ∃ q : Nat, q ≤ p.size ∧ i = .int .i64 q ∧ s = .string (fillTo p vs q) ∧ Below w.heap.size w wr') (fun _ i _ => p.size - (intOf i).toNat)
      case atStart => exact ⟨0, Nat.zero_le _, rfl, rfl, hbw⟩
      case round =>
        clear hbw
        obtain ⟨q, hq, rfl, rfl, hbw⟩ := hrel
        have hfs := fillTo_size H2.out HG.out q hq
        by_cases hlq : q < p.size
        · have hby := byte_lt p[q]
          have ho := one_eq p q hlq
          have hfs2 := fillTo_size H2.out HG.out (q + 1) hlq
          cases hv : isVarB p[q]
          · have F3 := Lib.hid (fillTo_let (vs := vs) hlq hv)
            rw [F3.out] at hfs2
            generalize fillTo p vs q = out at *
            go_wp2_with (go_at_call 58; refine (l28Variable_any _ _).mono ?_; rintro e w' ⟨h9, rfl⟩; rw [hv] at h9; subst h9)
            go_roundw
            case rel => exact ⟨q + 1, by omega, by go_num, by rw [F3.out], hbw⟩
            case measure => simp [intOf]; omega
          · have F3 := Lib.hid (fillTo_var (vs := vs) hlq hv)
            rw [F3.out, ByteArray.size_append] at hfs2
            obtain ⟨e1, e2⟩ := vpos_at hlq hv
            obtain ⟨k, e3, e4, e5⟩ := places_head (varsTo_has hlq hv p.size hlq)
            have e6 : (k : Int) = (vpos p q : Int) := by rw [← e3, ← e1]; rfl
            rw [e6] at e5
            have hP := fun w => Lib.hid (placesOf_any (varsOf p) ⟨#[p[q]]⟩ w (by omega) (by show 1 ≤ _; omega) (by show 0 < 1; omega))
            have E4 : 0 < (placesL (varsOf p) ⟨#[p[q]]⟩).length := e4
            have E5 : nthZ (placesL (varsOf p) ⟨#[p[q]]⟩) 0 = (vpos p q : Int) := e5
            have E2 : vpos p q < vs.length := by rw [H2.out]; exact e2
            clear e1 e2 e3 e4 e5 e6 k
            generalize vpos p q = k at *
            generalize placesL (varsOf p) ⟨#[p[q]]⟩ = pl at *
            generalize fillTo p vs q = out at *
            go_wp2_with (go_at_call 58; refine (l28Variable_any _ _).mono ?_; rintro e w' ⟨h9, rfl⟩; rw [hv] at h9; subst h9)
            refine (hP _).out.mono ?_
            rintro e w3 ⟨a3, c3, rfl, ho3, hb3⟩
            replace hbw := Below.now hbw hb3
            obtain ⟨g, off3, rfl, hg3, hc3⟩ := (owns_ints (l := pl) ho3).cell E4
            have c3' := hc3 0 E4
            rw [E5, Nat.add_zero] at c3'
            obtain ⟨b, off, rfl, hb, hc⟩ := (HL.out.later hbw).cell E2
            have c4 := hc k E2
            clear hc hc3 ho3 hb3 hP
            go_wp2_with fail
            go_roundw
            case rel => exact ⟨q + 1, by omega, by go_num, by rw [F3.out], hbw⟩
            case measure => simp [intOf]; omega
        · obtain rfl : q = p.size := by omega
          generalize fillTo p vs p.size = out at *
          have F4 : Hid (fillF p vs = out) := F2
          go_wp2_with fail
          go_ret2
          exact ⟨ret_sb F4.out.symm F.out.symm, hbw⟩
end Go.Proofs.Ytldkghfnlkbmpaa
