/-
  The first repetition of a word; words without squares, cubes, overlaps.
-/
import Derived.Test.YtnnboeeogbgmdaaSqW
import Derived.Test.YtnnboeeogbgmdaaLongOk
import Derived.Deep.DeepCutAuto
namespace Go.Proofs.Ytnnboeeogbgmdaa
open Go.RowKit
set_option linter.unusedVariables false
theorem repAt_eq {len : Nat → Nat} {s : ByteArray} {e h : Nat} (hL : len h ≤ e) (he : e ≤ s.size) (hh : h ≤ len h) :
    (((s.extract (e - len h) e).extract h (s.extract (e - len h) e).size).toList == ((s.extract (e - len h) e).extract 0 ((s.extract (e - len h) e).size - h)).toList) = repAt len (bl s) e h := by
  have hsz : (s.extract (e - len h) e).size = len h := by rw [ByteArray.size_extract]; omega
  rw [ByteArray.toList_eq, ByteArray.toList_eq, hsz]
  show (bl ((s.extract (e - len h) e).extract h (len h)) == bl ((s.extract (e - len h) e).extract 0 (len h - h))) = _
  have hP : bl (s.extract (e - len h) e) = ((bl s).drop (e - len h)).take (len h) := by rw [bl_cut, show e - (e - len h) = len h by omega]
  rw [bl_cut (s.extract (e - len h) e) h (len h), bl_cut (s.extract (e - len h) e) 0 (len h - h), hP, List.drop_zero, Nat.sub_zero]
  have hQ : ((bl s).take e).drop (e - len h) = ((bl s).drop (e - len h)).take (len h) := by rw [List.drop_take, show e - (e - len h) = len h by omega]
  unfold repAt
  rw [hQ]
  congr 1
  exact List.take_of_length_le (by rw [List.length_drop, List.length_take]; omega)
theorem repEnd_none {len : Nat → Nat} {l : List UInt8} {e : Nat} (h : ∀ h', 1 ≤ h' → h' ≤ e → len h' ≤ e → repAt len l e h' = false) : repEnd len l e = none := by
  unfold repEnd
  refine findSome_none (fun x hx => ?_)
  by_cases hl : len (x + 1) ≤ e
  · rw [h (x + 1) (by omega) (by omega) hl]; simp
  · simp [hl]
theorem repEnd_some {len : Nat → Nat} {l : List UInt8} {e h : Nat} (h1 : 1 ≤ h) (h2 : h ≤ e) (hl : len h ≤ e) (hr : repAt len l e h = true) (hn : ∀ h', 1 ≤ h' → h' < h → len h' ≤ e → repAt len l e h' = false) : repEnd len l e = some h := by
  unfold repEnd
  obtain ⟨j, rfl⟩ : ∃ j, h = j + 1 := ⟨h - 1, by omega⟩
  refine findSome_some (x := j) (by omega) (fun y hy => ?_) (by rw [if_pos ⟨hl, hr⟩])
  by_cases hl2 : len (y + 1) ≤ e
  · rw [hn (y + 1) (by omega) (by omega) hl2]; simp
  · simp [hl2]
theorem repFst_none {len : Nat → Nat} {l : List UInt8} (h : ∀ e, 1 ≤ e → e ≤ l.length → repEnd len l e = none) : repFst len l = none := by
  unfold repFst
  refine findSome_none (fun x hx => ?_)
  rw [h (x + 1) (by omega) (by omega)]; rfl
theorem repFst_some {len : Nat → Nat} {l : List UInt8} {e h : Nat} (h1 : 1 ≤ e) (h2 : e ≤ l.length) (hr : repEnd len l e = some h) (hn : ∀ e', 1 ≤ e' → e' < e → repEnd len l e' = none) : repFst len l = some (e, h) := by
  unfold repFst
  obtain ⟨j, rfl⟩ : ∃ j, e = j + 1 := ⟨e - 1, by omega⟩
  refine findSome_some (x := j) (by omega) (fun y hy => ?_) (by rw [hr]; rfl)
  rw [hn (y + 1) (by omega) (by omega)]; rfl
def repE (r : Option (Nat × Nat)) : Nat := match r with | some x => x.1 | none => 0
def repH (r : Option (Nat × Nat)) : Nat := match r with | some x => x.2 | none => 0
/-- what the search for a repetition answers -/
def RetRep (r : Option (Nat × Nat)) (w : World) (e : Ending) (w' : World) : Prop := e = .returned (.tuple #[.int .i64 ((repE r : Nat) : Int), .int .i64 ((repH r : Nat) : Int)]) ∧ Below w.heap.size w w'
theorem RetRep.yes {r : Option (Nat × Nat)} {i k : Nat} {w w' : World} (h : r = some (i, k)) (hb : Below w.heap.size w w') : RetRep r w (.returned (.tuple #[.int .i64 (i : Nat), .int .i64 (k : Nat)])) w' := by
  subst h; exact ⟨rfl, hb⟩
theorem RetRep.no {r : Option (Nat × Nat)} {w w' : World} (h : r = none) (hb : Below w.heap.size w w') : RetRep r w (.returned (.tuple #[.int .i64 0, .int .i64 0])) w' := by
  subst h; exact ⟨rfl, hb⟩
/-- a function value that answers len -/
def LenFn (B g : Nat) (caps : Array Value) (len : Nat → Nat) (m : Nat) (w : World) : Prop := ∀ h, 1 ≤ h → h ≤ m → ∀ W, Below B w W → Calls Try.prog g (#[.int .i64 ((h : Nat) : Int)] ++ caps) W fun e w' => e = .returned (.int .i64 ((len h : Nat) : Int)) ∧ w' = W
set_option maxRecDepth 20000 in
set_option maxHeartbeats 2000000 in
theorem firstRepeat_any (len : Nat → Nat) (s : ByteArray) (g : Nat) (caps : Array Value) (w : World) (hs : s.size ≤ 1000) (h1 : ∀ h, h ≤ len h) (hm : ∀ h h', h ≤ h' → len h ≤ len h') (hf : LenFn w.heap.size g caps len (s.size + 1) w) (eg : ∀ args w, (callFunc g args).run Try.prog w = .ok (.enter g args) w) :
    Calls Try.prog 53 #[.string s, .func (.func g) #[] caps] w (RetRep (repFst len (bl s)) w) := by
  have HF := Lib.hid hf
  have HM := Lib.hid hm
  have H1 := Lib.hid h1
  have HLn := Lib.hid (bl_len s)
  clear hf hm h1
  go_enter Try.func53, Try.ntmps53
  go_wp2_with fail
  go_loopw [6] (fun v wr => ∃ e : Nat, 1 ≤ e ∧ e ≤ s.size + 1 ∧ v = .int .i64 ((e : Nat) : Int) ∧ Hid (∀ e', 1 ≤ e' → e' < e → repEnd len (bl s) e' = none) ∧ Below w.heap.size w wr) (fun v _ => s.size + 1 - (intOf v).toNat)
  case atStart => exact ⟨1, Nat.le_refl _, by omega, rfl, Lib.hid (fun e' h1 h2 => by omega), Below.refl _ _⟩
  case round =>
    obtain ⟨e, he1, he2, rfl, hno, hbw⟩ := hrel
    by_cases hlt : e ≤ s.size
    · have q0 : (e : Int) ≤ (s.size : Int) := by omega
      go_wp2_with fail
      go_loopw [7] (fun v wr => ∃ h : Nat, 1 ≤ h ∧ h ≤ e + 1 ∧ v = .int .i64 ((h : Nat) : Int) ∧ Hid (∀ h', 1 ≤ h' → h' < h → len h' ≤ e → repAt len (bl s) e h' = false) ∧ Below w.heap.size w wr) (fun v _ => e + 1 - (intOf v).toNat)
      case atStart => exact ⟨1, Nat.le_refl _, by omega, rfl, Lib.hid (fun h' h1 h2 => by omega), hbw⟩
      case round =>
        clear hbw
        obtain ⟨h, hh1, hh2, rfl, hin, hbw⟩ := hrel
        have HC := Lib.hid (HF.out h hh1 (by omega))
        have hhL := H1.out h
        by_cases hL : len h ≤ e
        · have hhe : h ≤ e := Nat.le_trans hhL hL
          have E := Lib.hid (repAt_eq (len := len) (s := s) hL hlt hhL)
          have hpsz : (s.extract (e - len h) e).size = len h := by rw [ByteArray.size_extract]; omega
          have HPS := Lib.hid hpsz
          have HNX : Hid (repAt len (bl s) e h = false → ∀ h', 1 ≤ h' → h' < h + 1 → len h' ≤ e → repAt len (bl s) e h' = false) := Lib.hid (fun hr h' a b c => by
            by_cases eq : h' = h
            · rw [eq]; exact hr
            · exact hin.out h' a (by omega) c)
          have HYS : Hid (repAt len (bl s) e h = true → repFst len (bl s) = some (e, h)) := Lib.hid (fun hr => repFst_some he1 (by rw [HLn.out]; exact hlt) (repEnd_some hh1 hhe hL hr hin.out) hno.out)
          clear hpsz
          generalize len h = L at *
          have q1 : (L : Int) ≤ (e : Int) := by omega
          have hsub : (e : Int) - (L : Int) = ((e - L : Nat) : Int) := by omega
          have q2 : (0 : Int) ≤ ((e - L : Nat) : Int) := by omega
          have q3 : ((e - L : Nat) : Int) ≤ (e : Int) := by omega
          go_wp2_with fail
          refine (HC.out _ hbw).mono ?_
          rintro e2 w2 ⟨rfl, hw2⟩
          subst hw2
          go_wp2_with fail
          refine (HC.out _ hbw).mono ?_
          rintro e2 w2 ⟨rfl, hw2⟩
          subst hw2
          go_upto_region 8 with fail
          clear hsub q2 q3
          have HPS2 := HPS.out
          generalize s.extract (e - L) e = pt at *
          have hps : pt.size = L := HPS2
          clear HPS2
          subst hps
          have w1 : IntKind.i64.wrap ((pt.size : Int) - (h : Int)) = ((pt.size - h : Nat) : Int) := by rw [IntWalk.i64_in _ (by omega)]; omega
          have p1 : ((pt.size - h : Nat) : Int) ≤ (pt.size : Int) := by omega
          have p2 : (0 : Int) ≤ ((pt.size - h : Nat) : Int) := by omega
          have p3 : (0 : Int) ≤ (h : Int) := by omega
          have p4 : (h : Int) ≤ (pt.size : Int) := by omega
          cases hb : ((pt.extract h pt.size).toList == (pt.extract 0 (pt.size - h)).toList)
          · have F := Lib.hid (HNX.out (by rw [← E.out, hb]))
            go_quiet (fail)
            have hb2 := below_drewN hbw nq
            clear w1 hb hbw p1 p2 p3 p4
            go_wp2_with fail
            go_roundw
            case rel => exact ⟨h + 1, by omega, by omega, by go_num, F.out |> Lib.hid, hb2⟩
            case measure => simp [intOf]; omega
          · have F := Lib.hid (HYS.out (by rw [← E.out, hb]))
            go_quiet (fail)
            have hb2 := below_drewN hbw nq
            clear w1 hb hbw p1 p2 p3 p4
            go_wp2_with fail
            exact bodyPost_ret (v := .tuple #[.int .i64 (e : Nat), .int .i64 (h : Nat)]) (by simp [results, Try.results53, go_sem]) rfl (RetRep.yes F.out hb2)
        · have F : Hid (∀ e', 1 ≤ e' → e' < e + 1 → repEnd len (bl s) e' = none) := Lib.hid (fun e' a b => by
            by_cases eq : e' = e
            · rw [eq]
              exact repEnd_none (fun h' a b c => hin.out h' a (by
                rcases Nat.lt_or_ge h' h with h3 | h3
                · exact h3
                · have := HM.out h h' h3; omega) c)
            · exact hno.out e' a (by omega))
          have q1 : ¬ (len h : Int) ≤ (e : Int) := by omega
          generalize len h = L at *
          go_wp2_with fail
          refine (HC.out _ hbw).mono ?_
          rintro e2 w2 ⟨rfl, hw2⟩
          subst hw2
          go_wp2_with fail
          go_roundw
          case rel => exact ⟨e + 1, by omega, by omega, by go_num, F.out |> Lib.hid, hbw⟩
          case measure => simp [intOf]; omega
    · have F := Lib.hid (repFst_none (len := len) (l := bl s) (fun e' a b => hno.out e' a (by rw [HLn.out] at b; omega)))
      have q0 : ¬ (e : Int) ≤ (s.size : Int) := by omega
      go_wp2_with fail
      exact bodyPost_ret (v := .tuple #[.int .i64 0, .int .i64 0]) (by simp [results, Try.results53, go_sem]) rfl (RetRep.no F.out hbw)
/-- the lengths of powers, and of overlaps -/
def powLen (n h : Nat) : Nat := n * h
def ovLen (h : Nat) : Nat := 2 * h + 1
set_option maxHeartbeats 400000 in
theorem powFn_any (n b h : Nat) (w : World) (hc : w.cell? ⟨b, 0, none⟩ = some (.int .i64 (n : Nat))) (hn : n ≤ 8) (hh : h ≤ 100000) :
    Calls Try.prog 54 #[.int .i64 ((h : Nat) : Int), .pointer (some ⟨b, 0, none⟩)] w fun e w' => e = .returned (.int .i64 ((powLen n h : Nat) : Int)) ∧ w' = w := by
  obtain ⟨q, hq⟩ : ∃ q, q = n * h := ⟨_, rfl⟩
  have hm : (n : Int) * (h : Int) = (q : Int) := by rw [hq]; simp
  have hb : q ≤ 800000 := by rw [hq]; exact Nat.le_trans (Nat.mul_le_mul hn hh) (by decide)
  have HQ : Hid (powLen n h = q) := Lib.hid hq.symm
  clear hq
  go_enter Try.func54, Try.ntmps54
  go_wp2_with fail
  go_ret
  exact ⟨ret_int (by rw [HQ.out]), rfl⟩
set_option maxHeartbeats 400000 in
theorem ovFn_any (h : Nat) (w : World) (hh : h ≤ 100000) :
    Calls Try.prog 78 #[.int .i64 ((h : Nat) : Int)] w fun e w' => e = .returned (.int .i64 ((ovLen h : Nat) : Int)) ∧ w' = w := by
  have HQ : Hid (((ovLen h : Nat) : Int) = 2 * (h : Int) + 1) := Lib.hid (by unfold ovLen; omega)
  go_enter Try.func78, Try.ntmps78
  go_wp2_with fail
  go_ret
  exact ⟨ret_int (by rw [HQ.out]), rfl⟩
theorem powLen_ge {n : Nat} (hn : 1 ≤ n) (h : Nat) : h ≤ powLen n h := by unfold powLen; exact Nat.le_mul_of_pos_left h (by omega)
theorem powLen_mono (n : Nat) (h h' : Nat) (hh : h ≤ h') : powLen n h ≤ powLen n h' := Nat.mul_le_mul_left n hh
/-- the first power, the first overlap of a word -/
def powR (n : Nat) (s : ByteArray) : Option (Nat × Nat) := if longOkB 4 s = true then repFst (powLen n) (bl s) else none
def ovR (s : ByteArray) : Option (Nat × Nat) := if longOkB 4 s = true then repFst ovLen (bl s) else none
theorem longOk_size {s : ByteArray} (h : longOkB 4 s = true) : s.size ≤ 400 := by
  simp [longOkB] at h; exact h.2.1
theorem retII {a b c d : Int} (h : a = b) (h2 : c = d) : Ending.returned (.tuple #[.int .i64 a, .int .i64 c]) = .returned (.tuple #[.int .i64 b, .int .i64 d]) := by rw [h, h2]
set_option maxRecDepth 20000 in
set_option maxHeartbeats 1000000 in
theorem firstPower_any (n : Nat) (s : ByteArray) (w : World) (hs : s.size ≤ maxLen) (hn1 : 2 ≤ n) (hn : n ≤ 8) :
    Calls Try.prog 25 #[.string s, .int .i64 (n : Nat)] w (RetRep (powR n s) w) := by
  have hb1 : Below w.heap.size w (w.alloc (.cells #[.int .i64 (n : Nat)] 3)) := (Below.refl _ _).alloc (Nat.le_refl _) _
  have HB1 := Lib.hid hb1
  cases hok : longOkB 4 s
  · have F : Hid (RetRep (powR n s) w (.returned (.tuple #[.int .i64 0, .int .i64 0])) (w.alloc (.cells #[.int .i64 (n : Nat)] 3))) := Lib.hid (RetRep.no (by unfold powR; rw [hok]; rfl) HB1.out)
    clear hb1
    go_enter Try.func25, Try.ntmps25
    go_wp2_with (go_at_call 30; refine (implLongOk_any _ _ _ hs).mono ?_; rintro e w' ⟨h9, rfl⟩; rw [hok] at h9; subst h9)
    exact bodyPost_ret (v := .tuple #[.int .i64 0, .int .i64 0]) (by simp [results, Try.results25, go_sem]) rfl F.out
  · have hsz := longOk_size hok
    have HOK := Lib.hid hok
    have P1 : Hid (inB (n : Int) 2 8 = true) := Lib.hid (by simp [inB]; omega)
    have HR : Hid (Calls Try.prog 53 #[.string s, .func (.func 54) #[] #[.pointer (some ⟨w.heap.size, 0, none⟩)]] (w.alloc (.cells #[.int .i64 (n : Nat)] 3)) (RetRep (repFst (powLen n) (bl s)) (w.alloc (.cells #[.int .i64 (n : Nat)] 3)))) := Lib.hid (firstRepeat_any (powLen n) s 54 #[.pointer (some ⟨w.heap.size, 0, none⟩)] _ (by omega) (powLen_ge (by omega)) (powLen_mono n) (fun h h1 h2 W hW => powFn_any n w.heap.size h W (by
      rw [hW.cell (by simp)]; simp) hn (by omega)) (enters_of Try.func54 (by kernel_rfl) rfl))
    have HV : Hid (powR n s = repFst (powLen n) (bl s)) := Lib.hid (by unfold powR; rw [hok]; rfl)
    clear hb1 hok
    go_enter Try.func25, Try.ntmps25
    go_wp2_with (first
      | (go_at_call 30; refine (implLongOk_any _ _ _ hs).mono ?_; rintro e w' ⟨h9, rfl⟩; rw [HOK.out] at h9; subst h9)
      | (go_at_call 28; refine (within_any _ _ _ _).mono ?_; rintro e w' ⟨h9, rfl⟩; rw [P1.out] at h9; subst h9))
    refine HR.out.mono ?_
    rintro e w2 ⟨rfl, hb2⟩
    have F : Hid (RetRep (powR n s) w (.returned (.tuple #[.int .i64 ((repE (repFst (powLen n) (bl s)) : Nat) : Int), .int .i64 ((repH (repFst (powLen n) (bl s)) : Nat) : Int)])) w2) := Lib.hid (by rw [HV.out]; exact ⟨rfl, Below.now HB1.out hb2⟩)
    clear hb2 HR
    generalize repE (repFst (powLen n) (bl s)) = qe at *
    generalize repH (repFst (powLen n) (bl s)) = qh at *
    go_wp2_with fail
    exact bodyPost_ret (v := .tuple #[.int .i64 (qe : Nat), .int .i64 (qh : Nat)]) (by simp [results, Try.results25, go_sem]) rfl F.out
set_option maxRecDepth 20000 in
set_option maxHeartbeats 1000000 in
theorem firstOverlap_any (s : ByteArray) (w : World) (hs : s.size ≤ maxLen) :
    Calls Try.prog 52 #[.string s] w (RetRep (ovR s) w) := by
  cases hok : longOkB 4 s
  · have F : Hid (RetRep (ovR s) w (.returned (.tuple #[.int .i64 0, .int .i64 0])) w) := Lib.hid (RetRep.no (by unfold ovR; rw [hok]; rfl) (Below.refl _ _))
    go_enter Try.func52, Try.ntmps52
    go_wp2_with (go_at_call 30; refine (implLongOk_any _ _ _ hs).mono ?_; rintro e w' ⟨h9, rfl⟩; rw [hok] at h9; subst h9)
    exact bodyPost_ret (v := .tuple #[.int .i64 0, .int .i64 0]) (by simp [results, Try.results52, go_sem]) rfl F.out
  · have hsz := longOk_size hok
    have HOK := Lib.hid hok
    have HR : Hid (Calls Try.prog 53 #[.string s, .func (.func 78) #[] #[]] w (RetRep (repFst ovLen (bl s)) w)) := Lib.hid (firstRepeat_any ovLen s 78 #[] _ (by omega) (fun h => by unfold ovLen; omega) (fun h h' hh => by unfold ovLen; omega) (fun h h1 h2 W hW => ovFn_any h W (by omega)) (enters_of Try.func78 (by kernel_rfl) rfl))
    have HV : Hid (ovR s = repFst ovLen (bl s)) := Lib.hid (by unfold ovR; rw [hok]; rfl)
    clear hok
    go_enter Try.func52, Try.ntmps52
    go_wp2_with (go_at_call 30; refine (implLongOk_any _ _ _ hs).mono ?_; rintro e w' ⟨h9, rfl⟩; rw [HOK.out] at h9; subst h9)
    refine HR.out.mono ?_
    rintro e w2 ⟨rfl, hb2⟩
    have F : Hid (RetRep (ovR s) w (.returned (.tuple #[.int .i64 ((repE (repFst ovLen (bl s)) : Nat) : Int), .int .i64 ((repH (repFst ovLen (bl s)) : Nat) : Int)])) w2) := Lib.hid (by rw [HV.out]; exact ⟨rfl, hb2⟩)
    clear hb2 HR
    generalize repE (repFst ovLen (bl s)) = qe at *
    generalize repH (repFst ovLen (bl s)) = qh at *
    go_wp2_with fail
    exact bodyPost_ret (v := .tuple #[.int .i64 (qe : Nat), .int .i64 (qh : Nat)]) (by simp [results, Try.results52, go_sem]) rfl F.out
set_option maxHeartbeats 400000 in
theorem firstSquare_any (s : ByteArray) (w : World) (hs : s.size ≤ maxLen) : Calls Try.prog 21 #[.string s] w (RetRep (powR 2 s) w) := by
  have HP := Lib.hid (firstPower_any 2 s w hs (by omega) (by omega))
  go_enter Try.func21, Try.ntmps21
  go_wp2_with fail
  refine HP.out.mono ?_
  rintro e w2 hr
  obtain ⟨rfl, _⟩ := id hr
  have F := Lib.hid hr
  clear hr HP
  generalize repE (powR 2 s) = qe at *
  generalize repH (powR 2 s) = qh at *
  go_wp2_with fail
  exact bodyPost_ret (v := .tuple #[.int .i64 (qe : Nat), .int .i64 (qh : Nat)]) (by simp [results, Try.results21, go_sem]) rfl F.out
/-- whether a word has no repetition -/
def noRep (r : Option (Nat × Nat)) (s : ByteArray) : Bool := longOkB 4 s && decide (repE r = 0)
theorem noRep_not {r : Option (Nat × Nat)} {s : ByteArray} (h : longOkB 4 s = false) : noRep r s = false := by simp [noRep, h]
theorem noRep_yes {r : Option (Nat × Nat)} {s : ByteArray} (h : longOkB 4 s = true) : noRep r s = decide (repE r = 0) := by simp [noRep, h]
set_option maxHeartbeats 400000 in
theorem isSquareFree_any (s : ByteArray) (w : World) (hs : s.size ≤ maxLen) : Calls Try.prog 8 #[.string s] w fun e w' => e = .returned (.bool (noRep (powR 2 s) s)) ∧ Below w.heap.size w w' := by
  have HP := Lib.hid (firstSquare_any s w hs)
  cases hok : longOkB 4 s
  all_goals
    first | have F := Lib.hid (noRep_not (r := powR 2 s) hok) | skip
    first | have F2 := Lib.hid (noRep_yes (r := powR 2 s) hok) | skip
    have HOK := Lib.hid hok
    clear hok
    go_enter Try.func8, Try.ntmps8
    go_wp2_with fail
    refine HP.out.mono ?_
    rintro e w2 ⟨rfl, hb2⟩
    clear HP
    generalize repE (powR 2 s) = qe at *
    generalize repH (powR 2 s) = qh at *
    go_wp2_with (go_at_call 30; refine (implLongOk_any _ _ _ hs).mono ?_; rintro e w' ⟨h9, rfl⟩; rw [HOK.out] at h9; subst h9)
    go_ret
    first
      | exact ⟨ret_bool F.out.symm, hb2⟩
      | exact ⟨ret_bool (by rw [F2.out, Bool.eq_iff_iff]; simp), hb2⟩
end Go.Proofs.Ytnnboeeogbgmdaa
