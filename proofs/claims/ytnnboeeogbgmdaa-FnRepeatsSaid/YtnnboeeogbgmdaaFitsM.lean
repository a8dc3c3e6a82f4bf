/-
  The least of a list of lists of words; FitsPattern.
-/
import Derived.Test.YtnnboeeogbgmdaaFitsP
import Derived.Test.YtnnboeeogbgmdaaStrFns
namespace Go.Proofs.Ytnnboeeogbgmdaa
open Go.RowKit
set_option linter.unusedVariables false
theorem cmpLen_any (u v : ByteArray) (w : World) (hu : u.size ≤ maxLen) (hv : v.size ≤ maxLen) :
    Calls Try.prog 73 #[.string u, .string v] w fun e w' => e = .returned (.int .i64 ((u.size : Int) - (v.size : Int))) ∧ w' = w := by
  unfold maxLen at hu hv
  go_enter Try.func73, Try.ntmps73
  go_wp2_with fail
  go_ret
  exact ⟨rfl, rfl⟩
set_option maxHeartbeats 1000000 in
theorem compareFunc_any (l m : List ByteArray) (a b : Option Addr) (ca cb : Nat) (w : World) (hl : StrsIn w a l) (hm : StrsIn w b m) (hll : l.length ≤ 1000000) (hml : m.length ≤ 1000000) (hls : ∀ v ∈ l, v.size ≤ 1000000) (hms : ∀ v ∈ m, v.size ≤ 1000000) :
    Calls Try.prog 72 #[.slice a l.length ca, .slice b m.length cb, .func (.func 73) #[] #[]] w fun e w' => e = .returned (.int .i64 (cmpL l m)) ∧ w' = w := by
  have eg := enters_of Try.func73 (by kernel_rfl) rfl
  have HL := Lib.hid hl
  have HM := Lib.hid hm
  have HLS := Lib.hid hls
  have HMS := Lib.hid hms
  clear hl hm hls hms
  go_enter Try.func72, Try.ntmps72
  go_wp2_with fail
  go_loop [13] (fun i => ∃ j : Nat, j ≤ l.length ∧ j ≤ m.length ∧ i = .int .i64 j ∧ Hid (cmpL l m = cmpL (l.drop j) (m.drop j))) (fun i => l.length - (intOf i).toNat)
  case atStart => exact ⟨0, Nat.zero_le _, Nat.zero_le _, rfl, Lib.hid rfl⟩
  case round =>
    obtain ⟨j, hj, hjm, rfl, hd⟩ := hrel
    by_cases hlt : j < l.length
    · obtain ⟨b1, o1, rfl, hb1, hc1⟩ := HL.out.cell hlt
      have g1 := hc1 j hlt
      clear hc1
      by_cases hlm : j < m.length
      · obtain ⟨b2, o2, rfl, hb2, hc2⟩ := HM.out.cell hlm
        have g2 := hc2 j hlm
        clear hc2
        have hs1 : (nthS l j).size ≤ 1000000 := HLS.out _ (by rw [nthS_lt hlt]; exact List.getElem_mem _)
        have hs2 : (nthS m j).size ≤ 1000000 := HMS.out _ (by rw [nthS_lt hlm]; exact List.getElem_mem _)
        have HD := Lib.hid (cmpL_drop hlt hlm)
        generalize nthS l j = u at *
        generalize nthS m j = v at *
        have HC := Lib.hid (fun W => cmpLen_any u v W (by unfold maxLen; omega) (by unfold maxLen; omega))
        go_wp2_with fail
        refine (HC.out _).mono ?_
        rintro e w2 ⟨rfl, rfl⟩
        by_cases he : (u.size : Int) - (v.size : Int) = 0
        · have F : Hid (cmpL l m = cmpL (l.drop (j + 1)) (m.drop (j + 1))) := Lib.hid (by rw [hd.out, HD.out, if_pos he])
          have he2 : (u.size : Int) = v.size := by omega
          clear he
          go_wp2_with fail
          go_round
          case rel => exact ⟨j + 1, by omega, by omega, by go_num, F.out⟩
          case measure => simp [intOf]; omega
        · have F : Hid (cmpL l m = (u.size : Int) - (v.size : Int)) := Lib.hid (by rw [hd.out, HD.out, if_neg he])
          have he2 : ((u.size : Int) - (v.size : Int) != 0) = true := by rw [bne_iff_ne]; exact he
          go_wp2_with fail
          go_ret
          exact ⟨ret_int F.out.symm, rfl⟩
      · have F : Hid (cmpL l m = 1) := Lib.hid (by rw [hd.out, cmpL_out hlt hlm])
        have hge : (m.length : Int) ≤ (j : Int) := by omega
        go_wp2_with fail
        go_ret
        exact ⟨ret_int F.out.symm, rfl⟩
    · by_cases hsh : l.length < m.length
      · have F : Hid (cmpL l m = -1) := Lib.hid (by rw [hd.out, cmpL_short hlt hsh hj])
        go_wp2_with fail
        go_ret
        exact ⟨ret_int F.out.symm, rfl⟩
      · have F : Hid (cmpL l m = 0) := Lib.hid (by rw [hd.out, cmpL_end hlt hsh hj])
        go_wp2_with fail
        go_ret
        exact ⟨ret_int F.out.symm, rfl⟩
theorem compareLengths_any (l m : List ByteArray) (a b : Option Addr) (ca cb : Nat) (w : World) (hl : StrsIn w a l) (hm : StrsIn w b m) (hll : l.length ≤ 1000000) (hml : m.length ≤ 1000000) (hls : ∀ v ∈ l, v.size ≤ 1000000) (hms : ∀ v ∈ m, v.size ≤ 1000000) :
    Calls Try.prog 48 #[.slice a l.length ca, .slice b m.length cb] w fun e w' => e = .returned (.int .i64 (cmpL l m)) ∧ w' = w := by
  have HC := Lib.hid (compareFunc_any l m a b ca cb w hl hm hll hml hls hms)
  clear hl hm hls hms
  go_enter Try.func48, Try.ntmps48
  go_wp2_with fail
  refine HC.out.mono ?_
  rintro e w2 ⟨rfl, rfl⟩
  go_wp2_with fail
  go_ret
  exact ⟨rfl, rfl⟩
set_option maxHeartbeats 1000000 in
/-- the first element is the least one -/
theorem minFunc_first (F : List (List ByteArray)) (xs : List Value) (a : Option Addr) (cap base : Nat) (w : World) (ho : w.ownsRow base 33 1 (.slice a F.length cap) F.length xs) (hf : FAt base w (.slice a F.length cap) xs F)
    (hpos : 0 < F.length) (hlen : F.length ≤ 10000000000) (hv : ∀ i, i < F.length → (∀ v ∈ nthF F i, v.size ≤ 1000000) ∧ (nthF F i).length ≤ 1000000) (hmin : ∀ i, i < F.length → 0 ≤ cmpL (nthF F i) (nthF F 0)) :
    Calls Try.prog 47 #[.slice a F.length cap, .func (.func 48) #[] #[]] w fun e w' => ∃ a0 c0, e = .returned (.slice a0 (nthF F 0).length c0) ∧ w.ownsRow base 9 1 (.slice a0 (nthF F 0).length c0) (nthF F 0).length (strVals (nthF F 0)) ∧ w' = w := by
  have eg := enters_of Try.func48 (by kernel_rfl) rfl
  obtain ⟨a0, c0, hx0, hr0, _⟩ := hf.at_ 0 hpos
  obtain ⟨g, rfl⟩ : ∃ g, a = some ⟨g, 0, none⟩ := by
    rcases ho.2 with ⟨hv, h0⟩ | ⟨g, cap', cur, hv, _⟩
    · omega
    · simp only [Value.slice.injEq] at hv
      exact ⟨g, hv.1⟩
  have g0 : w.cell? ⟨g, 0, none⟩ = some (.slice a0 (nthF F 0).length c0) := by rw [ho.cellAt 0 (by omega)]; exact hx0
  have HR := Lib.hid hr0
  have HCM : Hid (∀ i, i < F.length → ∃ ai ci, w.cell? ⟨g, i, none⟩ = some (.slice ai (nthF F i).length ci) ∧ Calls Try.prog 48 #[.slice ai (nthF F i).length ci, .slice a0 (nthF F 0).length c0] w fun e w' => e = .returned (.int .i64 (cmpL (nthF F i) (nthF F 0))) ∧ w' = w) := Lib.hid (fun i hi => by
    obtain ⟨ai, ci, hxi, hri, _⟩ := hf.at_ i hi
    refine ⟨ai, ci, by rw [ho.cellAt i (by omega)]; exact hxi, ?_⟩
    exact compareLengths_any _ _ _ _ _ _ w (owns_strsIn hri) (owns_strsIn hr0) (hv i hi).2 (hv 0 hpos).2 (hv i hi).1 (hv 0 hpos).1)
  have HMN := Lib.hid hmin
  clear ho hf hv hmin hr0 hx0
  go_enter Try.func47, Try.ntmps47
  go_wp2_with fail
  go_loop [5, 6] (fun v i => ∃ j : Nat, 1 ≤ j ∧ j ≤ F.length ∧ i = .int .i64 j ∧ v = .slice a0 (nthF F 0).length c0) (fun _ i => F.length - (intOf i).toNat)
  case atStart => exact ⟨1, Nat.le_refl _, hpos, rfl, rfl⟩
  case round =>
    obtain ⟨j, hj1, hj, rfl, rfl⟩ := hrel
    by_cases hlt : j < F.length
    · obtain ⟨ai, ci, hcj, hcall⟩ := HCM.out j hlt
      have hnn := HMN.out j hlt
      have HCJ := Lib.hid hcall
      clear hcall
      generalize cmpL (nthF F j) (nthF F 0) = q at *
      generalize (nthF F j).length = nj at *
      go_wp2_with fail
      refine HCJ.out.mono ?_
      rintro e w2 ⟨rfl, rfl⟩
      have hq : ¬ q < 0 := by omega
      go_wp2_with fail
      go_round
      case rel => exact ⟨j + 1, by omega, by omega, by go_num, rfl⟩
      case measure => simp [intOf]; omega
    · go_wp2_with fail
      go_ret
      exact ⟨_, _, rfl, HR.out, rfl⟩
/-- FitsPattern as a function of plain data -/
def fpOk (p s : ByteArray) : Bool := fitOkB p s && decide (0 < (fitL p s).length)
def fpV (p s : ByteArray) : List ByteArray := if fpOk p s = true then fitH p s else []
/-- what FitsPattern hands back -/
def RetFP (p s : ByteArray) (w : World) (e : Ending) (w' : World) : Prop :=
  ∃ a c, e = .returned (.tuple #[.slice a (fpV p s).length c, .bool (fpOk p s)]) ∧ w'.ownsRow w.heap.size 9 1 (.slice a (fpV p s).length c) (fpV p s).length (strVals (fpV p s)) ∧ Below w.heap.size w w'
theorem RetFP.no {p s : ByteArray} {w w' : World} (h : fpOk p s = false) (hb : Below w.heap.size w w') : RetFP p s w (.returned (.tuple #[.slice none 0 0, .bool false])) w' := by
  have hv : fpV p s = [] := by simp [fpV, h]
  unfold RetFP
  rw [hv, h]
  exact ⟨none, 0, rfl, World.ownsRow_nil _ _ _ _, hb⟩
theorem fpOk_not1 {p s : ByteArray} (h : fitOkB p s = false) : fpOk p s = false := by simp [fpOk, h]
theorem fpOk_not2 {p s : ByteArray} (h : (fitL p s).length = 0) : fpOk p s = false := by simp [fpOk, h]
theorem fpOk_yes {p s : ByteArray} (h : fitOkB p s = true) (h2 : 0 < (fitL p s).length) : fpOk p s = true := by simp [fpOk, h, h2]
set_option maxHeartbeats 1000000 in
theorem implFitsPattern_any (p s : ByteArray) (w : World) (hp : p.size ≤ maxLen) (hs : s.size ≤ maxLen) :
    Calls Try.prog 16 #[.string p, .string s] w (RetFP p s w) := by
  cases h1 : patternOkB p
  · have F := Lib.hid (RetFP.no (fpOk_not1 (fitOk_not1 (s := s) h1)) (Below.refl w.heap.size w))
    go_enter Try.func16, Try.ntmps16
    go_wp2_with (go_at_call 15; refine (implPatternOk_any _ _ hp).mono ?_; rintro e w' ⟨h9, rfl⟩; rw [h1] at h9; subst h9)
    exact bodyPost_ret (v := .tuple #[.slice none 0 0, .bool false]) (by simp [results, Try.results16, go_sem]) rfl F.out
  cases h2 : wordOkB 4 s
  · have F := Lib.hid (RetFP.no (fpOk_not1 (fitOk_not2 (p := p) h2)) (Below.refl w.heap.size w))
    go_enter Try.func16, Try.ntmps16
    go_wp2_with (first
      | (go_at_call 15; refine (implPatternOk_any _ _ hp).mono ?_; rintro e w' ⟨h9, rfl⟩; rw [h1] at h9; subst h9)
      | (go_at_call 38; refine (implWordOk_any _ _ _ hs).mono ?_; rintro e w' ⟨h9, rfl⟩; rw [h2] at h9; subst h9))
    exact bodyPost_ret (v := .tuple #[.slice none 0 0, .bool false]) (by simp [results, Try.results16, go_sem]) rfl F.out
  have hok := fitOk_yes h1 h2
  obtain ⟨_, _, hp8, hs16⟩ := fitOk_out hok
  have HOK := Lib.hid hok
  have P1 := Lib.hid h1
  have P2 := Lib.hid h2
  have HLE := Lib.hid (fitL_count hp8 hs16)
  have HMN : Hid (∀ i, i < (fitL p s).length → 0 ≤ cmpL (nthF (fitL p s) i) (nthF (fitL p s) 0)) := Lib.hid (fun i hi => fitH_min hi)
  have HVV : Hid (∀ i, i < (fitL p s).length → (∀ v ∈ nthF (fitL p s) i, v.size ≤ 1000000) ∧ (nthF (fitL p s) i).length ≤ 1000000) := Lib.hid (fun i hi => by
    have := fitL_vals hp8 hs16 hi
    exact ⟨fun v hv => Nat.le_trans (this.1 v hv) (by omega), by omega⟩)
  have HCF := Lib.hid (fun W => fitsOf_all p s W hp8 hs16)
  clear hok h1 h2
  go_enter Try.func16, Try.ntmps16
  go_wp2_with (first
    | (go_at_call 15; refine (implPatternOk_any _ _ hp).mono ?_; rintro e w' ⟨h9, rfl⟩; rw [P1.out] at h9; subst h9)
    | (go_at_call 38; refine (implWordOk_any _ _ _ hs).mono ?_; rintro e w' ⟨h9, rfl⟩; rw [P2.out] at h9; subst h9))
  refine (HCF.out _).mono ?_
  rintro e w2 ⟨a2, c2, xs, rfl, ho, hfa, hb2⟩
  have HB := Lib.hid hb2
  have HO := Lib.hid ho
  have HFA := Lib.hid hfa
  clear ho hfa hb2
  by_cases hpos : 0 < (fitL p s).length
  · have HM := Lib.hid (minFunc_first (fitL p s) xs a2 c2 w.heap.size w2 HO.out HFA.out hpos (by have := HLE.out; omega) HVV.out HMN.out)
    have FOK := Lib.hid (fpOk_yes HOK.out hpos)
    have FV : Hid (fpV p s = nthF (fitL p s) 0) := Lib.hid (by unfold fpV; rw [FOK.out]; rfl)
    have hne : ¬ ((fitL p s).length : Int) = 0 := by omega
    generalize (fitL p s).length = q at *
    go_wp2_with fail
    refine HM.out.mono ?_
    rintro e w3 ⟨a0, c0, rfl, hr0, rfl⟩
    have FR : Hid (RetFP p s w (.returned (.tuple #[.slice a0 (nthF (fitL p s) 0).length c0, .bool true])) w3) := Lib.hid (by
      unfold RetFP
      rw [FV.out, FOK.out]
      exact ⟨a0, c0, rfl, hr0, HB.out⟩)
    clear hr0
    go_wp2_with fail
    exact bodyPost_ret (v := .tuple #[.slice a0 (nthF (fitL p s) 0).length c0, .bool true]) (by simp [results, Try.results16, go_sem]) rfl FR.out
  · have h0 : (fitL p s).length = 0 := by omega
    have F := Lib.hid (RetFP.no (fpOk_not2 h0) HB.out)
    rw [h0]
    clear hpos
    go_wp2_with fail
    exact bodyPost_ret (v := .tuple #[.slice none 0 0, .bool false]) (by simp [results, Try.results16, go_sem]) rfl F.out
end Go.Proofs.Ytnnboeeogbgmdaa
