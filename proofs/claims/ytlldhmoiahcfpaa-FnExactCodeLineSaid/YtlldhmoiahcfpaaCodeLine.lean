/-
  CodeLine, of the program and of the reference.
-/
import Derived.Test.YtlldhmoiahcfpaaTailsI
namespace Go.Proofs.Ytlldhmoiahcfpaa
open Go.RowKit
set_option linter.unusedVariables false
theorem strSum_mem {l : List ByteArray} : ∀ {x : ByteArray}, x ∈ l → x.size ≤ strSum l := by
  induction l with
  | nil => intro x h; cases h
  | cons a l ih =>
    intro x h
    have h2 : strSum (a :: l) = a.size + strSum l := by simp [strSum]
    rcases List.mem_cons.1 h with rfl | h
    · omega
    · have := ih h; omega
/-- CodeLine as a function of plain data -/
noncomputable def codeLine (l : List ByteArray) : ByteArray := by
  classical
  exact if listP l then (if codeP l then ((if prefP l then ⟨#[99, 111, 100, 101]⟩ ++ ⟨#[32, 112, 114, 101, 102, 105, 120]⟩ else ⟨#[99, 111, 100, 101]⟩) ++ (if suffP l then ⟨#[32, 115, 117, 102, 102, 105, 120]⟩ else ⟨#[]⟩)) else ⟨#[110, 111, 32, 99, 111, 100, 101]⟩) else ⟨#[110, 111, 110, 101]⟩
theorem app_nil (a : ByteArray) : a ++ ⟨#[]⟩ = a := by
  apply ba_ext
  rw [ByteArray.data_append, Array.toList_append]; simp
theorem cl_none {l : List ByteArray} (h : ¬ listP l) : codeLine l = ⟨#[110, 111, 110, 101]⟩ := by unfold codeLine; rw [if_neg h]
theorem cl_no {l : List ByteArray} (h : listP l) (h1 : ¬ codeP l) : codeLine l = ⟨#[110, 111, 32, 99, 111, 100, 101]⟩ := by unfold codeLine; rw [if_pos h, if_neg h1]
theorem cl_tt {l : List ByteArray} (h : listP l) (h1 : codeP l) (h2 : prefP l) (h3 : suffP l) : codeLine l = ⟨#[99, 111, 100, 101]⟩ ++ ⟨#[32, 112, 114, 101, 102, 105, 120]⟩ ++ ⟨#[32, 115, 117, 102, 102, 105, 120]⟩ := by unfold codeLine; rw [if_pos h, if_pos h1, if_pos h2, if_pos h3]
theorem cl_tf {l : List ByteArray} (h : listP l) (h1 : codeP l) (h2 : prefP l) (h3 : ¬ suffP l) : codeLine l = ⟨#[99, 111, 100, 101]⟩ ++ ⟨#[32, 112, 114, 101, 102, 105, 120]⟩ := by unfold codeLine; rw [if_pos h, if_pos h1, if_pos h2, if_neg h3, app_nil]
theorem cl_ft {l : List ByteArray} (h : listP l) (h1 : codeP l) (h2 : ¬ prefP l) (h3 : suffP l) : codeLine l = ⟨#[99, 111, 100, 101]⟩ ++ ⟨#[32, 115, 117, 102, 102, 105, 120]⟩ := by unfold codeLine; rw [if_pos h, if_pos h1, if_neg h2, if_pos h3]
theorem cl_ff {l : List ByteArray} (h : listP l) (h1 : codeP l) (h2 : ¬ prefP l) (h3 : ¬ suffP l) : codeLine l = ⟨#[99, 111, 100, 101]⟩ := by unfold codeLine; rw [if_pos h, if_pos h1, if_neg h2, if_neg h3, app_nil]
set_option maxHeartbeats 1000000 in
theorem implIsCode_any (l : List ByteArray) (a : Option Addr) (cap : Nat) (w : World) (hl : StrsIn w a l) (hlen : l.length ≤ 2 ^ 40) (hcap : l.length ≤ cap) (hsz : ∀ j, j < l.length → (nthS l j).size ≤ maxLen) :
    Calls Try.prog 14 #[.slice a l.length cap] w (RetP (codeP l) w) := by
  have HL := Lib.hid hl
  have HOK := Lib.hid (fun W h => implListOk_any l a cap W h hlen hcap hsz)
  have HT := Lib.hid (fun W h => implTailsOf_any l a cap W h hlen hcap hsz)
  clear hl hsz
  go_enter Try.func14, Try.ntmps14
  go_wp2_with fail
  refine (HOK.out _ HL.out).mono ?_
  rintro e w1 ⟨bb, hbb, rfl, hb1⟩
  have HBB := Lib.hid hbb
  have HB1 := Lib.hid hb1
  clear hbb hb1 HOK
  cases bb
  · have F : Hid (RetP (codeP l) w (.returned (.bool false)) w1) := Lib.hid (RetP.no (fun h => by have := HBB.out.2 h.1; cases this) HB1.out)
    go_wp2_with fail
    go_ret
    exact F.out
  · have HLP := Lib.hid (HBB.out.1 rfl)
    have HK := Lib.hid (LOk.of HLP.out)
    go_wp2_with fail
    refine (HT.out _ (HL.out.later HB1.out)).mono ?_
    rintro e w2 (⟨hno, _, _⟩ | ⟨_, out, S, vs, a1, c1, hf, he, hsi, rfl, hown, hb2⟩)
    · exact absurd HLP.out hno
    have HF := Lib.hid hf
    have HE := Lib.hid he
    have HB2 := Lib.hid (Below.now HB1.out hb2)
    have hol := freshT_len HK.out hf
    have hvl : vs.length = out.length := by have := hown.1; omega
    have HP : Hid (PredAt w2.heap.size 28 #[] (fun j => (⟨#[]⟩ : ByteArray) ∈ nthL out.reverse j) vs w2) := Lib.hid (fun j v hv W hW => by
      have hj : j < out.length := by
        have := (List.getElem?_eq_some_iff.1 hv).1
        rw [hvl] at this; exact this
      obtain ⟨adj, cj, hv1, hv2, hv3, _⟩ := hsi.2 j (by simpa using hj)
      rw [hv] at hv1
      obtain rfl := Option.some.inj hv1
      have hm := List.mem_reverse.1 (nthL_mem (show j < out.reverse.length by simpa using hj))
      have h41 := (freshT_all HK.out HF.out).2 _ hm
      have hx41 := HK.out.set h41.1.nodup h41.2
      exact isCode1_any (nthL out.reverse j) (some adj) cj W (hv2.later hW) (freshT_pos HF.out hm) (by omega))
    have hCF := containsFuncSets_any 28 #[] (fun j => (⟨#[]⟩ : ByteArray) ∈ nthL out.reverse j) vs a1 c1 w2 (owns_cells hown) (by rw [hvl]; omega) w2.heap.size (Nat.le_refl _) HP.out (enters_of Try.func28 (by kernel_rfl) rfl)
    rw [hvl] at hCF
    have HCF := Lib.hid hCF
    clear hf he hsi hown hb2 hvl hCF HP HT
    go_wp2_with fail
    refine HCF.out.mono ?_
    rintro e w3 ⟨b3, hb3, rfl, hbw3⟩
    have F : Hid (RetP (codeP l) w (.returned (.bool !b3)) w3) := Lib.hid (by
      have hcp := codeP_of HLP.out HF.out HE.out
      cases b3
      · refine RetP.yes (hcp.2 (fun X hX hm => ?_)) (Below.now HB2.out hbw3)
        obtain ⟨i, hi, rfl⟩ := mem_nthL (List.mem_reverse.2 hX)
        have := hb3.2 ⟨i, by simpa using hi, hm⟩
        cases this
      · refine RetP.no (fun h => ?_) (Below.now HB2.out hbw3)
        obtain ⟨i, hi, hm⟩ := hb3.1 rfl
        exact hcp.1 h _ (List.mem_reverse.1 (nthL_mem (by simpa using hi))) hm)
    clear hb3 hbw3 HCF
    go_wp2_with fail
    go_ret
    exact F.out
set_option maxHeartbeats 1000000 in
theorem specCodeLine_any (l : List ByteArray) (a : Option Addr) (cap : Nat) (w : World) (hl : StrsIn w a l) (hlen : l.length ≤ 1048576) (hsum : strSum l ≤ 1048576) (hcap : l.length ≤ cap) :
    Calls Try.prog 5 #[.slice a l.length cap] w fun e w' => e = .returned (.string (codeLine l)) ∧ Below w.heap.size w w' := by
  have hlen2 : l.length ≤ 2 ^ 40 := by omega
  have HZ : Hid (∀ j, j < l.length → (nthS l j).size ≤ maxLen) := Lib.hid (fun j hj => by have := strSum_mem (nthS_mem hj); unfold maxLen; omega)
  have HL := Lib.hid hl
  have HOK := Lib.hid (fun W h => specListOk_any l a cap W h hlen2 hcap HZ.out)
  have HC := Lib.hid (fun W h => specIsCode_any l a cap W h hlen2 hcap HZ.out)
  have HP := Lib.hid (fun W h => specIsPrefixCode_any l a cap W h hlen2 hcap HZ.out)
  clear hl hsum
  go_enter Try.func5, Try.ntmps5
  go_wp2_with fail
  refine (HOK.out _ HL.out).mono ?_
  rintro e w1 ⟨bb, hbb, rfl, hb1⟩
  have HBB := Lib.hid hbb
  have HB1 := Lib.hid hb1
  clear hbb hb1 HOK
  cases bb
  · have F := Lib.hid (cl_none (fun h => (by have := HBB.out.2 h; cases this) : ¬ listP l))
    go_wp2_with fail
    go_ret
    exact ⟨ret_str F.out.symm, HB1.out⟩
  · have HLP := Lib.hid (HBB.out.1 rfl)
    have HS := Lib.hid (fun W h => specIsSuffixCode_any l a cap W h (HLP.out) hcap)
    clear HBB
    go_wp2_with fail
    refine (HC.out _ (HL.out.later HB1.out)).mono ?_
    rintro e w2 ⟨b2, hb2, rfl, hbw2⟩
    have HB2 := Lib.hid (Below.now HB1.out hbw2)
    have HBC := Lib.hid hb2
    clear hb2 hbw2 HB1 HC
    cases b2
    · have F := Lib.hid (cl_no HLP.out (fun h => (by have := HBC.out.2 h; cases this)))
      go_wp2_with fail
      go_ret
      exact ⟨ret_str F.out.symm, HB2.out⟩
    · have HCP := Lib.hid (HBC.out.1 rfl)
      clear HBC
      go_wp2_with fail
      refine (HP.out _ (HL.out.later HB2.out)).mono ?_
      rintro e w3 ⟨b3, hb3, rfl, hbw3⟩
      have HB3 := Lib.hid (Below.now HB2.out hbw3)
      have HBP := Lib.hid hb3
      clear hb3 hbw3 HB2 HP
      cases b3
      · have HPP : Hid (¬ prefP l) := Lib.hid (fun h => (by have := HBP.out.2 h; cases this))
        clear HBP
        go_wp2_with fail
        refine (HS.out _ (HL.out.later HB3.out)).mono ?_
        rintro e w4 ⟨b4, hb4, rfl, hbw4⟩
        have HB4 := Lib.hid (Below.now HB3.out hbw4)
        have HBS := Lib.hid hb4
        clear hb4 hbw4 HB3 HS
        cases b4
        · have F := Lib.hid (cl_ff HLP.out HCP.out HPP.out (fun h => (by have := HBS.out.2 h; cases this)))
          go_wp2_with fail
          go_ret
          exact ⟨ret_str F.out.symm, HB4.out⟩
        · have F := Lib.hid (cl_ft HLP.out HCP.out HPP.out (HBS.out.1 rfl))
          go_wp2_with fail
          go_ret
          exact ⟨ret_str F.out.symm, HB4.out⟩
      · have HPP : Hid (prefP l) := Lib.hid (HBP.out.1 rfl)
        clear HBP
        go_wp2_with fail
        refine (HS.out _ (HL.out.later HB3.out)).mono ?_
        rintro e w4 ⟨b4, hb4, rfl, hbw4⟩
        have HB4 := Lib.hid (Below.now HB3.out hbw4)
        have HBS := Lib.hid hb4
        clear hb4 hbw4 HB3 HS
        cases b4
        · have F := Lib.hid (cl_tf HLP.out HCP.out HPP.out (fun h => (by have := HBS.out.2 h; cases this)))
          go_wp2_with fail
          go_ret
          exact ⟨ret_str F.out.symm, HB4.out⟩
        · have F := Lib.hid (cl_tt HLP.out HCP.out HPP.out (HBS.out.1 rfl))
          go_wp2_with fail
          go_ret
          exact ⟨ret_str F.out.symm, HB4.out⟩
set_option maxHeartbeats 1000000 in
theorem implCodeLine_any (l : List ByteArray) (a : Option Addr) (cap : Nat) (w : World) (hl : StrsIn w a l) (hlen : l.length ≤ 1048576) (hsum : strSum l ≤ 1048576) (hcap : l.length ≤ cap) :
    Calls Try.prog 7 #[.slice a l.length cap] w fun e w' => e = .returned (.string (codeLine l)) ∧ Below w.heap.size w w' := by
  have hlen2 : l.length ≤ 2 ^ 40 := by omega
  have HZ : Hid (∀ j, j < l.length → (nthS l j).size ≤ maxLen) := Lib.hid (fun j hj => by have := strSum_mem (nthS_mem hj); unfold maxLen; omega)
  have HL := Lib.hid hl
  have HOK := Lib.hid (fun W h => implListOk_any l a cap W h hlen2 hcap HZ.out)
  have HC := Lib.hid (fun W h => implIsCode_any l a cap W h hlen2 hcap HZ.out)
  have HP := Lib.hid (fun W h => implIsPrefixCode_any l a cap W h hlen2 hcap HZ.out)
  clear hl hsum
  go_enter Try.func7, Try.ntmps7
  go_wp2_with fail
  refine (HOK.out _ HL.out).mono ?_
  rintro e w1 ⟨bb, hbb, rfl, hb1⟩
  have HBB := Lib.hid hbb
  have HB1 := Lib.hid hb1
  clear hbb hb1 HOK
  cases bb
  · have F := Lib.hid (cl_none (fun h => (by have := HBB.out.2 h; cases this) : ¬ listP l))
    go_wp2_with fail
    go_ret
    exact ⟨ret_str F.out.symm, HB1.out⟩
  · have HLP := Lib.hid (HBB.out.1 rfl)
    have HS := Lib.hid (fun W h => implIsSuffixCode_any l a cap W h hlen2 hcap HZ.out)
    clear HBB
    go_wp2_with fail
    refine (HC.out _ (HL.out.later HB1.out)).mono ?_
    rintro e w2 ⟨b2, hb2, rfl, hbw2⟩
    have HB2 := Lib.hid (Below.now HB1.out hbw2)
    have HBC := Lib.hid hb2
    clear hb2 hbw2 HB1 HC
    cases b2
    · have F := Lib.hid (cl_no HLP.out (fun h => (by have := HBC.out.2 h; cases this)))
      go_wp2_with fail
      go_ret
      exact ⟨ret_str F.out.symm, HB2.out⟩
    · have HCP := Lib.hid (HBC.out.1 rfl)
      clear HBC
      go_wp2_with fail
      refine (HP.out _ (HL.out.later HB2.out)).mono ?_
      rintro e w3 ⟨b3, hb3, rfl, hbw3⟩
      have HB3 := Lib.hid (Below.now HB2.out hbw3)
      have HBP := Lib.hid hb3
      clear hb3 hbw3 HB2 HP
      cases b3
      · have HPP : Hid (¬ prefP l) := Lib.hid (fun h => (by have := HBP.out.2 h; cases this))
        clear HBP
        go_wp2_with fail
        refine (HS.out _ (HL.out.later HB3.out)).mono ?_
        rintro e w4 ⟨b4, hb4, rfl, hbw4⟩
        have HB4 := Lib.hid (Below.now HB3.out hbw4)
        have HBS := Lib.hid hb4
        clear hb4 hbw4 HB3 HS
        cases b4
        · have F := Lib.hid (cl_ff HLP.out HCP.out HPP.out (fun h => (by have := HBS.out.2 h; cases this)))
          go_wp2_with fail
          go_ret
          exact ⟨ret_str F.out.symm, HB4.out⟩
        · have F := Lib.hid (cl_ft HLP.out HCP.out HPP.out (HBS.out.1 rfl))
          go_wp2_with fail
          go_ret
          exact ⟨ret_str F.out.symm, HB4.out⟩
      · have HPP : Hid (prefP l) := Lib.hid (HBP.out.1 rfl)
        clear HBP
        go_wp2_with fail
        refine (HS.out _ (HL.out.later HB3.out)).mono ?_
        rintro e w4 ⟨b4, hb4, rfl, hbw4⟩
        have HB4 := Lib.hid (Below.now HB3.out hbw4)
        have HBS := Lib.hid hb4
        clear hb4 hbw4 HB3 HS
        cases b4
        · have F := Lib.hid (cl_tf HLP.out HCP.out HPP.out (fun h => (by have := HBS.out.2 h; cases this)))
          go_wp2_with fail
          go_ret
          exact ⟨ret_str F.out.symm, HB4.out⟩
        · have F := Lib.hid (cl_tt HLP.out HCP.out HPP.out (HBS.out.1 rfl))
          go_wp2_with fail
          go_ret
          exact ⟨ret_str F.out.symm, HB4.out⟩
end Go.Proofs.Ytlldhmoiahcfpaa
