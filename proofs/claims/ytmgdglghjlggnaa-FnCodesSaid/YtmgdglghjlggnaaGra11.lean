/-
  The keys of a map of words to numbers, in their order.
-/
import Derived.Test.YtmgdglghjlggnaaGra10
import Derived.Test.YtmgdglghjlggnaaGra05
import Derived.Test.YtmgdglghjlggnaaGra04
import Derived.Test.YtmgdglghjlggnaaGra08
import Derived.Test.YtmgdglghjlggnaaGra06
import Derived.Maps.Own
import Derived.Maps.OwnOps
import Derived.Maps.OwnSet
import Derived.Maps.RangeWalk
import Derived.Maps.Views
import Derived.Shelf.SlIter.Nil
import Derived.Shelf.SortM.Plain
import Derived.Shelf.SortM.SortNone
import Derived.Ground.GgzProg
import Derived.Ground.SlgmProg
import Derived.Test.YtmgdglghjlggnaaProg
namespace Go.Proofs.Ytmgdglghjlggnaa
open Go.RowKit
set_option linter.unusedVariables false
theorem strSum_mem {l : List ByteArray} : ∀ {x : ByteArray}, x ∈ l → x.size ≤ strSum l := by
  induction l with
  | nil => intro x h; cases h
  | cons a l ih =>
    intro x h
    have h2 : strSum (a :: l) = a.size + strSum l := by simp [strSum]
    rcases List.mem_cons.1 h with rfl | h
    · omega
    · have := ih h; omega
/-- CodeLine as a function of plain data -/
noncomputable def codeLine (l : List ByteArray) : ByteArray := by
  classical
  exact if listP l then (if codeP l then ((if prefP l then ⟨#[99, 111, 100, 101]⟩ ++ ⟨#[32, 112, 114, 101, 102, 105, 120]⟩ else ⟨#[99, 111, 100, 101]⟩) ++ (if suffP l then ⟨#[32, 115, 117, 102, 102, 105, 120]⟩ else ⟨#[]⟩)) else ⟨#[110, 111, 32, 99, 111, 100, 101]⟩) else ⟨#[110, 111, 110, 101]⟩
theorem app_nil (a : ByteArray) : a ++ ⟨#[]⟩ = a := by
  apply ba_ext
  rw [ByteArray.data_append, Array.toList_append]; simp
theorem cl_none {l : List ByteArray} (h : ¬ listP l) : codeLine l = ⟨#[110, 111, 110, 101]⟩ := by unfold codeLine; rw [if_neg h]
theorem cl_no {l : List ByteArray} (h : listP l) (h1 : ¬ codeP l) : codeLine l = ⟨#[110, 111, 32, 99, 111, 100, 101]⟩ := by unfold codeLine; rw [if_pos h, if_neg h1]
theorem cl_tt {l : List ByteArray} (h : listP l) (h1 : codeP l) (h2 : prefP l) (h3 : suffP l) : codeLine l = ⟨#[99, 111, 100, 101]⟩ ++ ⟨#[32, 112, 114, 101, 102, 105, 120]⟩ ++ ⟨#[32, 115, 117, 102, 102, 105, 120]⟩ := by unfold codeLine; rw [if_pos h, if_pos h1, if_pos h2, if_pos h3]
theorem cl_tf {l : List ByteArray} (h : listP l) (h1 : codeP l) (h2 : prefP l) (h3 : ¬ suffP l) : codeLine l = ⟨#[99, 111, 100, 101]⟩ ++ ⟨#[32, 112, 114, 101, 102, 105, 120]⟩ := by unfold codeLine; rw [if_pos h, if_pos h1, if_pos h2, if_neg h3, app_nil]
theorem cl_ft {l : List ByteArray} (h : listP l) (h1 : codeP l) (h2 : ¬ prefP l) (h3 : suffP l) : codeLine l = ⟨#[99, 111, 100, 101]⟩ ++ ⟨#[32, 115, 117, 102, 102, 105, 120]⟩ := by unfold codeLine; rw [if_pos h, if_pos h1, if_neg h2, if_pos h3]
theorem cl_ff {l : List ByteArray} (h : listP l) (h1 : codeP l) (h2 : ¬ prefP l) (h3 : ¬ suffP l) : codeLine l = ⟨#[99, 111, 100, 101]⟩ := by unfold codeLine; rw [if_pos h, if_pos h1, if_neg h2, if_neg h3, app_nil]
set_option maxHeartbeats 1000000 in
theorem implIsCode_any (l : List ByteArray) (a : Option Addr) (cap : Nat) (w : World) (hl : StrsIn w a l) (hlen : l.length ≤ 2 ^ 40) (hcap : l.length ≤ cap) (hsz : ∀ j, j < l.length → (nthS l j).size ≤ maxLen) :
    Calls Try.prog 6 #[.slice a l.length cap] w (RetP (codeP l) w) := by
  have HL := Lib.hid hl
  have HOK := Lib.hid (fun W h => implListOk_any l a cap W h hlen hcap hsz)
  have HT := Lib.hid (fun W h => implTailsOf_any l a cap W h hlen hcap hsz)
  clear hl hsz
  go_enter Try.func6, Try.ntmps6
  go_wp2_with fail
  refine (HOK.out _ HL.out).mono ?_
  rintro e w1 ⟨bb, hbb, rfl, hb1⟩
  have HBB := Lib.hid hbb
  have HB1 := Lib.hid hb1
  clear hbb hb1 HOK
  cases bb
  · have F : Hid (RetP (codeP l) w (.returned (.bool false)) w1) := Lib.hid (RetP.no (fun h => by have := HBB.out.2 h.1; cases this) HB1.out)
    go_wp2_with fail
    go_ret
    exact F.out
  · have HLP := Lib.hid (HBB.out.1 rfl)
    have HK := Lib.hid (LOk.of HLP.out)
    go_wp2_with fail
    refine (HT.out _ (HL.out.later HB1.out)).mono ?_
    rintro e w2 (⟨hno, _, _⟩ | ⟨_, out, S, vs, a1, c1, hf, he, hsi, rfl, hown, hb2⟩)
    · exact absurd HLP.out hno
    have HF := Lib.hid hf
    have HE := Lib.hid he
    have HB2 := Lib.hid (Below.now HB1.out hb2)
    have hol := freshT_len HK.out hf
    have hvl : vs.length = out.length := by have := hown.1; omega
    have HP : Hid (PredAt w2.heap.size 21 #[] (fun j => (⟨#[]⟩ : ByteArray) ∈ nthL out.reverse j) vs w2) := Lib.hid (fun j v hv W hW => by
      have hj : j < out.length := by
        have := (List.getElem?_eq_some_iff.1 hv).1
        rw [hvl] at this; exact this
      obtain ⟨adj, cj, hv1, hv2, hv3, _⟩ := hsi.2 j (by simpa using hj)
      rw [hv] at hv1
      obtain rfl := Option.some.inj hv1
      have hm := List.mem_reverse.1 (nthL_mem (show j < out.reverse.length by simpa using hj))
      have h41 := (freshT_all HK.out HF.out).2 _ hm
      have hx41 := HK.out.set h41.1.nodup h41.2
      exact isCode1_any (nthL out.reverse j) (some adj) cj W (hv2.later hW) (freshT_pos HF.out hm) (by omega))
    have hCF := containsFuncSets_any 21 #[] (fun j => (⟨#[]⟩ : ByteArray) ∈ nthL out.reverse j) vs a1 c1 w2 (owns_cells hown) (by rw [hvl]; omega) w2.heap.size (Nat.le_refl _) HP.out (enters_of Try.func21 (by kernel_rfl) rfl)
    rw [hvl] at hCF
    have HCF := Lib.hid hCF
    clear hf he hsi hown hb2 hvl hCF HP HT
    go_wp2_with fail
    refine HCF.out.mono ?_
    rintro e w3 ⟨b3, hb3, rfl, hbw3⟩
    have F : Hid (RetP (codeP l) w (.returned (.bool !b3)) w3) := Lib.hid (by
      have hcp := codeP_of HLP.out HF.out HE.out
      cases b3
      · refine RetP.yes (hcp.2 (fun X hX hm => ?_)) (Below.now HB2.out hbw3)
        obtain ⟨i, hi, rfl⟩ := mem_nthL (List.mem_reverse.2 hX)
        have := hb3.2 ⟨i, by simpa using hi, hm⟩
        cases this
      · refine RetP.no (fun h => ?_) (Below.now HB2.out hbw3)
        obtain ⟨i, hi, hm⟩ := hb3.1 rfl
        exact hcp.1 h _ (List.mem_reverse.1 (nthL_mem (by simpa using hi))) hm)
    clear hb3 hbw3 HCF
    go_wp2_with fail
    go_ret
    exact F.out
set_option maxHeartbeats 1000000 in
theorem implCodeLine_any (l : List ByteArray) (a : Option Addr) (cap : Nat) (w : World) (hl : StrsIn w a l) (hlen : l.length ≤ 1048576) (hsum : strSum l ≤ 1048576) (hcap : l.length ≤ cap) :
    Calls Try.prog 15 #[.slice a l.length cap] w fun e w' => e = .returned (.string (codeLine l)) ∧ Below w.heap.size w w' := by
  have hlen2 : l.length ≤ 2 ^ 40 := by omega
  have HZ : Hid (∀ j, j < l.length → (nthS l j).size ≤ maxLen) := Lib.hid (fun j hj => by have := strSum_mem (nthS_mem hj); unfold maxLen; omega)
  have HL := Lib.hid hl
  have HOK := Lib.hid (fun W h => implListOk_any l a cap W h hlen2 hcap HZ.out)
  have HC := Lib.hid (fun W h => implIsCode_any l a cap W h hlen2 hcap HZ.out)
  have HP := Lib.hid (fun W h => implIsPrefixCode_any l a cap W h hlen2 hcap HZ.out)
  clear hl hsum
  go_enter Try.func15, Try.ntmps15
  go_wp2_with fail
  refine (HOK.out _ HL.out).mono ?_
  rintro e w1 ⟨bb, hbb, rfl, hb1⟩
  have HBB := Lib.hid hbb
  have HB1 := Lib.hid hb1
  clear hbb hb1 HOK
  cases bb
  · have F := Lib.hid (cl_none (fun h => (by have := HBB.out.2 h; cases this) : ¬ listP l))
    go_wp2_with fail
    go_ret
    exact ⟨ret_str F.out.symm, HB1.out⟩
  · have HLP := Lib.hid (HBB.out.1 rfl)
    have HS := Lib.hid (fun W h => implIsSuffixCode_any l a cap W h hlen2 hcap HZ.out)
    clear HBB
    go_wp2_with fail
    refine (HC.out _ (HL.out.later HB1.out)).mono ?_
    rintro e w2 ⟨b2, hb2, rfl, hbw2⟩
    have HB2 := Lib.hid (Below.now HB1.out hbw2)
    have HBC := Lib.hid hb2
    clear hb2 hbw2 HB1 HC
    cases b2
    · have F := Lib.hid (cl_no HLP.out (fun h => (by have := HBC.out.2 h; cases this)))
      go_wp2_with fail
      go_ret
      exact ⟨ret_str F.out.symm, HB2.out⟩
    · have HCP := Lib.hid (HBC.out.1 rfl)
      clear HBC
      go_wp2_with fail
      refine (HP.out _ (HL.out.later HB2.out)).mono ?_
      rintro e w3 ⟨b3, hb3, rfl, hbw3⟩
      have HB3 := Lib.hid (Below.now HB2.out hbw3)
      have HBP := Lib.hid hb3
      clear hb3 hbw3 HB2 HP
      cases b3
      · have HPP : Hid (¬ prefP l) := Lib.hid (fun h => (by have := HBP.out.2 h; cases this))
        clear HBP
        go_wp2_with fail
        refine (HS.out _ (HL.out.later HB3.out)).mono ?_
        rintro e w4 ⟨b4, hb4, rfl, hbw4⟩
        have HB4 := Lib.hid (Below.now HB3.out hbw4)
        have HBS := Lib.hid hb4
        clear hb4 hbw4 HB3 HS
        cases b4
        · have F := Lib.hid (cl_ff HLP.out HCP.out HPP.out (fun h => (by have := HBS.out.2 h; cases this)))
          go_wp2_with fail
          go_ret
          exact ⟨ret_str F.out.symm, HB4.out⟩
        · have F := Lib.hid (cl_ft HLP.out HCP.out HPP.out (HBS.out.1 rfl))
          go_wp2_with fail
          go_ret
          exact ⟨ret_str F.out.symm, HB4.out⟩
      · have HPP : Hid (prefP l) := Lib.hid (HBP.out.1 rfl)
        clear HBP
        go_wp2_with fail
        refine (HS.out _ (HL.out.later HB3.out)).mono ?_
        rintro e w4 ⟨b4, hb4, rfl, hbw4⟩
        have HB4 := Lib.hid (Below.now HB3.out hbw4)
        have HBS := Lib.hid hb4
        clear hb4 hbw4 HB3 HS
        cases b4
        · have F := Lib.hid (cl_tf HLP.out HCP.out HPP.out (fun h => (by have := HBS.out.2 h; cases this)))
          go_wp2_with fail
          go_ret
          exact ⟨ret_str F.out.symm, HB4.out⟩
        · have F := Lib.hid (cl_tt HLP.out HCP.out HPP.out (HBS.out.1 rfl))
          go_wp2_with fail
          go_ret
          exact ⟨ret_str F.out.symm, HB4.out⟩
end Go.Proofs.Ytmgdglghjlggnaa
namespace Go.Proofs.Ytmgdglghjlggnaa
open Go.RowKit
set_option linter.unusedVariables false
set_option maxHeartbeats 1000000 in
theorem implIsCode_ud (l : List ByteArray) (a : Option Addr) (cap : Nat) (w : World) (hl : StrsIn w a l) (hlen : l.length ≤ 2 ^ 40) (hcap : l.length ≤ cap) (hsz : ∀ j, j < l.length → (nthS l j).size ≤ maxLen) :
    Calls Try.prog 6 #[.slice a l.length cap] w (RetP (udP l) w) := by
  have HL := Lib.hid hl
  have HOK := Lib.hid (fun W h => implListOk_any l a cap W h hlen hcap hsz)
  have HT := Lib.hid (fun W h => implTailsOf_any l a cap W h hlen hcap hsz)
  clear hl hsz
  go_enter Try.func6, Try.ntmps6
  go_wp2_with fail
  refine (HOK.out _ HL.out).mono ?_
  rintro e w1 ⟨bb, hbb, rfl, hb1⟩
  have HBB := Lib.hid hbb
  have HB1 := Lib.hid hb1
  clear hbb hb1 HOK
  cases bb
  · have F : Hid (RetP (udP l) w (.returned (.bool false)) w1) := Lib.hid (RetP.no (fun h => by have := HBB.out.2 h.1; cases this) HB1.out)
    go_wp2_with fail
    go_ret
    exact F.out
  · have HLP := Lib.hid (HBB.out.1 rfl)
    have HK := Lib.hid (LOk.of HLP.out)
    go_wp2_with fail
    refine (HT.out _ (HL.out.later HB1.out)).mono ?_
    rintro e w2 (⟨hno, _, _⟩ | ⟨_, out, S, vs, a1, c1, hf, he, hsi, rfl, hown, hb2⟩)
    · exact absurd HLP.out hno
    have HF := Lib.hid hf
    have HE := Lib.hid he
    have HB2 := Lib.hid (Below.now HB1.out hb2)
    have hol := freshT_len HK.out hf
    have hvl : vs.length = out.length := by have := hown.1; omega
    have HP : Hid (PredAt w2.heap.size 21 #[] (fun j => (⟨#[]⟩ : ByteArray) ∈ nthL out.reverse j) vs w2) := Lib.hid (fun j v hv W hW => by
      have hj : j < out.length := by
        have := (List.getElem?_eq_some_iff.1 hv).1
        rw [hvl] at this; exact this
      obtain ⟨adj, cj, hv1, hv2, hv3, _⟩ := hsi.2 j (by simpa using hj)
      rw [hv] at hv1
      obtain rfl := Option.some.inj hv1
      have hm := List.mem_reverse.1 (nthL_mem (show j < out.reverse.length by simpa using hj))
      have h41 := (freshT_all HK.out HF.out).2 _ hm
      have hx41 := HK.out.set h41.1.nodup h41.2
      exact isCode1_any (nthL out.reverse j) (some adj) cj W (hv2.later hW) (freshT_pos HF.out hm) (by omega))
    have hCF := containsFuncSets_any 21 #[] (fun j => (⟨#[]⟩ : ByteArray) ∈ nthL out.reverse j) vs a1 c1 w2 (owns_cells hown) (by rw [hvl]; omega) w2.heap.size (Nat.le_refl _) HP.out (enters_of Try.func21 (by kernel_rfl) rfl)
    rw [hvl] at hCF
    have HCF := Lib.hid hCF
    clear hf he hsi hown hb2 hvl hCF HP HT
    go_wp2_with fail
    refine HCF.out.mono ?_
    rintro e w3 ⟨b3, hb3, rfl, hbw3⟩
    have F : Hid (RetP (udP l) w (.returned (.bool !b3)) w3) := Lib.hid (by
      have hcp := udP_of HLP.out HF.out HE.out
      cases b3
      · refine RetP.yes (hcp.2 (fun X hX hm => ?_)) (Below.now HB2.out hbw3)
        obtain ⟨i, hi, rfl⟩ := mem_nthL (List.mem_reverse.2 hX)
        have := hb3.2 ⟨i, by simpa using hi, hm⟩
        cases this
      · refine RetP.no (fun h => ?_) (Below.now HB2.out hbw3)
        obtain ⟨i, hi, hm⟩ := hb3.1 rfl
        exact hcp.1 h _ (List.mem_reverse.1 (nthL_mem (by simpa using hi))) hm)
    clear hb3 hbw3 HCF
    go_wp2_with fail
    go_ret
    exact F.out
end Go.Proofs.Ytmgdglghjlggnaa
namespace Go.Proofs.Ytmgdglghjlggnaa
open Go.RowKit Go.Maps Go.WideShapes Go.WideMaps
set_option linter.unusedVariables false
theorem ba_ext0 {a b : ByteArray} (h : a.data.toList = b.data.toList) : a = b := blW_inj h
abbrev WayD := List (ByteArray × Nat)
def addW (W : WayD) (i c : Nat) : WayD := W.modify i fun p => (p.1, p.2 + c)
theorem addW_split {W : WayD} {i c : Nat} (h : i < W.length) : addW W i c = W.take i ++ [(W[i].1, W[i].2 + c)] ++ W.drop (i + 1) := by
  unfold addW
  rw [List.modify_eq_take_cons_drop h]
  simp
def keyL (e : ByteArray) : Lit := .string e.data.toList
theorem keyL_same {a b : ByteArray} : (keyL a).sameKey (keyL b) = true ↔ a = b := by
  unfold keyL Lit.sameKey
  constructor
  · intro h; exact ba_ext0 (by simpa using h)
  · intro h; subst h; simp
def encW (p : ByteArray × Nat) : Lit × DataW Unit := (keyL p.1, .lit (.int .i64 (p.2 : Int)))
/-- the ends are different ones -/
def ApartW (V : WayD) : Prop := V.Pairwise (fun p q => p.1 ≠ q.1)
/-- a map holds these ways -/
def RepM (D : DataW Unit) (V : WayD) : Prop := ApartW V ∧ ∃ es, D = .map es ∧ es.Perm (V.map encW)
theorem RepM.nil : RepM (.map []) [] := ⟨List.Pairwise.nil, [], rfl, .refl _⟩
theorem ApartW.eq {V : WayD} (h : ApartW V) {i j : Nat} (hi : i < V.length) (hj : j < V.length) (he : V[i].1 = V[j].1) : i = j := by
  rcases Nat.lt_trichotomy i j with e | e | e
  · exact absurd he ((List.pairwise_iff_getElem.1 h) i j hi hj e)
  · exact e
  · exact absurd he.symm ((List.pairwise_iff_getElem.1 h) j i hj hi e)
theorem RepM.look {D : DataW Unit} {V : WayD} (h : RepM D V) (v : ByteArray) : (∃ i, ∃ hi : i < V.length, V[i].1 = v ∧ ∀ zd, D.atKey (keyL v) zd = .lit (.int .i64 (V[i].2 : Int))) ∨ ((∀ p ∈ V, p.1 ≠ v) ∧ ∀ zd, D.atKey (keyL v) zd = zd) := by
  obtain ⟨hap, es, rfl, hp⟩ := h
  by_cases hex : ∃ p ∈ V, p.1 = v
  · left
    obtain ⟨p, hpV, rfl⟩ := hex
    obtain ⟨i, hi, rfl⟩ := List.getElem_of_mem hpV
    refine ⟨i, hi, rfl, fun zd => ?_⟩
    have hm : encW V[i] ∈ es := hp.mem_iff.2 (List.mem_map_of_mem (List.getElem_mem hi))
    unfold DataW.atKey
    simp only []
    cases hf : es.find? (fun p => p.1.sameKey (keyL V[i].1)) with
    | none =>
      have := (List.find?_eq_none.1 hf) _ hm
      exact absurd (keyL_same.2 rfl) this
    | some q =>
      have h1 := List.find?_some hf
      have h2 := List.mem_of_find?_eq_some hf
      obtain ⟨r, hr, rfl⟩ := List.mem_map.1 (hp.mem_iff.1 h2)
      obtain ⟨j, hj, rfl⟩ := List.getElem_of_mem hr
      have h3 := keyL_same.1 h1
      have := hap.eq hj hi h3
      subst this
      rfl
  · right
    have hne : ∀ p ∈ V, p.1 ≠ v := fun p hp e => hex ⟨p, hp, e⟩
    refine ⟨hne, fun zd => ?_⟩
    unfold DataW.atKey
    simp only []
    cases hf : es.find? (fun p => p.1.sameKey (keyL v)) with
    | none => rfl
    | some q =>
      have h1 := List.find?_some hf
      have h2 := List.mem_of_find?_eq_some hf
      obtain ⟨r, hr, rfl⟩ := List.mem_map.1 (hp.mem_iff.1 h2)
      exact absurd (keyL_same.1 h1) (hne r hr)
theorem filter_enc (V : WayD) (v : ByteArray) : (V.map encW).filter (fun p => !p.1.sameKey (keyL v)) = (V.filter fun p => !decide (p.1 = v)).map encW := by
  rw [List.filter_map]
  congr 1
  apply List.filter_congr
  intro p _
  show (!(keyL p.1).sameKey (keyL v)) = _
  congr 1
  rw [Bool.eq_iff_iff, keyL_same, decide_eq_true_iff]
theorem RepM.new {D : DataW Unit} {V : WayD} (h : RepM D V) {v : ByteArray} (c : Nat) (hv : ∀ p ∈ V, p.1 ≠ v) : RepM (D.put (keyL v) (.lit (.int .i64 (c : Int)))) (V ++ [(v, c)]) := by
  obtain ⟨hap, es, rfl, hp⟩ := h
  refine ⟨?_, _, rfl, ?_⟩
  · unfold ApartW
    rw [List.pairwise_append]
    exact ⟨hap, List.pairwise_singleton _ _, fun p hp q hq => by rw [List.mem_singleton.1 hq]; exact hv p hp⟩
  · refine (insert_perm _ _).trans ?_
    have h1 := hp.filter (fun p => !p.1.sameKey (keyL v))
    have h2 : V.filter (fun p => !decide (p.1 = v)) = V := List.filter_eq_self.2 (fun p hp => by simpa using hv p hp)
    rw [filter_enc, h2] at h1
    refine (h1.cons _).trans ?_
    rw [List.map_append]
    exact (List.perm_append_singleton _ _).symm
theorem apart_split {V : WayD} (hap : ApartW V) {a : Nat} (ha : a < V.length) : V.filter (fun p => !decide (p.1 = V[a].1)) = V.take a ++ V.drop (a + 1) := by
  have e : V = V.take a ++ V[a] :: V.drop (a + 1) := by
    conv => lhs; rw [← List.take_append_drop a V, List.drop_eq_getElem_cons ha]
  have h1 : (V.take a).filter (fun p => !decide (p.1 = V[a].1)) = V.take a := List.filter_eq_self.2 (fun p hp => by
    obtain ⟨i, hi, rfl⟩ := List.getElem_of_mem hp
    rw [List.length_take] at hi
    rw [List.getElem_take]
    have : V[i].1 ≠ V[a].1 := fun e => by have := hap.eq (show i < V.length by omega) ha e; omega
    simpa using this)
  have h2 : (V.drop (a + 1)).filter (fun p => !decide (p.1 = V[a].1)) = V.drop (a + 1) := List.filter_eq_self.2 (fun p hp => by
    obtain ⟨i, hi, rfl⟩ := List.getElem_of_mem hp
    rw [List.length_drop] at hi
    rw [List.getElem_drop]
    have : V[a + 1 + i].1 ≠ V[a].1 := fun e => by have := hap.eq (show a + 1 + i < V.length by omega) ha e; omega
    simpa using this)
  have h3 : V.filter (fun p => !decide (p.1 = V[a].1)) = (V.take a ++ V[a] :: V.drop (a + 1)).filter (fun p => !decide (p.1 = V[a].1)) := by rw [← e]
  rw [h3, List.filter_append, List.filter_cons, h1, h2]
  simp
theorem RepM.old {D : DataW Unit} {V : WayD} (h : RepM D V) {a : Nat} (ha : a < V.length) (c : Nat) : RepM (D.put (keyL V[a].1) (.lit (.int .i64 ((V[a].2 + c : Nat) : Int)))) (addW V a c) := by
  obtain ⟨hap, es, rfl, hp⟩ := h
  refine ⟨?_, _, rfl, ?_⟩
  · unfold ApartW addW
    rw [List.pairwise_iff_getElem]
    intro i j hi hj hij
    have h1 := (List.pairwise_iff_getElem.1 hap) i j (by simpa using hi) (by simpa using hj) hij
    rw [List.getElem_modify, List.getElem_modify]
    split <;> split <;> exact h1
  · refine (insert_perm _ _).trans ?_
    have h1 := hp.filter (fun p => !p.1.sameKey (keyL V[a].1))
    rw [filter_enc, apart_split hap ha] at h1
    refine (h1.cons _).trans ?_
    rw [addW_split ha]
    simp only [List.map_append, List.map_cons, List.append_assoc, List.cons_append, List.nil_append]
    exact (List.perm_middle).symm
theorem RepM.has {D : DataW Unit} {V : WayD} (h : RepM D V) {p : ByteArray × Nat} (hp : p ∈ V) : Maps.has D (keyL p.1) = true := by
  obtain ⟨hap, es, rfl, hpm⟩ := h
  rw [has_eq, List.any_eq_true]
  exact ⟨encW p, hpm.mem_iff.2 (List.mem_map_of_mem hp), keyL_same.2 rfl⟩
theorem wpList_insert_ownG {H : Type} {P : Program} (w : World) {ops : Array Oper} {rest : List Oper} {o : Oper} {a : Act} {Q : Exit → Act → World → Prop}
    (hg : o.guard = none) (m x v : Operand) (t : TypeId) (hop : o.op = Op.insert t m x v)
    (k e : TypeId) (K : Keyed P k) (ht : P.underlying t = some (.map k e)) (R : Value → Option (DataW H × List MemPlace)) (b n : Nat) (D : DataW H)
    (hm : a.eval m = .map (some b)) (hown : w.ownsMap P k R b n D) (hn : n < maxLen) (key val : Value) (kl : Lit) (hx : a.eval x = key) (hv : a.eval v = val) (hkey : keyOf P k key = some kl)
    (d : DataW H) (ps : List MemPlace) (hval : R val = some (d, ps))
    (hK : ∀ w', w'.ownsMap P k R b (n + 1) (D.put kl d) → w.grownBy w' (some b) → wpList P ops Q rest (a.put o.dst undef) w') :
    wpList P ops Q (o :: rest) a w := by
  refine wpList_plain hg fun K' hK' => ?_
  obtain ⟨w', hrun, r1, r2⟩ := hown.update K ht hn hkey hval
  unfold Oper.wp
  simp [execOp, hop, hm, hx, hv, hrun, Result.andThen]
  exact hK' _ _ (hK w' r1 r2)
theorem keySG : Keyed Try.prog 9 := string_keyed Try.underlying9
theorem keyOkG (s : ByteArray) (h : s.size ≤ maxLen) : keyOf Try.prog 9 (.string s) = some (keyL s) := keyOf_string_mk Try.underlying9 h
theorem zeroIntG (w : World) : (zeroValue 3).run Try.prog w = .ok (.int .i64 0) w := by kernel_rfl
abbrev OwnM (w : World) (b m : Nat) (D : DataW Unit) : Prop := w.ownsMap Try.prog 9 (plainElem (H := Unit) Try.prog 3) b m D
theorem belowGrown {w w' : World} (h : Below w.heap.size w w') : w.grownBy w' none := ⟨h.os, h.tape, h.output, h.size, fun k hk _ => h.block k hk⟩
theorem own_ne_map {w : World} {base : Nat} {T : TypeId} {size : Nat} {v : Value} {n : Nat} {xs : List Value} {b m : Nat} {D : DataW Unit} (h : w.ownsRow base T size v n xs) (hm : OwnM w b m D) : some b ≠ v.ownBlock := fun e => by
  obtain ⟨es, clock, hb, _⟩ := hm
  rcases h.2 with ⟨rfl, _⟩ | ⟨g, cap, cur, rfl, _, hg, _⟩
  · cases e
  · simp only [Value.ownBlock, Option.some.injEq] at e
    subst e
    rw [hb] at hg; cases hg
theorem own_ne_iter {w : World} {base : Nat} {T : TypeId} {size : Nat} {v : Value} {n : Nat} {xs : List Value} {b r m : Nat} {D : DataW Unit} {left : Lit → Bool} {cnt : Nat} (h : w.ownsRow base T size v n xs) (hm : w.ranges Try.prog 9 (plainElem (H := Unit) Try.prog 3) b r m D left cnt) : some r ≠ v.ownBlock := fun e => by
  obtain ⟨_, _, _, _, _, _, _, _, _, hit, _⟩ := hm
  rcases h.2 with ⟨rfl, _⟩ | ⟨g, cap, cur, rfl, _, hg, _⟩
  · cases e
  · simp only [Value.ownBlock, Option.some.injEq] at e
    subst e
    rw [hit] at hg; cases hg
theorem bldMap {T : TypeId} {w wr wr' : World} {v : Value} {n : Nat} {xs : List Value} {b : Nat} (h : Bld T 1 w wr v n xs) (hg : wr.grownBy wr' (some b)) (hne : some b ≠ v.ownBlock) (hb : w.heap.size ≤ b) : Bld T 1 w wr' v n xs :=
  keptB h hg (fun k hk e => hne (by rw [hk]; exact e)) (fun k hk => by cases hk; exact hb)
theorem invKG (key : Value) (kl : Lit) (h : keyOf Try.prog 9 key = some kl) : ∃ x, key = Value.string x := by
  obtain ⟨s, h1, _⟩ := string_of_keyOf Try.underlying9 h
  exact ⟨s, h1⟩
theorem invVG (v : Value) (y : DataW Unit × List MemPlace) (h : plainElem (H := Unit) Try.prog 3 v = some y) : ∃ c, v = Value.int .i64 c := by
  obtain ⟨c, h1, _⟩ := plainElem_int_inv Try.underlying3 h
  exact ⟨c, h1⟩
theorem RepM.size {D : DataW Unit} {V : WayD} (h : RepM D V) : Maps.size D = V.length := by
  obtain ⟨_, es, rfl, hp⟩ := h
  have := hp.length_eq
  rw [List.length_map] at this
  rw [← this]
  rfl
/-- words of t letters with no more than their readings -/
def LevP (l : List ByteArray) (t : Nat) (V : WayD) : Prop := ∀ p ∈ V, p.1.size = t ∧ ∃ X, RdL (bwL l) p.1.data.toList X ∧ p.2 ≤ X.length
/-- .. while the words whose last word is word i are being told; S: the rests that have come up -/
def PartP (l : List ByteArray) (S : Bw → Prop) (i t : Nat) (V : WayD) : Prop := ∀ p ∈ V, p.1.size = t ∧ LvTo (bwL l) S i p.1.data.toList p.2
theorem addW_mem {V : WayD} {a c : Nat} (ha : a < V.length) {p : ByteArray × Nat} (hp : p ∈ addW V a c) : p ∈ V ∨ p = (V[a].1, V[a].2 + c) := by
  rw [addW_split ha] at hp
  rcases List.mem_append.1 hp with hp | hp
  · rcases List.mem_append.1 hp with hp | hp
    · exact .inl ((List.take_sublist _ _).subset hp)
    · exact .inr (List.mem_singleton.1 hp)
  · exact .inl ((List.drop_sublist _ _).subset hp)
/-- the rests that have come up -/
def seenW (left : Lit → Bool) (W : WayD) (v : Bw) : Prop := ∃ p ∈ W, p.1.data.toList = v ∧ left (keyL p.1) = false
theorem seenW_not {left : Lit → Bool} {W : WayD} {x : ByteArray} (h : left (keyL x) = true) : ¬ seenW left W x.data.toList := by
  rintro ⟨p, hp, e, h2⟩
  rw [ba_ext0 e, h] at h2
  cases h2
theorem seenW_more {left : Lit → Bool} {W : WayD} {x : ByteArray} {v : Bw} (h : seenW left W v) : seenW (fun z => left z && !z.sameKey (keyL x)) W v := by
  obtain ⟨p, hp, e, h2⟩ := h
  exact ⟨p, hp, e, by show (left (keyL p.1) && _) = false; rw [h2]; rfl⟩
theorem seenW_now {left : Lit → Bool} {W : WayD} {x : ByteArray × Nat} (hx : x ∈ W) : seenW (fun z => left z && !z.sameKey (keyL x.1)) W x.1.data.toList :=
  ⟨x, hx, rfl, by show (left (keyL x.1) && !(keyL x.1).sameKey (keyL x.1)) = false; rw [keyL_same.2 rfl]; simp⟩
section
variable {l : List ByteArray} {left : Lit → Bool} {W V : WayD} {i t : Nat}
theorem PartP.start : PartP l (fun _ => False) i t [] := fun p hp => by cases hp
theorem PartP.open_ (h : PartP l (fun _ => False) i t V) : PartP l (seenW left W) i t V := fun p hp => ⟨(h p hp).1, (h p hp).2.grow fun w h => h.elim⟩
theorem PartP.shut (h : PartP l (seenW left W) i t V) : PartP l (fun _ => False) (i + 1) t V := fun p hp => ⟨(h p hp).1, (h p hp).2.next⟩
theorem PartP.none (h : PartP l (fun _ => False) i t V) : PartP l (fun _ => False) (i + 1) t V := fun p hp => ⟨(h p hp).1, (h p hp).2.next⟩
theorem cat_list (x y : ByteArray) : (x ++ y).data.toList = x.data.toList ++ y.data.toList := by rw [ByteArray.data_append, Array.toList_append]
/-- one more rest: its word is in the map already, or new (c = 0) -/
theorem PartP.one (h : PartP l (seenW left W) i t V) (hi : i < l.length) {x : ByteArray × Nat} (hx : x ∈ W) (hl : left (keyL x.1) = true) {X : List (List Nat)} (hX : RdL (bwL l) x.1.data.toList X) (hc : x.2 ≤ X.length) {c : Nat} (hv : LvTo (bwL l) (seenW left W) i (x.1.data.toList ++ (nthS l i).data.toList) c) :
    LvTo (bwL l) (seenW (fun z => left z && !z.sameKey (keyL x.1)) W) i (x.1 ++ nthS l i).data.toList (c + x.2) := by
  have hi2 : i < (bwL l).length := by simpa [bwL] using hi
  have e : (bwL l).getD i [] = (nthS l i).data.toList := by
    unfold bwL
    rw [List.getD_eq_getElem?_getD, List.getElem?_map, List.getElem?_eq_getElem hi, nthS_lt hi]
    rfl
  rw [cat_list, ← e]
  rw [← e] at hv
  exact hv.put hi2 (seenW_not hl) (fun w hw => seenW_more hw) (seenW_now hx) hX hc
theorem PartP.old (h : PartP l (seenW left W) i t V) (hi : i < l.length) {x : ByteArray × Nat} (hx : x ∈ W) (hl : left (keyL x.1) = true) {X : List (List Nat)} (hX : RdL (bwL l) x.1.data.toList X) (hc : x.2 ≤ X.length) {a : Nat} (ha : a < V.length) (he : V[a].1 = x.1 ++ nthS l i) :
    PartP l (seenW (fun z => left z && !z.sameKey (keyL x.1)) W) i t (addW V a x.2) := by
  intro p hp
  rcases addW_mem ha hp with hp | rfl
  · exact ⟨(h p hp).1, (h p hp).2.grow fun w hw => seenW_more hw⟩
  · obtain ⟨h1, h2⟩ := h V[a] (List.getElem_mem ha)
    refine ⟨h1, ?_⟩
    show LvTo (bwL l) _ i V[a].1.data.toList (V[a].2 + x.2)
    rw [he, cat_list] at h2
    rw [he]
    exact h.one hi hx hl hX hc h2
theorem PartP.new (h : PartP l (seenW left W) i t V) (hi : i < l.length) {x : ByteArray × Nat} (hx : x ∈ W) (hl : left (keyL x.1) = true) {X : List (List Nat)} (hX : RdL (bwL l) x.1.data.toList X) (hc : x.2 ≤ X.length) (hs : (x.1 ++ nthS l i).size = t) :
    PartP l (seenW (fun z => left z && !z.sameKey (keyL x.1)) W) i t (V ++ [(x.1 ++ nthS l i, x.2)]) := by
  intro p hp
  rcases List.mem_append.1 hp with hp | hp
  · exact ⟨(h p hp).1, (h p hp).2.grow fun w hw => seenW_more hw⟩
  · obtain rfl := List.mem_singleton.1 hp
    refine ⟨hs, ?_⟩
    have := h.one hi hx hl hX hc (LvTo.zero _ _ _ _)
    rwa [Nat.zero_add] at this
theorem PartP.done (hl : listP l) (h : PartP l (fun _ => False) i t V) : LevP l t V := fun p hp => by
  obtain ⟨h1, h2⟩ := h p hp
  obtain ⟨X, hX, _⟩ := rd_ex (bwL_ne hl) p.1.data.toList.length p.1.data.toList (Nat.le_refl _)
  exact ⟨h1, X, hX, h2.le hX⟩
theorem LevP.top (hl : listP l) (h : LevP l t V) (ht : t ≤ 12) {p : ByteArray × Nat} (hp : p ∈ V) : p.2 ≤ 9 ^ 12 := by
  obtain ⟨h1, X, hX, h2⟩ := h p hp
  obtain ⟨Y, hY, hYl⟩ := rd_ex (bwL_ne hl) p.1.data.toList.length p.1.data.toList (Nat.le_refl _)
  rw [hX.len hY] at h2
  have h8 : (bwL l).length + 1 ≤ 9 := by have := hl.1.2; simp [bwL]; omega
  have h3 : p.1.data.toList.length ≤ 12 := by rw [show p.1.data.toList.length = p.1.size from rfl]; omega
  exact Nat.le_trans h2 (Nat.le_trans hYl (Nat.le_trans (Nat.pow_le_pow_left h8 _) (Nat.pow_le_pow_right (by decide) h3)))
theorem PartP.top {S : Bw → Prop} (hl : listP l) (h : PartP l S i t V) (ht : t ≤ 12) {p : ByteArray × Nat} (hp : p ∈ V) : p.2 ≤ 9 ^ 12 := by
  obtain ⟨h1, h2⟩ := h p hp
  obtain ⟨Y, hY, hYl⟩ := rd_ex (bwL_ne hl) p.1.data.toList.length p.1.data.toList (Nat.le_refl _)
  have h4 := h2.le hY
  have h8 : (bwL l).length + 1 ≤ 9 := by have := hl.1.2; simp [bwL]; omega
  have h3 : p.1.data.toList.length ≤ 12 := by rw [show p.1.data.toList.length = p.1.size from rfl]; omega
  exact Nat.le_trans h4 (Nat.le_trans hYl (Nat.le_trans (Nat.pow_le_pow_left h8 _) (Nat.pow_le_pow_right (by decide) h3)))
theorem LevP.zero (hl : listP l) : LevP l 0 [(⟨#[]⟩, 1)] := fun p hp => by
  obtain rfl := List.mem_singleton.1 hp
  exact ⟨rfl, [[]], RdL.nil (bwL_ne hl), Nat.le_refl _⟩
end
end Go.Proofs.Ytmgdglghjlggnaa
namespace Go.Proofs
open Go.Shelf
def Try.keys30_ren : Go.Shelf.Ren := ⟨fun | 7 => 30 | 10 => 51 | n => n, fun | 23 => 51 | 26 => 9 | 3 => 3 | 28 => 55 | 0 => 0 | 27 => 54 | 33 => 59 | 4 => 4 | n => n, fun | n => n⟩
theorem Try.keys30 : Go.Proofs.SlLaysZ.n7 Try.prog Try.keys30_ren := {
  mixed := by kernel_rfl
  f7 := ⟨Try.f30.name, by decide, Try.func30.trans (congrArg some (by kernel_rfl))⟩
  f10 := ⟨Try.f51.name, by decide, Try.func51.trans (congrArg some (by kernel_rfl))⟩
  t0 := Try.underlying0
  a0 := Try.isAgg0
  z0 := Try.sizeOf0
  v0 := Try.zeroValue0
  t4 := Try.underlying4
  a4 := Try.isAgg4
  z4 := Try.sizeOf4
  v4 := Try.zeroValue4
  t23 := Try.underlying51
  a23 := Try.isAgg51
  z23 := Try.sizeOf51
  v23 := Try.zeroValue51
  t26 := Try.underlying9
  a26 := Try.isAgg9
  z26 := Try.sizeOf9
  v26 := Try.zeroValue9
  t27 := Try.underlying54
  a27 := Try.isAgg54
  z27 := Try.sizeOf54
  v27 := Try.zeroValue54
  t28 := Try.underlying55
  a28 := Try.isAgg55
  z28 := Try.sizeOf55
  v28 := Try.zeroValue55
  t33 := Try.underlying59
  a33 := Try.isAgg59
  z33 := Try.sizeOf59
  v33 := Try.zeroValue59 }
def Try.sorted29_ren : Go.Shelf.Ren := ⟨fun | 6 => 29 | 8 => 49 | 9 => 50 | 11 => 57 | 13 => 59 | 12 => 58 | 23 => 73 | 24 => 74 | 14 => 64 | 15 => 65 | 16 => 66 | 17 => 67 | 18 => 68 | 19 => 69 | 20 => 70 | 21 => 71 | 22 => 72 | 25 => 85 | 26 => 86 | 27 => 87 | 28 => 88 | 29 => 89 | 30 => 84 | 31 => 93 | n => n, fun | 26 => 9 | 28 => 55 | 24 => 23 | 0 => 0 | 3 => 3 | 37 => 66 | 48 => 89 | 50 => 91 | 4 => 4 | 40 => 82 | 39 => 81 | 45 => 86 | 5 => 5 | 9 => 9 | 51 => 98 | 55 => 102 | 57 => 106 | 58 => 31 | 33 => 59 | n => n, fun | n => n⟩
theorem Try.sorted29 : Go.Proofs.SlLaysZ.n6 Try.prog Try.sorted29_ren := {
  mixed := by kernel_rfl
  f6 := ⟨Try.f29.name, by decide, Try.func29.trans (congrArg some (by kernel_rfl))⟩
  f8 := ⟨Try.f49.name, by decide, Try.func49.trans (congrArg some (by kernel_rfl))⟩
  f11 := ⟨Try.f57.name, by decide, Try.func57.trans (congrArg some (by kernel_rfl))⟩
  t0 := Try.underlying0
  a0 := Try.isAgg0
  z0 := Try.sizeOf0
  v0 := Try.zeroValue0
  t24 := Try.underlying23
  a24 := Try.isAgg23
  z24 := Try.sizeOf23
  v24 := Try.zeroValue23
  t26 := Try.underlying9
  a26 := Try.isAgg9
  z26 := Try.sizeOf9
  v26 := Try.zeroValue9
  t28 := Try.underlying55
  a28 := Try.isAgg55
  z28 := Try.sizeOf55
  v28 := Try.zeroValue55
  i26 := by kernel_rfl }
def Try.sort50_ren : Go.Shelf.Ren := ⟨fun | 6 => 50 | 8 => 59 | 9 => 58 | 19 => 73 | 20 => 74 | 21 => 64 | 22 => 65 | 23 => 66 | 24 => 67 | 25 => 68 | 26 => 69 | 27 => 70 | 28 => 71 | 29 => 72 | 36 => 85 | 31 => 86 | 32 => 87 | 37 => 88 | 38 => 89 | 39 => 84 | 41 => 93 | n => n, fun | 27 => 23 | 29 => 9 | 3 => 3 | 32 => 66 | 26 => 23 | 0 => 0 | 44 => 89 | 46 => 91 | 4 => 4 | 36 => 82 | 35 => 81 | 41 => 86 | 5 => 5 | 9 => 9 | 53 => 98 | 57 => 102 | 63 => 106 | 64 => 31 | n => n, fun | n => n⟩
theorem Try.sort50 : Go.Proofs.SlLaysM.n6 Try.prog Try.sort50_ren := {
  mixed := by kernel_rfl
  f6 := ⟨Try.f50.name, by decide, Try.func50.trans (congrArg some (by kernel_rfl))⟩
  f8 := Try.func59.trans (congrArg some (by kernel_rfl))
  f9 := ⟨Try.f58.name, by decide, Try.func58.trans (congrArg some (by kernel_rfl))⟩
  f19 := Try.func73.trans (congrArg some (by kernel_rfl))
  f20 := Try.func74.trans (congrArg some (by kernel_rfl))
  f21 := ⟨Try.f64.name, by decide, Try.func64.trans (congrArg some (by kernel_rfl))⟩
  f22 := ⟨Try.f65.name, by decide, Try.func65.trans (congrArg some (by kernel_rfl))⟩
  f23 := ⟨Try.f66.name, by decide, Try.func66.trans (congrArg some (by kernel_rfl))⟩
  f24 := ⟨Try.f67.name, by decide, Try.func67.trans (congrArg some (by kernel_rfl))⟩
  f25 := ⟨Try.f68.name, by decide, Try.func68.trans (congrArg some (by kernel_rfl))⟩
  f26 := ⟨Try.f69.name, by decide, Try.func69.trans (congrArg some (by kernel_rfl))⟩
  f27 := ⟨Try.f70.name, by decide, Try.func70.trans (congrArg some (by kernel_rfl))⟩
  f28 := ⟨Try.f71.name, by decide, Try.func71.trans (congrArg some (by kernel_rfl))⟩
  f29 := ⟨Try.f72.name, by decide, Try.func72.trans (congrArg some (by kernel_rfl))⟩
  f31 := Try.func86.trans (congrArg some (by kernel_rfl))
  f32 := Try.func87.trans (congrArg some (by kernel_rfl))
  f36 := ⟨Try.f85.name, by decide, Try.func85.trans (congrArg some (by kernel_rfl))⟩
  f37 := ⟨Try.f88.name, by decide, Try.func88.trans (congrArg some (by kernel_rfl))⟩
  f38 := ⟨Try.f89.name, by decide, Try.func89.trans (congrArg some (by kernel_rfl))⟩
  f39 := ⟨Try.f84.name, by decide, Try.func84.trans (congrArg some (by kernel_rfl))⟩
  f41 := ⟨Try.f93.name, by decide, Try.func93.trans (congrArg some (by kernel_rfl))⟩
  t0 := Try.underlying0
  a0 := Try.isAgg0
  z0 := Try.sizeOf0
  v0 := Try.zeroValue0
  t3 := Try.underlying3
  a3 := Try.isAgg3
  z3 := Try.sizeOf3
  v3 := Try.zeroValue3
  t4 := Try.underlying4
  a4 := Try.isAgg4
  z4 := Try.sizeOf4
  v4 := Try.zeroValue4
  t5 := Try.underlying5
  a5 := Try.isAgg5
  z5 := Try.sizeOf5
  v5 := Try.zeroValue5
  t9 := Try.underlying9
  a9 := Try.isAgg9
  z9 := Try.sizeOf9
  v9 := Try.zeroValue9
  t26 := Try.underlying23
  a26 := Try.isAgg23
  z26 := Try.sizeOf23
  v26 := Try.zeroValue23
  t27 := Try.underlying23
  a27 := Try.isAgg23
  z27 := Try.sizeOf23
  v27 := Try.zeroValue23
  t29 := Try.underlying9
  a29 := Try.isAgg9
  z29 := Try.sizeOf9
  v29 := Try.zeroValue9
  t32 := Try.underlying66
  a32 := Try.isAgg66
  z32 := Try.sizeOf66
  v32 := Try.zeroValue66
  t35 := Try.underlying81
  a35 := Try.isAgg81
  z35 := Try.sizeOf81
  v35 := Try.zeroValue81
  t36 := Try.underlying82
  a36 := Try.isAgg82
  z36 := Try.sizeOf82
  v36 := Try.zeroValue82
  t41 := Try.underlying86
  a41 := Try.isAgg86
  z41 := Try.sizeOf86
  v41 := Try.zeroValue86
  t44 := Try.underlying89
  a44 := Try.isAgg89
  z44 := Try.sizeOf89
  v44 := Try.zeroValue89
  t46 := Try.underlying91
  a46 := Try.isAgg91
  z46 := Try.sizeOf91
  v46 := Try.zeroValue91
  t53 := Try.underlying98
  a53 := Try.isAgg98
  z53 := Try.sizeOf98
  v53 := Try.zeroValue98
  t57 := Try.underlying102
  a57 := Try.isAgg102
  z57 := Try.sizeOf102
  v57 := Try.zeroValue102
  t63 := Try.underlying106
  a63 := Try.isAgg106
  z63 := Try.sizeOf106
  v63 := Try.zeroValue106
  t64 := Try.underlying31
  a64 := Try.isAgg31
  z64 := Try.sizeOf31
  v64 := Try.zeroValue31 }
end Go.Proofs
namespace Go.Proofs.Ytmgdglghjlggnaa
open Go.RowKit Go.Maps Go.Sort Go.Shelf
set_option linter.unusedVariables false
theorem sortsKz (m : Nat) : AnyZ.SortsIn Try.prog Try.sorted29_ren Fence.wide m :=
  ⟨fun blk off cap ss W hH hblk hsz => callsIn_wide.2 (AnyM.slices_Sort_string Try.sort50 blk off cap ss W hH hblk hsz),
   fun p cap W => callsIn_wide.2 (AnyM.slices_Sort_string_none Try.sort50 p cap W)⟩
theorem keysK_any (mb : Option Nat) (W : World) :
    Calls Try.prog 30 #[.map mb] W fun e w' => e = .returned (.func (.func 51) #[] #[.pointer (some ⟨W.heap.size, 0, none⟩)]) ∧ w' = W.alloc (.cells #[.map mb] 51) :=
  (callsIn_wide (n := 5)).1 (AnyZ.keys_in Try.keys30 Fence.wide 5 trivial rfl mb W)
theorem strKeysW (V : WayD) : (V.map encW).map (fun p => strOf p.1) = V.map (fun p => p.1.data.toList) := by
  rw [List.map_map]; rfl
theorem RepM.keys {D : DataW Unit} {V : WayD} (h : RepM D V) {x : List UInt8} (hx : x ∈ strKeys D) : ∃ p ∈ V, p.1 = ⟨x.toArray⟩ := by
  obtain ⟨_, es, rfl, hp⟩ := h
  have h2 : x ∈ (V.map encW).map (fun p => strOf p.1) := (hp.map _).mem_iff.1 hx
  rw [strKeysW] at h2
  obtain ⟨p, hpV, rfl⟩ := List.mem_map.1 h2
  exact ⟨p, hpV, rfl⟩
theorem RepM.keysLen {D : DataW Unit} {V : WayD} (h : RepM D V) : (strKeys D).length = V.length := by
  obtain ⟨_, es, rfl, hp⟩ := h
  have := hp.length_eq
  rw [List.length_map] at this
  rw [← this]
  simp [strKeys]
set_option maxHeartbeats 1000000 in
theorem sortedK_any (b m : Nat) (D : DataW Unit) (V : WayD) (w : World) (hown : OwnM w b m D) (hR : RepM D V) (hV : V.length ≤ 2 ^ 40) :
    Calls Try.prog 29 #[.func (.func 51) #[] #[.pointer (some ⟨w.heap.size, 0, none⟩)]] (w.alloc (.cells #[.map (some b)] 51)) fun e w' => ∃ (a : Option Addr) (cap : Nat) (ks : List ByteArray),
      e = .returned (.slice a ks.length cap) ∧ ks.length = V.length ∧ (∀ k ∈ ks, ∃ p ∈ V, p.1 = k) ∧ StrsIn w' a ks ∧ Below (w.alloc (.cells #[.map (some b)] 51)).heap.size (w.alloc (.cells #[.map (some b)] 51)) w' := by
  have hbl := hown.lt
  have hsz := hR.size
  have hmax : Maps.size D ≤ maxLen := by rw [hsz]; unfold maxLen; omega
  have hseq : SeqGives Fence.wide 2 Try.prog 51 #[.pointer (some ⟨w.heap.size, 0, none⟩)] encStr (fun ss => ss.Perm (strKeys D)) (Maps.size D) (w.alloc (.cells #[.map (some b)] 51)) :=
    AnyZ.keys_gives (ρ := Try.keys30_ren) { Try.keys30 with } Fence.wide _ trivial rfl (by omega) w.heap.size b m D _ (by simp) (by simp) (by
      obtain ⟨es, clock, hb, Ft, hs, hD⟩ := hown
      exact ⟨es, clock, (Below.heap_alloc _ _ b hbl).trans hb, Ft, hs, hD⟩)
  refine (callsIn_wide.1 (AnyZ.sorted_in Try.sorted29 Fence.wide 5 trivial trivial trivial trivial rfl (by omega) (sortsKz _) (enters_of Try.func50 (by kernel_rfl) rfl) 51 #[.pointer (some ⟨w.heap.size, 0, none⟩)] trivial (enters_of Try.func51 (by kernel_rfl) rfl) _ _ hmax (by rw [hsz]; omega) _ hseq)).mono ?_
  rintro e w' ⟨v, ss, rfl, hp, hrow, hnil, hb⟩
  obtain ⟨a, cap, rfl⟩ := owns_form hrow
  refine ⟨a, cap, (ss.mergeSort (fun x y => decide (x ≤ y))).map (fun x => ⟨x.toArray⟩), ?_, ?_, ?_, ?_, hb⟩
  · simp [List.length_mergeSort]
  · simp [List.length_mergeSort, hp.length_eq, hR.keysLen]
  · intro k hk
    obtain ⟨x, hx, rfl⟩ := List.mem_map.1 hk
    exact hR.keys (hp.mem_iff.1 ((List.mergeSort_perm ss _).mem_iff.1 hx))
  · have h := owns_cells hrow
    unfold StrsIn
    rw [List.map_map]
    exact h
end Go.Proofs.Ytmgdglghjlggnaa
